/- Plain facts, no program in sight: what a name is, which spans may be, a span's bytes, and how they are read. The walks on names, and which spans may be. The walks of the pointers to a span's fields. The walk of spans.Check. The walks of Less. The walks of Encode. The walk of spans.Encode. The walk of spans.Take. The walk of the reference's Take. The walks of Decode and of the reference's. The statements' own helpers on spans: what is great, the chapter's span, the examples. A span as an argument, opened. The walks of the statements on spans. -/
import Derived.Test.YtoglloafpnopaaaGreatTA
import Derived.Test.YtoglloafpnopaaaGreatTB
import Derived.Test.YtoglloafpnopaaaGreatTC
import Derived.StillTailTactics
import Derived.LoopTactic
import Derived.Deep.DeepCutAuto
import Derived.Deep.RegionWith
set_option linter.unusedSimpArgs false
set_option linter.unusedVariables false
namespace Spoor
def byteOk (c : UInt8) : Bool := decide (33 ≤ c.toNat ∧ c.toNat ≤ 126)
def nameOk (l : List UInt8) : Bool := decide (1 ≤ l.length ∧ l.length ≤ 12) && l.all byteOk
structure Sp where
 tr : Int
 id : Int
 pa : Int
 sv : List UInt8
 ho : List UInt8
 st : Int
 du : Int
 no : List UInt8
 deriving DecidableEq
def Sp.num (x : Sp) : Nat → Int
 | 0 => x.tr
 | 1 => x.id
 | 2 => x.pa
 | 3 => x.st
 | _ => x.du
def leastOf : Nat → Int
 | 0 => 1
 | 1 => 1
 | _ => 0
def mostOf : Nat → Int
 | 0 => 2147483647
 | 1 => 2147483647
 | 2 => 2147483647
 | _ => 1073741824
def numOk (x : Sp) (i : Nat) : Bool := decide (leastOf i ≤ x.num i) && decide (x.num i ≤ mostOf i)
def Sp.ok (x : Sp) : Bool := numOk x 0 && numOk x 1 && numOk x 2 && numOk x 3 && numOk x 4 && nameOk x.sv && nameOk x.ho && decide (x.no.length ≤ 24)
def Sp.zero : Sp := ⟨0, 0, 0, [], [], 0, 0, []⟩
def Sp.bytes (x : Sp) : List UInt8 := put x.tr.toNat ++ put x.id.toNat ++ put x.pa.toNat ++ put x.st.toNat ++ put x.du.toNat ++ putText x.sv ++ putText x.ho ++ putText x.no
theorem numOk_of {x : Sp} {i : Nat} (h : numOk x i = true) : leastOf i ≤ x.num i ∧ x.num i ≤ mostOf i := by
 unfold numOk at h
 simpa using h
theorem ok_of {x : Sp} (h : x.ok = true) : (1 ≤ x.tr ∧ x.tr ≤ 2147483647) ∧ (1 ≤ x.id ∧ x.id ≤ 2147483647) ∧ (0 ≤ x.pa ∧ x.pa ≤ 2147483647) ∧ (0 ≤ x.st ∧ x.st ≤ 1073741824) ∧ (0 ≤ x.du ∧ x.du ≤ 1073741824) ∧ nameOk x.sv = true ∧ nameOk x.ho = true ∧ x.no.length ≤ 24 := by
 unfold Sp.ok at h
 simp only [Bool.and_eq_true, decide_eq_true_eq] at h
 obtain ⟨⟨⟨⟨⟨⟨⟨h0, h1⟩, h2⟩, h3⟩, h4⟩, h5⟩, h6⟩, h7⟩ := h
 exact ⟨numOk_of h0, numOk_of h1, numOk_of h2, numOk_of h3, numOk_of h4, h5, h6, h7⟩
theorem nameOk_of {l : List UInt8} (h : nameOk l = true) : 1 ≤ l.length ∧ l.length ≤ 12 := by
 unfold nameOk at h
 simp only [Bool.and_eq_true, decide_eq_true_eq] at h
 exact h.1
end Spoor
namespace Go.Proofs.YtoglloafpnopaaaGreat
set_option maxRecDepth 16000
open Go.RowKit Spoor
def oddR (x : Nat) : Bool := decide (x ≤ 32) || decide (126 < x)
theorem odd_call (x : Nat) (W : World) (hx : x ≤ 1114111) : Calls Tryz.prog 148 #[.int .i32 x] W fun e w' => e = .returned (.bool (oddR x)) ∧ ∃ q, w' = W.drewN q := by
 by_cases h1 : (x : Int) ≤ 32
 · have e : oddR x = true := by simp [oddR]; omega
   rw [e]
   go_enter Tryz.func148, Tryz.ntmps148
   go_wp2
   go_ret
   exact ⟨rfl, 0, rfl⟩
 · by_cases h2 : 126 < (x : Int)
   · have e : oddR x = true := by simp [oddR]; omega
     rw [e]
     go_enter Tryz.func148, Tryz.ntmps148
     go_wp2
     go_ret
     exact ⟨rfl, 0, rfl⟩
   · have e : oddR x = false := by simp [oddR]; omega
     rw [e]
     go_enter Tryz.func148, Tryz.ntmps148
     go_wp2
     go_ret
     exact ⟨rfl, 0, rfl⟩
theorem idx_odd (s : ByteArray) : ∀ (f pos : Nat), s.size - pos ≤ f → (0 ≤ Lib.idxFuncFrom oddR true s f pos ↔ (s.data.toList.drop pos).all byteOk = false)
 | 0, pos, h => by
   rw [List.drop_of_length_le (by rw [bytes_len]; omega)]
   simp [Lib.idxFuncFrom]
 | f + 1, pos, h => by
   by_cases hp : pos < s.size
   · rw [Lib.idxFuncFrom, if_pos hp, drop_at _ pos (by rw [bytes_len]; exact hp), ← byte_at s pos hp]
     have hc := s[pos].toNat_lt
     by_cases ha : s[pos].toNat < 128
     · rw [decode_ascii s pos hp ha]
       simp only
       by_cases hok : byteOk s[pos] = true
       · have e : oddR s[pos].toNat = false := by
          unfold byteOk at hok
          simp only [decide_eq_true_eq] at hok
          simp [oddR]
          omega
         rw [e, if_neg (by decide), idx_odd s f (pos + 1) (by omega), List.all_cons, hok, Bool.true_and]
       · have e : oddR s[pos].toNat = true := by
          unfold byteOk at hok
          simp only [decide_eq_true_eq] at hok
          simp [oddR]
          omega
         rw [e, if_pos rfl, List.all_cons, Bool.eq_false_iff.2 hok, Bool.false_and]
         simp
     · have hd := (decode_high s pos hp (by omega)).1
       have e : oddR (Utf8.decode s pos).1 = true := by simp [oddR]; omega
       have hok : byteOk s[pos] = false := by simp [byteOk]; omega
       rw [e, if_pos rfl, List.all_cons, hok, Bool.false_and]
       simp
   · rw [List.drop_of_length_le (by rw [bytes_len]; omega), Lib.idxFuncFrom_end _ _ _ _ _ hp]
     simp
theorem containsOdd (s : ByteArray) : decide (0 ≤ Lib.idxFunc oddR true s) = !(s.data.toList.all byteOk) := by
 have := idx_odd s s.size 0 (by omega)
 rw [List.drop_zero] at this
 unfold Lib.idxFunc
 rw [Bool.eq_iff_iff, decide_eq_true_iff, this]
 simp
theorem contains_call (s : ByteArray) (w : World) : Calls Tryz.prog 149 #[.string s, .func (.func 148) #[] #[]] w fun e w' => e = .returned (.bool (!(s.data.toList.all byteOk))) ∧ Below w.heap.size w w' := by
 have := Tryz.strings_ContainsFunc_runes 148 #[] (fun args w => by kernel_rfl) oddR s w (fun W x hx _ => odd_call x W hx)
 rw [containsOdd] at this
 exact this
theorem name_anyS (s : ByteArray) (w : World) (hs : s.size ≤ maxLen) :
 Calls Tryz.prog 141 #[.string s] w fun e w' => e = .returned (.bool (nameOk s.data.toList)) ∧ Below w.heap.size w w' := by
 unfold maxLen at hs
 have hl := bytes_len s
 by_cases h0 : s.size = 0
 · have e : nameOk s.data.toList = false := by unfold nameOk; rw [hl]; simp [h0]
   have hs0 : s.toList = [] := by rw [ByteArray.toList_eq]; exact List.eq_nil_of_length_eq_zero (by omega)
   rw [e]
   clear hl e h0
   go_enter Tryz.func141, Tryz.ntmps141
   go_wp2
   go_ret
   exact ⟨rfl, Below.refl _ _⟩
 · have hs0 : s.toList.isEmpty = false := by
    rw [ByteArray.toList_eq]
    cases hh : s.data.toList with
    | nil => rw [hh] at hl; simp at hl; omega
    | cons a b => rfl
   by_cases h12 : (s.size : Int) ≤ 12
   · have e : nameOk s.data.toList = s.data.toList.all byteOk := by unfold nameOk; rw [hl]; simp; omega
     rw [e]
     have c := fun W => contains_call s W
     have C := Lib.hid c
     generalize s.data.toList.all byteOk = B at *
     clear hl e h0 c
     go_enter Tryz.func141, Tryz.ntmps141
     go_wp2_with fail
     refine (C.out _).mono ?_
     rintro e w1 ⟨rfl, hb⟩
     go_wp2_with fail
     go_ret
     exact ⟨by simp, hb⟩
   · have e : nameOk s.data.toList = false := by unfold nameOk; rw [hl]; simp; omega
     rw [e]
     clear hl e h0
     go_enter Tryz.func141, Tryz.ntmps141
     go_wp2_with fail
     go_ret
     exact ⟨rfl, Below.refl _ _⟩
theorem all_take (l : List UInt8) (k : Nat) (h : k < l.length) : (l.take (k + 1)).all byteOk = ((l.take k).all byteOk && byteOk (l.getD k 0)) := by
 rw [take_getD l k h, List.all_append]
 simp
theorem refName_any (s : ByteArray) (w : World) (hs : s.size ≤ maxLen) :
 Calls Tryz.prog 134 #[.string s] w fun e w' => e = .returned (.bool (nameOk s.data.toList)) ∧ w = w' := by
 unfold maxLen at hs
 have hl := bytes_len s
 by_cases h0 : (s.size : Int) < 1
 · have e : nameOk s.data.toList = false := by unfold nameOk; rw [hl]; simp; omega
   rw [e]
   clear hl e
   go_enter Tryz.func134, Tryz.ntmps134
   go_wp2
   go_ret
   exact ⟨rfl, rfl⟩
 · by_cases h12 : 12 < (s.size : Int)
   · have e : nameOk s.data.toList = false := by unfold nameOk; rw [hl]; simp; omega
     rw [e]
     clear hl e
     go_enter Tryz.func134, Tryz.ntmps134
     go_wp2
     go_ret
     exact ⟨rfl, rfl⟩
   · have e : nameOk s.data.toList = s.data.toList.all byteOk := by unfold nameOk; rw [hl]; simp; omega
     rw [e]
     have HL := Lib.hid hl
     obtain ⟨R, hR⟩ : ∃ R, s.data.toList.all byteOk = R := ⟨_, rfl⟩
     rw [hR]
     have HR := Lib.hid hR
     clear hl e hR
     go_enter Tryz.func134, Tryz.ntmps134
     go_wp2
     go_loop [3] (fun v => ∃ k : Nat, k ≤ s.size ∧ v = .int .i64 k ∧ Hid ((s.data.toList.take k).all byteOk = true)) (fun v => s.size - (intOf v).toNat)
     case atStart => exact ⟨0, by omega, rfl, rfl⟩
     case round =>
      obtain ⟨k, hk, rfl, hall⟩ := hrel
      by_cases hlt : k < s.size
      · have hidx := index_nat s k hlt
        have hst := all_take s.data.toList k (by rw [HL.out]; exact hlt)
        rw [hall.out, Bool.true_and] at hst
        have hno : byteOk (s.data.toList.getD k 0) = false → s.data.toList.all byteOk = false := fun h => by
         rw [← List.take_append_drop (k + 1) s.data.toList, List.all_append, hst, h, Bool.false_and]
        have hby : byteOk (s.data.toList.getD k 0) = decide (33 ≤ (s.data.toList.getD k 0).toNat ∧ (s.data.toList.getD k 0).toNat ≤ 126) := rfl
        generalize byteOk (s.data.toList.getD k 0) = B at hst hno hby
        have hc := (s.data.toList.getD k 0).toNat_lt
        generalize (s.data.toList.getD k 0).toNat = c at hidx hby hc
        have Hst := Lib.hid hst
        have Hno := Lib.hid hno
        have Hby := Lib.hid hby
        clear hst hno hby
        by_cases c1 : (c : Int) < 33
        · go_wp2
          go_ret
          exact ⟨ret1 (by rw [← HR.out, Hno.out (by rw [Hby.out]; simp; omega)]; rfl), rfl⟩
        · by_cases c2 : 126 < (c : Int)
          · go_wp2
            go_ret
            exact ⟨ret1 (by rw [← HR.out, Hno.out (by rw [Hby.out]; simp; omega)]; rfl), rfl⟩
          · go_wp2
            go_round
            case rel =>
             refine ⟨k + 1, by omega, by go_num, ?_⟩
             show _ = _
             rw [Hst.out, Hby.out]
             simp
             omega
            case measure => simp [intOf]; omega
      · obtain rfl : k = s.size := by omega
        have e : s.data.toList.all byteOk = true := by
         have := hall.out
         rwa [List.take_of_length_le (by rw [HL.out]; exact Nat.le_refl _)] at this
        have He := Lib.hid e
        clear e
        go_wp2
        go_ret
        exact ⟨ret1 (by rw [← HR.out, He.out]; rfl), rfl⟩
theorem between_any (n a b : Int) (w : World) : Calls Tryz.prog 133 #[.int .i64 n, .int .i64 a, .int .i64 b] w fun e w' => e = .returned (.bool (decide (a ≤ n) && decide (n ≤ b))) ∧ w = w' := by
 by_cases h1 : a ≤ n
 · by_cases h2 : n ≤ b
   · rw [show (decide (a ≤ n) && decide (n ≤ b)) = true by simp [h1, h2]]
     go_enter Tryz.func133, Tryz.ntmps133
     go_wp2
     go_ret
     exact ⟨rfl, rfl⟩
   · rw [show (decide (a ≤ n) && decide (n ≤ b)) = false by simp; omega]
     go_enter Tryz.func133, Tryz.ntmps133
     go_wp2
     go_ret
     exact ⟨rfl, rfl⟩
 · rw [show (decide (a ≤ n) && decide (n ≤ b)) = false by simp; omega]
   go_enter Tryz.func133, Tryz.ntmps133
   go_wp2
   go_ret
   exact ⟨rfl, rfl⟩
def spVal (x : Sp) : Value := .agg #[.int .i64 x.tr, .int .i64 x.id, .int .i64 x.pa, .string ⟨x.sv.toArray⟩, .string ⟨x.ho.toArray⟩, .int .i64 x.st, .int .i64 x.du, .string ⟨x.no.toArray⟩]
def Fits (x : Sp) : Prop := x.sv.length ≤ 140737488351232 ∧ x.ho.length ≤ 140737488351232 ∧ x.no.length ≤ 140737488351232
theorem mk_max {l : List UInt8} (h : l.length ≤ 140737488351232) : (⟨l.toArray⟩ : ByteArray).size ≤ maxLen := by
 unfold maxLen; simp only [ByteArray.size_mk', List.size_toArray]; omega
theorem may_anyS (x : Sp) (w : World) (hf : Fits x) :
 Calls Tryz.prog 108 #[spVal x] w fun e w' => e = .returned (.bool x.ok) ∧ Below w.heap.size w w' := by
 obtain ⟨h1, h2, h3⟩ := hf
 have c0 := fun W => between_any x.tr 1 2147483647 W
 have c1 := fun W => between_any x.id 1 2147483647 W
 have c2 := fun W => between_any x.pa 0 2147483647 W
 have c3 := fun W => refName_any ⟨x.sv.toArray⟩ W (mk_max h1)
 have c4 := fun W => refName_any ⟨x.ho.toArray⟩ W (mk_max h2)
 have c5 := fun W => between_any x.st 0 1073741824 W
 have c6 := fun W => between_any x.du 0 1073741824 W
 have e3 : (⟨x.sv.toArray⟩ : ByteArray).data.toList = x.sv := rfl
 have e4 : (⟨x.ho.toArray⟩ : ByteArray).data.toList = x.ho := rfl
 rw [e3] at c3
 rw [e4] at c4
 clear e3 e4
 have hok : x.ok = ((decide (1 ≤ x.tr) && decide (x.tr ≤ 2147483647)) && (decide (1 ≤ x.id) && decide (x.id ≤ 2147483647)) && (decide (0 ≤ x.pa) && decide (x.pa ≤ 2147483647)) && (decide (0 ≤ x.st) && decide (x.st ≤ 1073741824)) && (decide (0 ≤ x.du) && decide (x.du ≤ 1073741824)) && nameOk x.sv && nameOk x.ho && decide (x.no.length ≤ 24)) := rfl
 have hnl : ((x.no.length : Int) ≤ 24) ↔ x.no.length ≤ 24 := by omega
 obtain ⟨R, hR⟩ : ∃ R, x.ok = R := ⟨_, rfl⟩
 rw [hR]
 rw [hR] at hok
 clear hR
 generalize (decide (1 ≤ x.tr) && decide (x.tr ≤ 2147483647)) = b0 at *
 generalize (decide (1 ≤ x.id) && decide (x.id ≤ 2147483647)) = b1 at *
 generalize (decide (0 ≤ x.pa) && decide (x.pa ≤ 2147483647)) = b2 at *
 generalize (decide (0 ≤ x.st) && decide (x.st ≤ 1073741824)) = b5 at *
 generalize (decide (0 ≤ x.du) && decide (x.du ≤ 1073741824)) = b6 at *
 generalize nameOk x.sv = b3 at *
 generalize nameOk x.ho = b4 at *
 have C0 := Lib.hid c0
 have C1 := Lib.hid c1
 have C2 := Lib.hid c2
 have C3 := Lib.hid c3
 have C4 := Lib.hid c4
 have C5 := Lib.hid c5
 have C6 := Lib.hid c6
 have HK := Lib.hid hok
 clear c0 c1 c2 c3 c4 c5 c6 hok hnl
 unfold spVal
 go_enter Tryz.func108, Tryz.ntmps108
 go_wp2_with fail
 refine (C0.out _).mono ?_
 rintro e w1 ⟨rfl, rfl⟩
 cases b0 with
 | false =>
   go_wp2_with fail
   go_ret
   exact ⟨ret1 (by rw [HK.out]; first | rfl | simp), (Below.refl _ _).alloc (Nat.le_refl _) _⟩
 | true =>
   go_wp2_with fail
   refine (C1.out _).mono ?_
   rintro e w1 ⟨rfl, rfl⟩
   cases b1 with
   | false =>
     go_wp2_with fail
     go_ret
     exact ⟨ret1 (by rw [HK.out]; first | rfl | simp), (Below.refl _ _).alloc (Nat.le_refl _) _⟩
   | true =>
     go_wp2_with fail
     refine (C2.out _).mono ?_
     rintro e w1 ⟨rfl, rfl⟩
     cases b2 with
     | false =>
       go_wp2_with fail
       go_ret
       exact ⟨ret1 (by rw [HK.out]; first | rfl | simp), (Below.refl _ _).alloc (Nat.le_refl _) _⟩
     | true =>
       go_wp2_with fail
       refine (C3.out _).mono ?_
       rintro e w1 ⟨rfl, rfl⟩
       cases b3 with
       | false =>
         go_wp2_with fail
         go_ret
         exact ⟨ret1 (by rw [HK.out]; first | rfl | simp), (Below.refl _ _).alloc (Nat.le_refl _) _⟩
       | true =>
         go_wp2_with fail
         refine (C4.out _).mono ?_
         rintro e w1 ⟨rfl, rfl⟩
         cases b4 with
         | false =>
           go_wp2_with fail
           go_ret
           exact ⟨ret1 (by rw [HK.out]; first | rfl | simp), (Below.refl _ _).alloc (Nat.le_refl _) _⟩
         | true =>
           go_wp2_with fail
           refine (C5.out _).mono ?_
           rintro e w1 ⟨rfl, rfl⟩
           cases b5 with
           | false =>
             go_wp2_with fail
             go_ret
             exact ⟨ret1 (by rw [HK.out]; first | rfl | simp), (Below.refl _ _).alloc (Nat.le_refl _) _⟩
           | true =>
             go_wp2_with fail
             refine (C6.out _).mono ?_
             rintro e w1 ⟨rfl, rfl⟩
             cases b6 with
             | false =>
               go_wp2_with fail
               go_ret
               exact ⟨ret1 (by rw [HK.out]; first | rfl | simp), (Below.refl _ _).alloc (Nat.le_refl _) _⟩
             | true =>
               go_wp2_with fail
               go_ret
               have e24 : decide ((x.no.length : Int) ≤ 24) = decide (x.no.length ≤ 24) := by rw [decide_eq_decide]; omega
               exact ⟨ret1 (by rw [HK.out]; exact congrArg Value.bool e24), (Below.refl _ _).alloc (Nat.le_refl _) _⟩
def checkV (x : Sp) : Int := if x.ok = true then 0 else 2
def numsV (b : Nat) : Value := .agg #[.pointer (some ⟨b, 0, none⟩), .int .i64 1, .int .i64 2147483647, .pointer (some ⟨b, 1, none⟩), .int .i64 1, .int .i64 2147483647, .pointer (some ⟨b, 2, none⟩), .int .i64 0, .int .i64 2147483647, .pointer (some ⟨b, 5, none⟩), .int .i64 0, .int .i64 1073741824, .pointer (some ⟨b, 6, none⟩), .int .i64 0, .int .i64 1073741824]
theorem numbers_any (b : Nat) (w : World) :
 Calls Tryz.prog 140 #[.pointer (some ⟨b, 0, none⟩)] w fun e w' => e = .returned (numsV b) ∧ Below w.heap.size w w' := by
 go_enter Tryz.func140, Tryz.ntmps140
 go_wp2_with fail
 go_still_tail 21, (by kernel_rfl)
 change wpList _ _ _ _ _ (World.drew _)
 go_wp2
 exact bodyPost_ret (v := numsV b) (by simp [results, numsV, Tryz.results140, go_sem]) rfl ⟨rfl, ((Below.refl _ _).alloc (Nat.le_refl _) _).drew⟩
def SpAt (b : Nat) (x : Sp) (w : World) : Prop := w.heap[b]? = some (.cells #[.int .i64 x.tr, .int .i64 x.id, .int .i64 x.pa, .string ⟨x.sv.toArray⟩, .string ⟨x.ho.toArray⟩, .int .i64 x.st, .int .i64 x.du, .string ⟨x.no.toArray⟩] 183 (0, 0))
theorem SpAt.cell {b : Nat} {x : Sp} {w : World} (h : SpAt b x w) : w.cell? ⟨b, 0, none⟩ = some (.int .i64 x.tr) ∧ w.cell? ⟨b, 1, none⟩ = some (.int .i64 x.id) ∧ w.cell? ⟨b, 2, none⟩ = some (.int .i64 x.pa) ∧
 w.cell? ⟨b, 3, none⟩ = some (.string ⟨x.sv.toArray⟩) ∧ w.cell? ⟨b, 4, none⟩ = some (.string ⟨x.ho.toArray⟩) ∧ w.cell? ⟨b, 5, none⟩ = some (.int .i64 x.st) ∧ w.cell? ⟨b, 6, none⟩ = some (.int .i64 x.du) ∧ w.cell? ⟨b, 7, none⟩ = some (.string ⟨x.no.toArray⟩) := by
 refine ⟨?_, ?_, ?_, ?_, ?_, ?_, ?_, ?_⟩ <;> (rw [cell_of_row w b _ _ _ _ h]; rfl)
theorem SpAt.later {B b : Nat} {x : Sp} {w w' : World} (h : SpAt b x w) (hb : Below B w w') (hlt : b < B) : SpAt b x w' := by
 unfold SpAt; rw [hb.block b hlt]; exact h
theorem SpAt.boxed (x : Sp) (w : World) : SpAt w.heap.size x (w.alloc (.cells #[.int .i64 x.tr, .int .i64 x.id, .int .i64 x.pa, .string ⟨x.sv.toArray⟩, .string ⟨x.ho.toArray⟩, .int .i64 x.st, .int .i64 x.du, .string ⟨x.no.toArray⟩] 183)) := heap_alloc_new w _
theorem checkV_bad {x : Sp} (i : Nat) (hi : i < 5) (h : numOk x i = false) : checkV x = 2 := by
 have : x.ok = false := by
  unfold Sp.ok
  match i, hi with
  | 0, _ => rw [h]; simp
  | 1, _ => rw [h]; simp
  | 2, _ => rw [h]; simp
  | 3, _ => rw [h]; simp
  | 4, _ => rw [h]; simp
 unfold checkV
 rw [this]
 rfl
theorem checkV_good {x : Sp} (h : ∀ i, i < 5 → numOk x i = true) : checkV x = if nameOk x.sv && nameOk x.ho && decide (x.no.length ≤ 24) then 0 else 2 := by
 unfold checkV Sp.ok
 rw [h 0 (by decide), h 1 (by decide), h 2 (by decide), h 3 (by decide), h 4 (by decide)]
 simp only [Bool.true_and]
def numV (b : Nat) : Nat → Value
 | 0 => .agg #[.pointer (some ⟨b, 0, none⟩), .int .i64 1, .int .i64 2147483647]
 | 1 => .agg #[.pointer (some ⟨b, 1, none⟩), .int .i64 1, .int .i64 2147483647]
 | 2 => .agg #[.pointer (some ⟨b, 2, none⟩), .int .i64 0, .int .i64 2147483647]
 | 3 => .agg #[.pointer (some ⟨b, 5, none⟩), .int .i64 0, .int .i64 1073741824]
 | _ => .agg #[.pointer (some ⟨b, 6, none⟩), .int .i64 0, .int .i64 1073741824]
theorem nums_index0 (b : Nat) (w : World) : (Instr.index 220 (numsV b) (.int .i64 0)).run Tryz.prog w = .ok (numV b 0) w := by kernel_rfl
theorem nums_index1 (b : Nat) (w : World) : (Instr.index 220 (numsV b) (.int .i64 1)).run Tryz.prog w = .ok (numV b 1) w := by kernel_rfl
theorem nums_index2 (b : Nat) (w : World) : (Instr.index 220 (numsV b) (.int .i64 2)).run Tryz.prog w = .ok (numV b 2) w := by kernel_rfl
theorem nums_index3 (b : Nat) (w : World) : (Instr.index 220 (numsV b) (.int .i64 3)).run Tryz.prog w = .ok (numV b 3) w := by kernel_rfl
theorem nums_index4 (b : Nat) (w : World) : (Instr.index 220 (numsV b) (.int .i64 4)).run Tryz.prog w = .ok (numV b 4) w := by kernel_rfl
theorem drewN_at {b : Nat} {x : Sp} {w : World} (h : SpAt b x w) (o : Obj) (n : Nat) : SpAt b x ((w.alloc o).drewN n) :=
 (Below.heap_alloc w o b (Go.ltA h)).trans h
theorem SpAt.lt {b : Nat} {x : Sp} {w : World} (h : SpAt b x w) : b < w.heap.size := (Go.ltA h)
theorem below_allocN {B : Nat} {a w : World} (h : Below B a w) (hB : B ≤ w.heap.size) (o : Obj) (n : Nat) : Below B a ((w.alloc o).drewN n) := _root_.Go.below_drewN (h.alloc hB o) n
set_option maxHeartbeats 4000000 in
theorem check_any (x : Sp) (w : World) (hf : Fits x) :
 Calls Tryz.prog 131 #[spVal x] w fun e w' => e = .returned (.int .i64 (checkV x)) ∧ Below w.heap.size w w' := by
 obtain ⟨h1, h2, h3⟩ := hf
 obtain ⟨R, hR⟩ : ∃ R, checkV x = R := ⟨_, rfl⟩
 rw [hR]
 have HR := Lib.hid hR
 clear hR
 unfold spVal
 go_enter Tryz.func131, Tryz.ntmps131
 go_wp2_with fail
 refine (numbers_any _ _).mono ?_
 rintro e w1 ⟨rfl, hb1⟩
 unfold numsV
 go_wp2_with fail
 have hat : SpAt w.heap.size x w1 := (SpAt.boxed x w).later hb1 (by simp)
 have hbw : Below w.heap.size w w1 := ((Below.refl _ _).alloc (Nat.le_refl _) _).trans (hb1.mono (by simp))
 have HB := Lib.hid hbw
 clear hb1 hbw
 go_loopw [6] (fun v wr => ∃ i : Nat, i ≤ 5 ∧ v = .int .i64 i ∧ Hid (∀ j, j < i → numOk x j = true) ∧ SpAt w.heap.size x wr ∧ Hid (Below w.heap.size w wr)) (fun v _ => 5 - (intOf v).toNat)
 case atStart => exact ⟨0, by omega, rfl, fun j hj => by omega, hat, HB.out⟩
 case round =>
  obtain ⟨i, hi, rfl, hall, hat, hbw⟩ := hrel
  obtain ⟨c0, c1, c2, c3, c4, c5, c6, c7⟩ := hat.cell
  have hblt : w.heap.size < wr.heap.size := (Go.ltA hat)
  have HA := Lib.hid hat
  clear hat
  by_cases hlt : i < 5
  · have hbs : w.heap.size ≤ wr.heap.size := by omega
    have h5 : i = 0 ∨ i = 1 ∨ i = 2 ∨ i = 3 ∨ i = 4 := by omega
    cases hok : numOk x i with
    | true =>
      have hb := numOk_of hok
      have hall' : Hid (∀ j, j < i + 1 → numOk x j = true) := fun j hj => by
       by_cases h : j < i
       · exact hall.out j h
       · have : j = i := by omega
         rw [this]; exact hok
      clear hok hall
      rcases h5 with rfl | rfl | rfl | rfl | rfl
      · have g1 : (1 : Int) ≤ x.tr := hb.1
        have g2 : x.tr ≤ 2147483647 := hb.2
        have g5 : decide (x.tr < 1) = false := by simp; omega
        have g6 : decide (2147483647 < x.tr) = false := by simp; omega
        have gi := nums_index0 w.heap.size
        unfold numsV numV at gi
        clear g1 g2 hb
        go_wp2_with fail
        go_quiet (fail)
        go_wp2_with fail
        go_roundw
        case rel => exact ⟨1, by omega, by go_num, hall', drewN_at HA.out _ _, below_allocN hbw.out hbs _ _⟩
        case measure => simp [intOf]
      · have g1 : (1 : Int) ≤ x.id := hb.1
        have g2 : x.id ≤ 2147483647 := hb.2
        have g5 : decide (x.id < 1) = false := by simp; omega
        have g6 : decide (2147483647 < x.id) = false := by simp; omega
        have gi := nums_index1 w.heap.size
        unfold numsV numV at gi
        clear g1 g2 hb
        go_wp2_with fail
        go_quiet (fail)
        go_wp2_with fail
        go_roundw
        case rel => exact ⟨2, by omega, by go_num, hall', drewN_at HA.out _ _, below_allocN hbw.out hbs _ _⟩
        case measure => simp [intOf]
      · have g1 : (0 : Int) ≤ x.pa := hb.1
        have g2 : x.pa ≤ 2147483647 := hb.2
        have g5 : decide (x.pa < 0) = false := by simp; omega
        have g6 : decide (2147483647 < x.pa) = false := by simp; omega
        have gi := nums_index2 w.heap.size
        unfold numsV numV at gi
        clear g1 g2 hb
        go_wp2_with fail
        go_quiet (fail)
        go_wp2_with fail
        go_roundw
        case rel => exact ⟨3, by omega, by go_num, hall', drewN_at HA.out _ _, below_allocN hbw.out hbs _ _⟩
        case measure => simp [intOf]
      · have g1 : (0 : Int) ≤ x.st := hb.1
        have g2 : x.st ≤ 1073741824 := hb.2
        have g5 : decide (x.st < 0) = false := by simp; omega
        have g6 : decide (1073741824 < x.st) = false := by simp; omega
        have gi := nums_index3 w.heap.size
        unfold numsV numV at gi
        clear g1 g2 hb
        go_wp2_with fail
        go_quiet (fail)
        go_wp2_with fail
        go_roundw
        case rel => exact ⟨4, by omega, by go_num, hall', drewN_at HA.out _ _, below_allocN hbw.out hbs _ _⟩
        case measure => simp [intOf]
      · have g1 : (0 : Int) ≤ x.du := hb.1
        have g2 : x.du ≤ 1073741824 := hb.2
        have g5 : decide (x.du < 0) = false := by simp; omega
        have g6 : decide (1073741824 < x.du) = false := by simp; omega
        have gi := nums_index4 w.heap.size
        unfold numsV numV at gi
        clear g1 g2 hb
        go_wp2_with fail
        go_quiet (fail)
        go_wp2_with fail
        go_roundw
        case rel => exact ⟨5, by omega, by go_num, hall', drewN_at HA.out _ _, below_allocN hbw.out hbs _ _⟩
        case measure => simp [intOf]
    | false =>
      have hbad := checkV_bad i hlt hok
      have HBad := Lib.hid hbad
      have hb : x.num i < Spoor.leastOf i ∨ Spoor.mostOf i < x.num i := by
       unfold numOk at hok
       simp only [Bool.and_eq_false_iff, decide_eq_false_iff_not] at hok
       omega
      clear hok hall hbad
      rcases h5 with rfl | rfl | rfl | rfl | rfl
      · have gi := nums_index0 w.heap.size
        unfold numsV numV at gi
        rcases hb with hb | hb
        · have g1 : x.tr < 1 := hb
          have g5 : decide (x.tr < 1) = true := by simpa using g1
          clear g1 hb
          go_wp2_with fail
          go_quiet (fail)
          go_wp2_with fail
          go_ret
          exact ⟨ret1 (by rw [← HR.out, HBad.out]; rfl), below_allocN hbw.out hbs _ _⟩
        · have g1 : 2147483647 < x.tr := hb
          have g5 : decide (x.tr < 1) = false := by simp; omega
          have g6 : decide (2147483647 < x.tr) = true := by simpa using g1
          clear g1 hb
          go_wp2_with fail
          go_quiet (fail)
          go_wp2_with fail
          go_ret
          exact ⟨ret1 (by rw [← HR.out, HBad.out]; rfl), below_allocN hbw.out hbs _ _⟩
      · have gi := nums_index1 w.heap.size
        unfold numsV numV at gi
        rcases hb with hb | hb
        · have g1 : x.id < 1 := hb
          have g5 : decide (x.id < 1) = true := by simpa using g1
          clear g1 hb
          go_wp2_with fail
          go_quiet (fail)
          go_wp2_with fail
          go_ret
          exact ⟨ret1 (by rw [← HR.out, HBad.out]; rfl), below_allocN hbw.out hbs _ _⟩
        · have g1 : 2147483647 < x.id := hb
          have g5 : decide (x.id < 1) = false := by simp; omega
          have g6 : decide (2147483647 < x.id) = true := by simpa using g1
          clear g1 hb
          go_wp2_with fail
          go_quiet (fail)
          go_wp2_with fail
          go_ret
          exact ⟨ret1 (by rw [← HR.out, HBad.out]; rfl), below_allocN hbw.out hbs _ _⟩
      · have gi := nums_index2 w.heap.size
        unfold numsV numV at gi
        rcases hb with hb | hb
        · have g1 : x.pa < 0 := hb
          have g5 : decide (x.pa < 0) = true := by simpa using g1
          clear g1 hb
          go_wp2_with fail
          go_quiet (fail)
          go_wp2_with fail
          go_ret
          exact ⟨ret1 (by rw [← HR.out, HBad.out]; rfl), below_allocN hbw.out hbs _ _⟩
        · have g1 : 2147483647 < x.pa := hb
          have g5 : decide (x.pa < 0) = false := by simp; omega
          have g6 : decide (2147483647 < x.pa) = true := by simpa using g1
          clear g1 hb
          go_wp2_with fail
          go_quiet (fail)
          go_wp2_with fail
          go_ret
          exact ⟨ret1 (by rw [← HR.out, HBad.out]; rfl), below_allocN hbw.out hbs _ _⟩
      · have gi := nums_index3 w.heap.size
        unfold numsV numV at gi
        rcases hb with hb | hb
        · have g1 : x.st < 0 := hb
          have g5 : decide (x.st < 0) = true := by simpa using g1
          clear g1 hb
          go_wp2_with fail
          go_quiet (fail)
          go_wp2_with fail
          go_ret
          exact ⟨ret1 (by rw [← HR.out, HBad.out]; rfl), below_allocN hbw.out hbs _ _⟩
        · have g1 : 1073741824 < x.st := hb
          have g5 : decide (x.st < 0) = false := by simp; omega
          have g6 : decide (1073741824 < x.st) = true := by simpa using g1
          clear g1 hb
          go_wp2_with fail
          go_quiet (fail)
          go_wp2_with fail
          go_ret
          exact ⟨ret1 (by rw [← HR.out, HBad.out]; rfl), below_allocN hbw.out hbs _ _⟩
      · have gi := nums_index4 w.heap.size
        unfold numsV numV at gi
        rcases hb with hb | hb
        · have g1 : x.du < 0 := hb
          have g5 : decide (x.du < 0) = true := by simpa using g1
          clear g1 hb
          go_wp2_with fail
          go_quiet (fail)
          go_wp2_with fail
          go_ret
          exact ⟨ret1 (by rw [← HR.out, HBad.out]; rfl), below_allocN hbw.out hbs _ _⟩
        · have g1 : 1073741824 < x.du := hb
          have g5 : decide (x.du < 0) = false := by simp; omega
          have g6 : decide (1073741824 < x.du) = true := by simpa using g1
          clear g1 hb
          go_wp2_with fail
          go_quiet (fail)
          go_wp2_with fail
          go_ret
          exact ⟨ret1 (by rw [← HR.out, HBad.out]; rfl), below_allocN hbw.out hbs _ _⟩
  · obtain rfl : i = 5 := by omega
    have hgood := checkV_good hall.out
    have HGood := Lib.hid hgood
    have cs := fun W => name_anyS ⟨x.sv.toArray⟩ W (mk_max h1)
    have ch := fun W => name_anyS ⟨x.ho.toArray⟩ W (mk_max h2)
    have e3 : (⟨x.sv.toArray⟩ : ByteArray).data.toList = x.sv := rfl
    have e4 : (⟨x.ho.toArray⟩ : ByteArray).data.toList = x.ho := rfl
    rw [e3] at cs
    rw [e4] at ch
    have CS := Lib.hid cs
    have CH := Lib.hid ch
    clear e3 e4 cs ch hgood hall
    generalize nameOk x.sv = b1 at *
    generalize nameOk x.ho = b2 at *
    go_wp2_with fail
    refine (CS.out _).mono ?_
    rintro e w2 ⟨rfl, hb2⟩
    have hbw2 := hbw.out.trans (hb2.mono (by omega))
    have hat2 := HA.out.later hb2 hblt
    cases b1 with
    | false =>
      clear hat2
      go_wp2_with fail
      go_ret
      exact ⟨ret1 (by rw [← HR.out, HGood.out]; rfl), hbw2⟩
    | true =>
      obtain ⟨d0, d1, d2, d3, d4, d5, d6, d7⟩ := hat2.cell
      have hlt2 := hat2.lt
      have HA2 := Lib.hid hat2
      have HBw2 := Lib.hid hbw2
      clear hat2 hbw2
      go_wp2_with fail
      refine (CH.out _).mono ?_
      rintro e w3 ⟨rfl, hb3⟩
      have hbw3 := HBw2.out.trans (hb3.mono (by omega))
      have hat3 := HA2.out.later hb3 hlt2
      cases b2 with
      | false =>
        clear hat3
        go_wp2_with fail
        go_ret
        exact ⟨ret1 (by rw [← HR.out, HGood.out]; rfl), hbw3⟩
      | true =>
        obtain ⟨f0, f1, f2, f3, f4, f5, f6, f7⟩ := hat3.cell
        clear hat3
        by_cases h24 : 24 < (x.no.length : Int)
        · have e24 : decide (x.no.length ≤ 24) = false := by simp; omega
          have E24 := Lib.hid e24
          clear e24
          go_wp2_with fail
          go_ret
          exact ⟨ret1 (by rw [← HR.out, HGood.out, E24.out]; rfl), hbw3⟩
        · have e24 : decide (x.no.length ≤ 24) = true := by simp; omega
          have E24 := Lib.hid e24
          clear e24
          go_wp2_with fail
          go_ret
          exact ⟨ret1 (by rw [← HR.out, HGood.out, E24.out]; rfl), hbw3⟩
theorem str_add (a b : List UInt8) : (⟨a.toArray⟩ ++ ⟨b.toArray⟩ : ByteArray) = ⟨(a ++ b).toArray⟩ := ByteArray.mk_append_mk a b
def offN : Nat → Nat
 | 0 => 0
 | 1 => 1
 | 2 => 2
 | 3 => 5
 | _ => 6
theorem SpAt.num {b : Nat} {x : Sp} {w : World} (h : SpAt b x w) (i : Nat) : w.cell? ⟨b, offN i, none⟩ = some (.int .i64 (x.num i)) := by
 obtain ⟨c0, c1, c2, c3, c4, c5, c6, c7⟩ := h.cell
 match i with
 | 0 => exact c0
 | 1 => exact c1
 | 2 => exact c2
 | 3 => exact c5
 | n + 4 => exact c6
theorem own_laterK {w w' : World} {B e size n : Nat} {v : Value} {xs : List Value} (h : w.ownsRow B e size v n xs) (hb : Below w.heap.size w w') : w'.ownsRow B e size v n xs := by
 refine ⟨h.1, ?_⟩
 rcases h.2 with hn | ⟨g, cap, cur, rfl, hg, hgg, rest⟩
 · exact .inl hn
 · exact .inr ⟨g, cap, cur, rfl, hg, by rw [hb.block g (Go.ltA hgg)]; exact hgg, rest⟩
theorem Bld.later {B b : Nat} {l : List UInt8} {w w' : World} (h : Bld B b l w) (hb : Below w.heap.size w w') : Bld B b l w' := by
 unfold Bld Lib.IsBuilder Lib.BuilderAt at *
 rcases h with ⟨h1, v, h2, h3, h4⟩ | ⟨h1, v, h2, h3, h4⟩
 · exact .inl ⟨h1, v, by rw [hb.block b (Go.ltA h2)]; exact h2, own_laterK h3 hb, h4⟩
 · exact .inr ⟨h1, v, by rw [hb.block b (Go.ltA h2)]; exact h2, own_laterK h3 hb, h4⟩
def spOf (ns : List Nat) (ts : List (List UInt8)) : Sp := ⟨ns.getD 0 0, ns.getD 1 0, ns.getD 2 0, ts.getD 0 [], ts.getD 1 [], ns.getD 3 0, ns.getD 4 0, ts.getD 2 []⟩
theorem SpAt.setN {b i : Nat} {ns : List Nat} {w : World} (h : SpAt b (spOf ns []) w) (hl : ns.length = i) (hi : i < 5) (n : Nat) : SpAt b (spOf (ns ++ [n]) []) (w.setCell ⟨b, offN i, none⟩ (.int .i64 n)) := by
 unfold SpAt at h ⊢
 rw [heap_setCell_same w b _ _ _ _ h]
 subst hl
 match ns, hi with
 | [], _ => rfl
 | [_], _ => rfl
 | [_, _], _ => rfl
 | [_, _, _], _ => rfl
 | [_, _, _, _], _ => rfl
theorem SpAt.free {b : Nat} {x : Sp} {w : World} (h : SpAt b x w) (j : Nat) : w.frozen? ⟨b, j, none⟩ = false := frozen_of_row w b j _ _ h
theorem SpAt.frees {b : Nat} {x : Sp} {w : World} (h : SpAt b x w) : w.frozen? ⟨b, 0, none⟩ = false ∧ w.frozen? ⟨b, 1, none⟩ = false ∧ w.frozen? ⟨b, 2, none⟩ = false ∧ w.frozen? ⟨b, 3, none⟩ = false ∧
 w.frozen? ⟨b, 4, none⟩ = false ∧ w.frozen? ⟨b, 5, none⟩ = false ∧ w.frozen? ⟨b, 6, none⟩ = false ∧ w.frozen? ⟨b, 7, none⟩ = false := ⟨h.free 0, h.free 1, h.free 2, h.free 3, h.free 4, h.free 5, h.free 6, h.free 7⟩
def A3 (b : Nat) (ts : List (List UInt8)) (w : World) : Prop := w.heap[b]? = some (.cells #[.string ⟨(ts.getD 0 []).toArray⟩, .string ⟨(ts.getD 1 []).toArray⟩, .string ⟨(ts.getD 2 []).toArray⟩] 57 (0, 0))
theorem A3.set {b i : Nat} {ts : List (List UInt8)} {w : World} (h : A3 b ts w) (hl : ts.length = i) (hi : i < 3) (t : List UInt8) : A3 b (ts ++ [t]) (w.setCell ⟨b, i, none⟩ (.string ⟨t.toArray⟩)) := by
 unfold A3 at h ⊢
 rw [heap_setCell_same w b _ _ _ _ h]
 subst hl
 match ts, hi with
 | [], _ => rfl
 | [_], _ => rfl
 | [_, _], _ => rfl
theorem A3.at {b : Nat} {ts : List (List UInt8)} {w : World} (h : A3 b ts w) (i : Nat) (hi : i < 3) : (∃ v, w.cell? ⟨b, i, none⟩ = some (.string v)) ∧ w.frozen? ⟨b, i, none⟩ = false := by
 refine ⟨?_, frozen_of_row w b i _ _ h⟩
 rw [cell_of_row w b _ _ _ _ h]
 match i, hi with
 | 0, _ => exact ⟨_, rfl⟩
 | 1, _ => exact ⟨_, rfl⟩
 | 2, _ => exact ⟨_, rfl⟩
theorem A3.cells {b : Nat} {ts : List (List UInt8)} {w : World} (h : A3 b ts w) : w.cell? ⟨b, 0, none⟩ = some (.string ⟨(ts.getD 0 []).toArray⟩) ∧ w.cell? ⟨b, 1, none⟩ = some (.string ⟨(ts.getD 1 []).toArray⟩) ∧ w.cell? ⟨b, 2, none⟩ = some (.string ⟨(ts.getD 2 []).toArray⟩) := by
 refine ⟨?_, ?_, ?_⟩ <;> (rw [cell_of_row w b _ _ _ _ h]; rfl)
theorem block_set {w : World} {b c i : Nat} {v : Value} {o : Obj} (h : w.heap[b]? = some o) (hne : b ≠ c) : (w.setCell ⟨c, i, none⟩ v).heap[b]? = some o := (Below.heap_setCell w ⟨c, i, none⟩ v b hne).trans h
theorem A3.later {B b : Nat} {ts : List (List UInt8)} {w w' : World} (h : A3 b ts w) (hb : Below B w w') (hlt : b < B) : A3 b ts w' := by
 unfold A3; rw [hb.block b hlt]; exact h
theorem A3.lt {b : Nat} {ts : List (List UInt8)} {w : World} (h : A3 b ts w) : b < w.heap.size := (Go.ltA h)
theorem SpAt.alloc' {b : Nat} {x : Sp} {w : World} (h : SpAt b x w) (o : Obj) : SpAt b x (w.alloc o) := (Below.heap_alloc w o b h.lt).trans h
theorem bt {w w1 w2 : World} (h : Below w.heap.size w w1) (k : Below w1.heap.size w1 w2) : Below w.heap.size w w2 := h.trans (k.mono h.size)
open Go.ChangeShapes Go.WideShapes Go.Opens
section
variable {H : Type} {enc : TypeId × Value → H} {w : World} {base : Nat} {spare : Nat → Bool} {held : Bool}
end
theorem alloc_size (w : World) (o : Obj) : (w.alloc o).heap.size = w.heap.size + 1 := by simp
theorem below_new2' {w : World} (o o' : Obj) : Below w.heap.size w ((w.alloc o).alloc o') := (((Below.refl _ _).alloc (Nat.le_refl _) o)).alloc (by simp) o'
end Go.Proofs.YtoglloafpnopaaaGreat
