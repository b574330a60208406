/- The walks on names, and which spans may be. -/
import Derived.Test.YtfkjdjdgcegniaaIntsB
import Derived.Test.YtfkjdjdgcegniaaGrow
import Derived.Test.YtfkjdjdgcegniaaSpans0
namespace Go.Proofs.Ytfkjdjdgcegniaa
set_option maxRecDepth 16000
open Go.RowKit Spoor

/-- what the closure of Name asks of a rune -/
def oddR (x : Nat) : Bool := decide (x ≤ 32) || decide (126 < x)
theorem odd_call (x : Nat) (W : World) (hx : x ≤ 1114111) : Calls Try.prog 62 #[.int .i32 x] W fun e w' => e = .returned (.bool (oddR x)) ∧ ∃ q, w' = W.drewN q := by
  by_cases h1 : (x : Int) ≤ 32
  · have e : oddR x = true := by simp [oddR]; omega
    rw [e]
    go_enter Try.func62, Try.ntmps62
    go_wp2
    go_ret
    exact ⟨rfl, 0, rfl⟩
  · by_cases h2 : 126 < (x : Int)
    · have e : oddR x = true := by simp [oddR]; omega
      rw [e]
      go_enter Try.func62, Try.ntmps62
      go_wp2
      go_ret
      exact ⟨rfl, 0, rfl⟩
    · have e : oddR x = false := by simp [oddR]; omega
      rw [e]
      go_enter Try.func62, Try.ntmps62
      go_wp2
      go_ret
      exact ⟨rfl, 0, rfl⟩

theorem idx_odd (s : ByteArray) : ∀ (f pos : Nat), s.size - pos ≤ f → (0 ≤ Lib.idxFuncFrom oddR true s f pos ↔ (s.data.toList.drop pos).all byteOk = false)
  | 0, pos, h => by
    rw [List.drop_of_length_le (by rw [bytes_len]; omega)]
    simp [Lib.idxFuncFrom]
  | f + 1, pos, h => by
    by_cases hp : pos < s.size
    · rw [Lib.idxFuncFrom, if_pos hp, drop_at _ pos (by rw [bytes_len]; exact hp), ← byte_at s pos hp]
      have hc := s[pos].toNat_lt
      by_cases ha : s[pos].toNat < 128
      · rw [decode_ascii s pos hp ha]
        simp only
        by_cases hok : byteOk s[pos] = true
        · have e : oddR s[pos].toNat = false := by
            unfold byteOk at hok
            simp only [decide_eq_true_eq] at hok
            simp [oddR]
            omega
          rw [e, if_neg (by decide), idx_odd s f (pos + 1) (by omega), List.all_cons, hok, Bool.true_and]
        · have e : oddR s[pos].toNat = true := by
            unfold byteOk at hok
            simp only [decide_eq_true_eq] at hok
            simp [oddR]
            omega
          rw [e, if_pos rfl, List.all_cons, Bool.eq_false_iff.2 hok, Bool.false_and]
          simp
      · have hd := (decode_high s pos hp (by omega)).1
        have e : oddR (Utf8.decode s pos).1 = true := by simp [oddR]; omega
        have hok : byteOk s[pos] = false := by simp [byteOk]; omega
        rw [e, if_pos rfl, List.all_cons, hok, Bool.false_and]
        simp
    · rw [List.drop_of_length_le (by rw [bytes_len]; omega), Lib.idxFuncFrom_end _ _ _ _ _ hp]
      simp
theorem containsOdd (s : ByteArray) : decide (0 ≤ Lib.idxFunc oddR true s) = !(s.data.toList.all byteOk) := by
  have := idx_odd s s.size 0 (by omega)
  rw [List.drop_zero] at this
  unfold Lib.idxFunc
  rw [Bool.eq_iff_iff, decide_eq_true_iff, this]
  simp

theorem contains_call (s : ByteArray) (w : World) : Calls Try.prog 63 #[.string s, .func (.func 62) #[] #[]] w fun e w' => e = .returned (.bool (!(s.data.toList.all byteOk))) ∧ Below w.heap.size w w' := by
  have := Try.strings_ContainsFunc_runes 62 #[] (fun args w => by kernel_rfl) oddR s w (fun W x hx _ => odd_call x W hx)
  rw [containsOdd] at this
  exact this

theorem name_any (s : ByteArray) (w : World) (hs : s.size ≤ maxLen) :
    Calls Try.prog 40 #[.string s] w fun e w' => e = .returned (.bool (nameOk s.data.toList)) ∧ Below w.heap.size w w' := by
  unfold maxLen at hs
  have hl := bytes_len s
  by_cases h0 : s.size = 0
  · have e : nameOk s.data.toList = false := by unfold nameOk; rw [hl]; simp [h0]
    have hs0 : s.toList = [] := by rw [ByteArray.toList_eq]; exact List.eq_nil_of_length_eq_zero (by omega)
    rw [e]
    clear hl e h0
    go_enter Try.func40, Try.ntmps40
    go_wp2
    go_ret
    exact ⟨rfl, Below.refl _ _⟩
  · have hs0 : s.toList.isEmpty = false := by
      rw [ByteArray.toList_eq]
      cases hh : s.data.toList with
      | nil => rw [hh] at hl; simp at hl; omega
      | cons a b => rfl
    by_cases h12 : (s.size : Int) ≤ 12
    · have e : nameOk s.data.toList = s.data.toList.all byteOk := by unfold nameOk; rw [hl]; simp; omega
      rw [e]
      have c := fun W => contains_call s W
      have C := Lib.hid c
      generalize s.data.toList.all byteOk = B at *
      clear hl e h0 c
      go_enter Try.func40, Try.ntmps40
      go_wp2_with fail
      refine (C.out _).mono ?_
      rintro e w1 ⟨rfl, hb⟩
      go_wp2_with fail
      go_ret
      exact ⟨by simp, hb⟩
    · have e : nameOk s.data.toList = false := by unfold nameOk; rw [hl]; simp; omega
      rw [e]
      clear hl e h0
      go_enter Try.func40, Try.ntmps40
      go_wp2_with fail
      go_ret
      exact ⟨rfl, Below.refl _ _⟩
theorem all_take (l : List UInt8) (k : Nat) (h : k < l.length) : (l.take (k + 1)).all byteOk = ((l.take k).all byteOk && byteOk (l.getD k 0)) := by
  rw [take_getD l k h, List.all_append]
  simp
theorem refName_any (s : ByteArray) (w : World) (hs : s.size ≤ maxLen) :
    Calls Try.prog 69 #[.string s] w fun e w' => e = .returned (.bool (nameOk s.data.toList)) ∧ w = w' := by
  unfold maxLen at hs
  have hl := bytes_len s
  by_cases h0 : (s.size : Int) < 1
  · have e : nameOk s.data.toList = false := by unfold nameOk; rw [hl]; simp; omega
    rw [e]
    clear hl e
    go_enter Try.func69, Try.ntmps69
    go_wp2
    go_ret
    exact ⟨rfl, rfl⟩
  · by_cases h12 : 12 < (s.size : Int)
    · have e : nameOk s.data.toList = false := by unfold nameOk; rw [hl]; simp; omega
      rw [e]
      clear hl e
      go_enter Try.func69, Try.ntmps69
      go_wp2
      go_ret
      exact ⟨rfl, rfl⟩
    · have e : nameOk s.data.toList = s.data.toList.all byteOk := by unfold nameOk; rw [hl]; simp; omega
      rw [e]
      have HL := Lib.hid hl
      obtain ⟨R, hR⟩ : ∃ R, s.data.toList.all byteOk = R := ⟨_, rfl⟩
      rw [hR]
      have HR := Lib.hid hR
      clear hl e hR
      go_enter Try.func69, Try.ntmps69
      go_wp2
      go_loop [3] (fun v => ∃ k : Nat, k ≤ s.size ∧ v = .int .i64 k ∧ Hid ((s.data.toList.take k).all byteOk = true)) (fun v => s.size - (intOf v).toNat)
      case atStart => exact ⟨0, by omega, rfl, rfl⟩
      case round =>
        obtain ⟨k, hk, rfl, hall⟩ := hrel
        by_cases hlt : k < s.size
        · have hidx := index_nat s k hlt
          have hst := all_take s.data.toList k (by rw [HL.out]; exact hlt)
          rw [hall.out, Bool.true_and] at hst
          have hno : byteOk (s.data.toList.getD k 0) = false → s.data.toList.all byteOk = false := fun h => by
            rw [← List.take_append_drop (k + 1) s.data.toList, List.all_append, hst, h, Bool.false_and]
          have hby : byteOk (s.data.toList.getD k 0) = decide (33 ≤ (s.data.toList.getD k 0).toNat ∧ (s.data.toList.getD k 0).toNat ≤ 126) := rfl
          generalize byteOk (s.data.toList.getD k 0) = B at hst hno hby
          have hc := (s.data.toList.getD k 0).toNat_lt
          generalize (s.data.toList.getD k 0).toNat = c at hidx hby hc
          have Hst := Lib.hid hst
          have Hno := Lib.hid hno
          have Hby := Lib.hid hby
          clear hst hno hby
          by_cases c1 : (c : Int) < 33
          · go_wp2
            go_ret
            exact ⟨ret1 (by rw [← HR.out, Hno.out (by rw [Hby.out]; simp; omega)]; rfl), rfl⟩
          · by_cases c2 : 126 < (c : Int)
            · go_wp2
              go_ret
              exact ⟨ret1 (by rw [← HR.out, Hno.out (by rw [Hby.out]; simp; omega)]; rfl), rfl⟩
            · go_wp2
              go_round
              case rel =>
                refine ⟨k + 1, by omega, by go_num, ?_⟩
                show _ = _
                rw [Hst.out, Hby.out]
                simp
                omega
              case measure => simp [intOf]; omega
        · obtain rfl : k = s.size := by omega
          have e : s.data.toList.all byteOk = true := by
            have := hall.out
            rwa [List.take_of_length_le (by rw [HL.out]; exact Nat.le_refl _)] at this
          have He := Lib.hid e
          clear e
          go_wp2
          go_ret
          exact ⟨ret1 (by rw [← HR.out, He.out]; rfl), rfl⟩
theorem between_any (n a b : Int) (w : World) : Calls Try.prog 68 #[.int .i64 n, .int .i64 a, .int .i64 b] w fun e w' => e = .returned (.bool (decide (a ≤ n) && decide (n ≤ b))) ∧ w = w' := by
  by_cases h1 : a ≤ n
  · by_cases h2 : n ≤ b
    · rw [show (decide (a ≤ n) && decide (n ≤ b)) = true by simp [h1, h2]]
      go_enter Try.func68, Try.ntmps68
      go_wp2
      go_ret
      exact ⟨rfl, rfl⟩
    · rw [show (decide (a ≤ n) && decide (n ≤ b)) = false by simp; omega]
      go_enter Try.func68, Try.ntmps68
      go_wp2
      go_ret
      exact ⟨rfl, rfl⟩
  · rw [show (decide (a ≤ n) && decide (n ≤ b)) = false by simp; omega]
    go_enter Try.func68, Try.ntmps68
    go_wp2
    go_ret
    exact ⟨rfl, rfl⟩

/-- a span as a value -/
def spVal (x : Sp) : Value := .agg #[.int .i64 x.tr, .int .i64 x.id, .int .i64 x.pa, .string ⟨x.sv.toArray⟩, .string ⟨x.ho.toArray⟩, .int .i64 x.st, .int .i64 x.du, .string ⟨x.no.toArray⟩]
/-- its texts are no longer than what is read may be -/
def Fits (x : Sp) : Prop := x.sv.length ≤ 140737488351232 ∧ x.ho.length ≤ 140737488351232 ∧ x.no.length ≤ 140737488351232
theorem mk_max {l : List UInt8} (h : l.length ≤ 140737488351232) : (⟨l.toArray⟩ : ByteArray).size ≤ maxLen := by
  unfold maxLen; simp only [ByteArray.size_mk', List.size_toArray]; omega

theorem may_any (x : Sp) (w : World) (hf : Fits x) :
    Calls Try.prog 49 #[spVal x] w fun e w' => e = .returned (.bool x.ok) ∧ Below w.heap.size w w' := by
  obtain ⟨h1, h2, h3⟩ := hf
  have c0 := fun W => between_any x.tr 1 2147483647 W
  have c1 := fun W => between_any x.id 1 2147483647 W
  have c2 := fun W => between_any x.pa 0 2147483647 W
  have c3 := fun W => refName_any ⟨x.sv.toArray⟩ W (mk_max h1)
  have c4 := fun W => refName_any ⟨x.ho.toArray⟩ W (mk_max h2)
  have c5 := fun W => between_any x.st 0 1073741824 W
  have c6 := fun W => between_any x.du 0 1073741824 W
  have e3 : (⟨x.sv.toArray⟩ : ByteArray).data.toList = x.sv := rfl
  have e4 : (⟨x.ho.toArray⟩ : ByteArray).data.toList = x.ho := rfl
  rw [e3] at c3
  rw [e4] at c4
  clear e3 e4
  have hok : x.ok = ((decide (1 ≤ x.tr) && decide (x.tr ≤ 2147483647)) && (decide (1 ≤ x.id) && decide (x.id ≤ 2147483647)) && (decide (0 ≤ x.pa) && decide (x.pa ≤ 2147483647)) && (decide (0 ≤ x.st) && decide (x.st ≤ 1073741824)) && (decide (0 ≤ x.du) && decide (x.du ≤ 1073741824)) && nameOk x.sv && nameOk x.ho && decide (x.no.length ≤ 24)) := rfl
  have hnl : ((x.no.length : Int) ≤ 24) ↔ x.no.length ≤ 24 := by omega
  obtain ⟨R, hR⟩ : ∃ R, x.ok = R := ⟨_, rfl⟩
  rw [hR]
  rw [hR] at hok
  clear hR
  generalize (decide (1 ≤ x.tr) && decide (x.tr ≤ 2147483647)) = b0 at *
  generalize (decide (1 ≤ x.id) && decide (x.id ≤ 2147483647)) = b1 at *
  generalize (decide (0 ≤ x.pa) && decide (x.pa ≤ 2147483647)) = b2 at *
  generalize (decide (0 ≤ x.st) && decide (x.st ≤ 1073741824)) = b5 at *
  generalize (decide (0 ≤ x.du) && decide (x.du ≤ 1073741824)) = b6 at *
  generalize nameOk x.sv = b3 at *
  generalize nameOk x.ho = b4 at *
  have C0 := Lib.hid c0
  have C1 := Lib.hid c1
  have C2 := Lib.hid c2
  have C3 := Lib.hid c3
  have C4 := Lib.hid c4
  have C5 := Lib.hid c5
  have C6 := Lib.hid c6
  have HK := Lib.hid hok
  clear c0 c1 c2 c3 c4 c5 c6 hok hnl
  unfold spVal
  go_enter Try.func49, Try.ntmps49
  go_wp2_with fail
  refine (C0.out _).mono ?_
  rintro e w1 ⟨rfl, rfl⟩
  cases b0 with
  | false =>
    go_wp2_with fail
    go_ret
    exact ⟨ret1 (by rw [HK.out]; first | rfl | simp), (Below.refl _ _).alloc (Nat.le_refl _) _⟩
  | true =>
    go_wp2_with fail
    refine (C1.out _).mono ?_
    rintro e w1 ⟨rfl, rfl⟩
    cases b1 with
    | false =>
      go_wp2_with fail
      go_ret
      exact ⟨ret1 (by rw [HK.out]; first | rfl | simp), (Below.refl _ _).alloc (Nat.le_refl _) _⟩
    | true =>
      go_wp2_with fail
      refine (C2.out _).mono ?_
      rintro e w1 ⟨rfl, rfl⟩
      cases b2 with
      | false =>
        go_wp2_with fail
        go_ret
        exact ⟨ret1 (by rw [HK.out]; first | rfl | simp), (Below.refl _ _).alloc (Nat.le_refl _) _⟩
      | true =>
        go_wp2_with fail
        refine (C3.out _).mono ?_
        rintro e w1 ⟨rfl, rfl⟩
        cases b3 with
        | false =>
          go_wp2_with fail
          go_ret
          exact ⟨ret1 (by rw [HK.out]; first | rfl | simp), (Below.refl _ _).alloc (Nat.le_refl _) _⟩
        | true =>
          go_wp2_with fail
          refine (C4.out _).mono ?_
          rintro e w1 ⟨rfl, rfl⟩
          cases b4 with
          | false =>
            go_wp2_with fail
            go_ret
            exact ⟨ret1 (by rw [HK.out]; first | rfl | simp), (Below.refl _ _).alloc (Nat.le_refl _) _⟩
          | true =>
            go_wp2_with fail
            refine (C5.out _).mono ?_
            rintro e w1 ⟨rfl, rfl⟩
            cases b5 with
            | false =>
              go_wp2_with fail
              go_ret
              exact ⟨ret1 (by rw [HK.out]; first | rfl | simp), (Below.refl _ _).alloc (Nat.le_refl _) _⟩
            | true =>
              go_wp2_with fail
              refine (C6.out _).mono ?_
              rintro e w1 ⟨rfl, rfl⟩
              cases b6 with
              | false =>
                go_wp2_with fail
                go_ret
                exact ⟨ret1 (by rw [HK.out]; first | rfl | simp), (Below.refl _ _).alloc (Nat.le_refl _) _⟩
              | true =>
                go_wp2_with fail
                go_ret
                have e24 : decide ((x.no.length : Int) ≤ 24) = decide (x.no.length ≤ 24) := by rw [decide_eq_decide]; omega
                exact ⟨ret1 (by rw [HK.out]; exact congrArg Value.bool e24), (Below.refl _ _).alloc (Nat.le_refl _) _⟩

/-- the number that Check tells -/
def checkV (x : Sp) : Int := if x.ok = true then 0 else 2
theorem refCheck_any (x : Sp) (w : World) (hf : Fits x) :
    Calls Try.prog 41 #[spVal x] w fun e w' => e = .returned (.int .i64 (checkV x)) ∧ Below w.heap.size w w' := by
  have c := fun W => may_any x W hf
  have C := Lib.hid c
  clear c
  obtain ⟨R, hR⟩ : ∃ R, x.ok = R := ⟨_, rfl⟩
  unfold checkV
  rw [hR] at C ⊢
  clear hR
  unfold spVal at *
  cases R with
  | false =>
    go_enter Try.func41, Try.ntmps41
    go_wp2_with fail
    refine (C.out _).mono ?_
    rintro e w1 ⟨rfl, hb⟩
    go_wp2_with fail
    go_ret
    exact ⟨rfl, ((Below.refl _ _).alloc (Nat.le_refl _) _).trans (hb.mono (by simp))⟩
  | true =>
    go_enter Try.func41, Try.ntmps41
    go_wp2_with fail
    refine (C.out _).mono ?_
    rintro e w1 ⟨rfl, hb⟩
    go_wp2_with fail
    go_ret
    exact ⟨rfl, ((Below.refl _ _).alloc (Nat.le_refl _) _).trans (hb.mono (by simp))⟩
end Go.Proofs.Ytfkjdjdgcegniaa
