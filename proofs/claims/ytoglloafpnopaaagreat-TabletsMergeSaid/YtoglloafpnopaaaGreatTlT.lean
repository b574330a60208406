/- slices.DeleteFunc of cells whose Seq is odd, or even; tablets' Merge with a drop. -/
import Derived.Test.YtoglloafpnopaaaGreatTabG
import Derived.Test.YtoglloafpnopaaaGreatTlI
import Derived.Test.YtoglloafpnopaaaGreatTlL
import Derived.Lib.SliceRun
set_option linter.unusedSimpArgs false
set_option linter.unusedVariables false
namespace Go.Proofs.YtoglloafpnopaaaGreat
set_option maxRecDepth 16000
open Go.RowKit Spoor
set_option linter.unusedVariables false
set_option linter.unusedSimpArgs false

theorem RowW.lt {g cap : Nat} {l : List Ce} {w : World} (h : RowW g cap l w) : g < w.heap.size := h.row.1
/-- the tail cleared -/
theorem RowW.clear {g cap i n : Nat} {l : List Ce} {w : World} (h : RowW g cap l w) (hn : l.length = n) (hi : i ≤ n) (c : Nat) (hlt : 0 < n - i) :
 ∃ W, (∀ ty, (Builtin.clear_ #[22] ty #[.slice (some ⟨g, i * 3, none⟩) (n - i) c]).run Tryz.prog w = .ok (.tuple #[]) W) ∧ RowW g cap (l.take i) W ∧ (∀ (W0 : World) (B : Nat), B ≤ g → Below B W0 w → Below B W0 W) := by
 obtain ⟨cur, h1, h2, h3, h4⟩ := h
 obtain ⟨j0, gi, gz0, gz1, gz2⟩ := info_one info_ce
 obtain ⟨zs, hzs⟩ : ∃ zs, (Builtin.zeroCells #[.string ⟨#[]⟩, .int .i64 0, .string ⟨#[]⟩] (n - i)).toList = zs := ⟨_, rfl⟩
 have hlen : zs.length = (n - i) * 3 := by rw [← hzs]; simp [Builtin.zeroCells]
 have hone : ∀ v ∈ zs, v.oneCell' = true := fun v hv => by
  rw [← hzs] at hv
  simp only [Builtin.zeroCells, Array.toList_map, List.mem_map] at hv
  obtain ⟨j, -, rfl⟩ := hv
  have : j % 3 = 0 ∨ j % 3 = 1 ∨ j % 3 = 2 := by omega
  show ((#[Value.string ⟨#[]⟩, .int .i64 0, .string ⟨#[]⟩] : Array Value)[j % 3]!).oneCell' = true
  rcases this with e | e | e <;> rw [e] <;> rfl
 have hst := run_storeCells_at (P := Tryz.prog) g (i * 3) 38 zs 0 cur w h1 (by omega) hone
 refine ⟨w.setRow g (cur.toList.take (i * 3) ++ zs ++ cur.toList.drop (i * 3 + zs.length)).toArray, fun ty => ?_, ?_, ?_⟩
 · obtain ⟨m, hm⟩ : ∃ m, n - i = m + 1 := ⟨n - i - 1, by omega⟩
   rw [hm] at hzs ⊢
   simp only [Nat.add_zero] at hst
   simp [Builtin.clear_, run_underlying Tryz.underlying22, zeroValue, typeInfo, gi, gz0, Value.cells, hzs, hst]
 · have hl0 : (l.take i).length = i := by rw [List.length_take]; omega
   refine ⟨_, setRow_heap w g _ _ _ _ h1, ?_, by omega, fun k hk j hj => ?_⟩
   · simp only [List.size_toArray, List.length_append, List.length_take, List.length_drop, Array.length_toList]
     omega
   · rw [hl0] at hk
     have e1 : (l.take i).getD k Ce.zero = l.getD k Ce.zero := by simp [List.getD, List.getElem?_take, hk]
     rw [e1, ← h4 k (by omega) j hj]
     simp only [List.getElem?_toArray]
     rw [List.append_assoc, List.getElem?_append_left (by rw [List.length_take, Array.length_toList]; omega), List.getElem?_take, if_pos (by omega)]
     simp
 · intro W0 B hB hb
   refine ⟨hb.os, hb.tape, hb.output, by have := hb.size; simpa using this, fun k hk => ?_⟩
   exact (setRow_other w g k _ (by omega)).trans (hb.block k hk)
/-- is a cell's Seq odd? -/
def oddC (c : Ce) : Bool := decide (Int.tmod c.q 2 ≠ 0)
theorem notE_snoc {p : Ce → Bool} {l : List Ce} {j : Nat} (hj : j < l.length) : (l.take (j + 1)).filter p = (l.take j).filter p ++ (if p (l.getD j Ce.zero) then [l.getD j Ce.zero] else []) := by
 rw [take_ce l j hj, List.filter_append]
 congr 1
 rw [List.filter_cons, List.filter_nil]
theorem filter_none {p : Ce → Bool} {l : List Ce} {k : Nat} (hk : k ≤ l.length) (h : ∀ i, i < k → p (l.getD i Ce.zero) = true) : (l.take k).filter p = l.take k := by
 refine List.filter_eq_self.2 fun c hc => ?_
 obtain ⟨i, hi, rfl⟩ := List.mem_iff_getElem.1 hc
 rw [List.length_take] at hi
 have := h i (by omega)
 have e : l.getD i Ce.zero = (l.take k)[i] := by simp [List.getD, show i < l.length by omega]
 rw [e] at this
 exact this
theorem dropOdd_any (c : Ce) (w : World) : Calls Tryz.prog 15 #[ceVal c] w fun e w' => e = .returned (.bool (oddC c)) ∧ Below w.heap.size w w' := by
 have q1 := CeAt.boxed c w
 have b1 := (Below.refl w.heap.size w).alloc (Nat.le_refl _) (boxC c)
 unfold boxC at q1 b1
 unfold ceVal
 have HB := Lib.hid b1
 clear b1
 go_enter Tryz.func15, Tryz.ntmps15
 go_wp2_with fail
 go_ret
 refine ⟨?_, HB.out⟩
 by_cases h : c.q.tmod 2 = 0 <;> simp [oddC, h]
set_option maxRecDepth 100000 in
set_option maxHeartbeats 4000000 in
theorem indexOdd_any (A : Option Addr) (n cap : Nat) (l : List Ce) (w : World) (hs : SlAt (.slice A n cap) l w) (hn : l.length = n) :
 Calls Tryz.prog 61 #[.slice A n cap, .func (.func 15) #[] #[]] w fun e w' => ∃ k, k ≤ n ∧ (∀ i, i < k → oddC (l.getD i Ce.zero) = false) ∧ (k < n → oddC (l.getD k Ce.zero) = true) ∧ e = .returned (.int .i64 (if k < n then (k : Int) else -1)) ∧ Below w.heap.size w w' := by
 have hnb : n ≤ 9223372036854775807 := by obtain ⟨A2, c2, e0, h1, h2, -⟩ := hs; simp only [Value.slice.injEq] at e0; unfold maxLen at h2; omega
 have HS := Lib.hid (And.intro hs hn)
 clear hs hn
 go_enter Tryz.func61, Tryz.ntmps61
 go_wp2_with fail
 go_loopw [8] (fun iv wr => ∃ i : Nat, i ≤ n ∧ iv = .int .i64 i ∧ Hid ((∀ j, j < i → oddC (l.getD j Ce.zero) = false) ∧ Below w.heap.size w wr)) (fun iv _ => n - (intOf iv).toNat)
 case atStart => exact ⟨0, by omega, rfl, Lib.hid ⟨fun j hj => by omega, Below.refl _ _⟩⟩
 case round =>
  obtain ⟨i, hi, rfl, HI⟩ := hrel
  by_cases hin : i < n
  · have hii : (i : Int) < (n : Int) := by omega
    obtain ⟨b, o, rfl, hrw⟩ := (HS.out.1.later HI.out.2).row (by rw [HS.out.2]; omega)
    obtain ⟨z0, z1, z2⟩ := hrw.cells (i := i) (by rw [HS.out.2]; exact hin)
    have hbl := hrw.1
    obtain ⟨cc, hcc⟩ : ∃ cc, l.getD i Ce.zero = cc := ⟨_, rfl⟩
    rw [hcc] at z0 z1 z2
    have CP := dropOdd_any cc wr
    have HC := Lib.hid hcc
    unfold ceVal at CP
    obtain ⟨pp, hpp⟩ : ∃ pp, oddC cc = pp := ⟨_, rfl⟩
    rw [hpp] at CP
    have HP := Lib.hid hpp
    have HCP := Lib.hid CP
    clear hrw hcc CP hpp
    cases pp with
    | true =>
      go_wp2_with fail
      refine HCP.out.mono ?_
      rintro e w5 ⟨rfl, b5⟩
      have HF := Lib.hid (btP HI.out.2 b5)
      clear b5 HCP z0 z1 z2
      go_wp2_with fail
      go_ret
      exact ⟨i, hi, HI.out.1, fun _ => by rw [HC.out]; exact HP.out, by rw [if_pos hin]; rfl, HF.out⟩
    | false =>
      go_wp2_with fail
      refine HCP.out.mono ?_
      rintro e w5 ⟨rfl, b5⟩
      have HF := Lib.hid (show (∀ j, j < i + 1 → oddC (l.getD j Ce.zero) = false) ∧ Below w.heap.size w w5 from ⟨fun j hj => by
       by_cases e : j = i
       · rw [e, HC.out]; exact HP.out
       · exact HI.out.1 j (by omega), btP HI.out.2 b5⟩)
      clear b5 HCP z0 z1 z2
      go_wp2_with fail
      go_roundw
      case rel => exact ⟨i + 1, by omega, by simp <;> omega, HF⟩
      case measure => simp [intOf]; omega
  · obtain rfl : i = n := by omega
    have hki : ¬ (i : Int) < (i : Int) := by omega
    go_wp2_with fail
    go_ret
    exact ⟨i, Nat.le_refl _, HI.out.1, fun h => by omega, by rw [if_neg (by omega)]; rfl, HI.out.2⟩
set_option maxRecDepth 100000 in
set_option maxHeartbeats 4000000 in
theorem deleteOdd_any (u : Value) (l : List Ce) (B : Nat) (w : World) (h : w.ownsRow B 38 3 u l.length (rowOf l)) (hB : B ≤ w.heap.size) (hbig : l.length ≤ 100000) :
 Calls Tryz.prog 29 #[u, .func (.func 15) #[] #[]] w fun e w' => Below B w w' ∧ ∃ v, e = .returned v ∧ SlAt v (l.filter fun c => !oddC c) w' := by
 have hsl := slAt_own h
 obtain ⟨A, cap, hu⟩ := own_slice h
 subst hu
 obtain ⟨n, hn⟩ : ∃ n, l.length = n := ⟨_, rfl⟩
 have HO := Lib.hid h
 rw [hn] at hsl hbig HO ⊢
 have CI := Lib.hid (indexOdd_any A n cap l w hsl hn)
 have HS := Lib.hid (And.intro hsl hn)
 clear hsl h hn
 go_enter Tryz.func29, Tryz.ntmps29
 go_wp2_with fail
 refine CI.out.mono ?_
 rintro e w1 ⟨k, hk, hk1, hk2, rfl, b1⟩
 have HK := Lib.hid (And.intro hk1 (And.intro hk2 b1))
 clear hk1 hk2 b1 CI
 by_cases hkn : k < n
 · rw [if_pos hkn]
   obtain ⟨g, cap2, e0, hg, hnc, hcm, hrw⟩ := rowW_own (by rw [HS.out.2]; exact HO.out) (by rw [HS.out.2]; omega)
   rw [HS.out.2] at e0 hnc
   simp only [Value.slice.injEq] at e0
   obtain ⟨rfl, -, rfl⟩ := e0
   have HW := Lib.hid (And.intro hg (And.intro hcm (hrw.later HK.out.2.2)))
   have e1 : ((k : Int) == -1) = false := beq_eq_false_iff_ne.2 (by omega)
   have hk0 : ¬ (k : Int) = -1 := by omega
   unfold maxLen at hcm
   clear hg hrw
   go_wp2_with fail
   go_loopw [5, 6] (fun iv jv wr => ∃ (i j : Nat) (L : List Ce), i < j ∧ j ≤ n ∧ iv = .int .i64 i ∧ jv = .int .i64 j ∧ Hid (L.length = n ∧ L.take i = (l.take j).filter (fun c => !oddC c) ∧ L.drop j = l.drop j ∧ RowW g cap L wr ∧ Below B w wr)) (fun _ jv _ => n - (intOf jv).toNat)
   case atStart => exact ⟨k, k + 1, l, by omega, by omega, rfl, by simp <;> omega, Lib.hid ⟨HS.out.2, by
    rw [notE_snoc (by rw [HS.out.2]; exact hkn), HK.out.2.1 hkn, filter_none (by rw [HS.out.2]; omega) fun i hi => by rw [HK.out.1 i hi]; rfl]; simp, rfl, HW.out.2.2, HK.out.2.2.mono hB⟩⟩
   case round =>
    obtain ⟨i, j, L, hij, hjn, rfl, rfl, HI⟩ := hrel
    have hgl := HI.out.2.2.2.1.lt
    by_cases hjm : j < n
    · have hjj : (j : Int) < (n : Int) := by omega
      obtain ⟨z0, z1, z2⟩ := HI.out.2.2.2.1.row.cells (i := j) (by rw [HI.out.1]; exact hjm)
      have hLj : L.getD j Ce.zero = l.getD j Ce.zero := by
       have e0 : L.getD j Ce.zero = (L.drop j).getD 0 Ce.zero := by simp [List.getD, List.getElem?_drop]
       have e2 : l.getD j Ce.zero = (l.drop j).getD 0 Ce.zero := by simp [List.getD, List.getElem?_drop]
       rw [e0, e2, HI.out.2.2.1]
      obtain ⟨cc, hcc⟩ : ∃ cc, l.getD j Ce.zero = cc := ⟨_, rfl⟩
      rw [hLj, hcc] at z0 z1 z2
      simp only [Nat.zero_add] at z0 z1 z2
      have hst := notE_snoc (p := fun c => !oddC c) (l := l) (j := j) (by rw [HS.out.2]; exact hjm)
      rw [hcc] at hst
      obtain ⟨bq, uu, V, hbq, huu, ⟨p0, p1, p2⟩, ⟨pf0, pf1, pf2⟩, hV, hz, nV, szV⟩ := cell_put wr cc
      have CP := dropOdd_any cc V
      unfold ceVal at CP
      obtain ⟨pp, hpp⟩ : ∃ pp, oddC cc = pp := ⟨_, rfl⟩
      rw [hpp] at CP hst
      have HST := Lib.hid hst
      have HCP := Lib.hid CP
      obtain ⟨d0, d1, d2⟩ := cells3 hz
      have hwB := HI.out.2.2.2.2.size
      have HV := Lib.hid (And.intro hz (And.intro (HI.out.2.2.2.1.later nV) (HI.out.2.2.2.2.trans (nV.mono (by omega)))))
      have HLJ := Lib.hid (And.intro hLj hcc)
      clear hst CP hpp hz nV szV hLj hcc
      cases pp with
      | true =>
        go_wp2_with fail
        refine HCP.out.mono ?_
        rintro e w5 ⟨rfl, b5⟩
        have HF := Lib.hid (show L.length = n ∧ L.take i = (l.take (j + 1)).filter (fun c => !oddC c) ∧ L.drop (j + 1) = l.drop (j + 1) ∧ RowW g cap L w5 ∧ Below B w w5 from
         ⟨HI.out.1, by rw [HST.out, HI.out.2.1]; simp, by rw [← List.drop_drop, HI.out.2.2.1, List.drop_drop], HV.out.2.1.later b5, HV.out.2.2.trans (b5.mono (by have := HV.out.2.2.size; omega))⟩)
        clear b5 HCP d0 d1 d2 z0 z1 z2
        go_wp2_with fail
        go_roundw
        case rel => exact ⟨i, j + 1, L, by omega, by omega, rfl, by simp <;> omega, HF⟩
        case measure => simp [intOf]; omega
      | false =>
        go_wp2_with fail
        refine HCP.out.mono ?_
        rintro e w5 ⟨rfl, b5⟩
        have hr5 := HV.out.2.1.later b5
        have hz5 := (b5.block bq (Array.getElem?_eq_some_iff.1 HV.out.1).1).trans HV.out.1
        have B5 := HV.out.2.2.trans (b5.mono (by have := HV.out.2.2.size; omega))
        obtain ⟨y0, y1, y2⟩ := cells3 hz5
        have f0 := hr5.free (i * 3)
        have f1 := hr5.free (i * 3 + 1)
        have f2 := hr5.free (i * 3 + 2)
        obtain ⟨x0, x1, x2⟩ := hr5.row.cells (i := i) (by rw [HI.out.1]; omega)
        simp only [Nat.zero_add] at x0 x1 x2
        have hput := hr5.put (k := i) (by rw [HI.out.1]; omega) cc
        have hil : (i : Int) < (n : Int) := by omega
        have B6 := below_set (below_set (below_set B5 HW.out.1 (i * 3) (.string ⟨cc.k.toArray⟩)) HW.out.1 (i * 3 + 1) (.int .i64 cc.q)) HW.out.1 (i * 3 + 2) (.string ⟨cc.v.toArray⟩)
        obtain ⟨w6, hw6⟩ : ∃ w6, ((w5.setCell ⟨g, i * 3, none⟩ (.string ⟨cc.k.toArray⟩)).setCell ⟨g, i * 3 + 1, none⟩ (.int .i64 cc.q)).setCell ⟨g, i * 3 + 2, none⟩ (.string ⟨cc.v.toArray⟩) = w6 := ⟨_, rfl⟩
        rw [hw6] at hput B6
        have hgl5 := hr5.lt
        have HF := Lib.hid (show (L.set i cc).length = n ∧ (L.set i cc).take (i + 1) = (l.take (j + 1)).filter (fun c => !oddC c) ∧ (L.set i cc).drop (j + 1) = l.drop (j + 1) ∧ RowW g cap (L.set i cc) w6 ∧ Below B w w6 from
         ⟨by rw [List.length_set]; exact HI.out.1, by
           rw [HST.out, ← HI.out.2.1, take_ce _ i (by rw [List.length_set, HI.out.1]; omega), List.take_set_of_le (Nat.le_refl i)]
           simp [List.getD, show i < L.length by rw [HI.out.1]; omega], by
           rw [List.drop_set_of_lt (by omega), ← List.drop_drop, HI.out.2.2.1, List.drop_drop], hput, B6⟩)
        clear b5 HCP d0 d1 d2 z0 z1 z2 hr5 hz5 B5 hput B6 hgl
        go_wp2_with fail
        go_roundw
        case rel => exact ⟨i + 1, j + 1, L.set i cc, by omega, by omega, by simp <;> omega, by simp <;> omega, HF⟩
        case measure => simp [intOf]; omega
    · obtain rfl : j = n := by omega
      have hki : ¬ (j : Int) < (j : Int) := by omega
      obtain ⟨W, hcl, hrW, hbW⟩ := HI.out.2.2.2.1.clear HI.out.1 (Nat.le_of_lt hij) (cap - i) (by omega)
      have hci : ¬ (cap = i) := by omega
      have hic : (i : Int) ≤ (cap : Int) := by omega
      have hic2 : (i : Int) ≤ (j : Int) := by omega
      have hlt := HI.out.2.1
      have htk : l.take j = l := List.take_of_length_le (by rw [HS.out.2]; exact Nat.le_refl _)
      rw [htk] at hlt
      have hil : (L.take i).length = i := by rw [List.length_take, HI.out.1]; omega
      have HF := Lib.hid (And.intro (hbW w B HW.out.1 HI.out.2.2.2.2) (show SlAt (.slice (some ⟨g, 0, none⟩) i cap) (l.filter fun c => !oddC c) W from by rw [← hlt]; exact hrW.sl HW.out.2.1 hil))
      clear hrW hbW hlt hil
      go_wp2_with fail
      go_ret
      exact ⟨HF.out.1, _, rfl, HF.out.2⟩
 · obtain rfl : k = n := by omega
   rw [if_neg hkn]
   have hfl : (l.filter fun c => !oddC c) = l := List.filter_eq_self.2 fun c hc => by
    obtain ⟨i, hi, rfl⟩ := List.mem_iff_getElem.1 hc
    have := HK.out.1 i (by rw [HS.out.2] at hi; exact hi)
    rw [show l.getD i Ce.zero = l[i] by simp [List.getD, hi]] at this
    rw [this]; rfl
   have HF := Lib.hid (And.intro (HK.out.2.2.mono hB) (show SlAt (.slice A k cap) (l.filter fun c => !oddC c) w1 from by rw [hfl]; exact HS.out.1.later HK.out.2.2))
   clear hfl
   go_wp2_with fail
   go_ret
   exact ⟨HF.out.1, _, rfl, HF.out.2⟩
/-- is a cell's Seq even? -/
def evenC (c : Ce) : Bool := !oddC c
theorem dropEven_any (c : Ce) (w : World) : Calls Tryz.prog 14 #[ceVal c] w fun e w' => e = .returned (.bool (evenC c)) ∧ Below w.heap.size w w' := by
 have q1 := CeAt.boxed c w
 have b1 := (Below.refl w.heap.size w).alloc (Nat.le_refl _) (boxC c)
 unfold boxC at q1 b1
 unfold ceVal
 have HB := Lib.hid b1
 clear b1
 go_enter Tryz.func14, Tryz.ntmps14
 go_wp2_with fail
 go_ret
 refine ⟨?_, HB.out⟩
 by_cases h : c.q.tmod 2 = 0 <;> simp [oddC, evenC, h]
set_option maxRecDepth 100000 in
set_option maxHeartbeats 4000000 in
theorem indexEven_any (A : Option Addr) (n cap : Nat) (l : List Ce) (w : World) (hs : SlAt (.slice A n cap) l w) (hn : l.length = n) :
 Calls Tryz.prog 61 #[.slice A n cap, .func (.func 14) #[] #[]] w fun e w' => ∃ k, k ≤ n ∧ (∀ i, i < k → evenC (l.getD i Ce.zero) = false) ∧ (k < n → evenC (l.getD k Ce.zero) = true) ∧ e = .returned (.int .i64 (if k < n then (k : Int) else -1)) ∧ Below w.heap.size w w' := by
 have hnb : n ≤ 9223372036854775807 := by obtain ⟨A2, c2, e0, h1, h2, -⟩ := hs; simp only [Value.slice.injEq] at e0; unfold maxLen at h2; omega
 have HS := Lib.hid (And.intro hs hn)
 clear hs hn
 go_enter Tryz.func61, Tryz.ntmps61
 go_wp2_with fail
 go_loopw [8] (fun iv wr => ∃ i : Nat, i ≤ n ∧ iv = .int .i64 i ∧ Hid ((∀ j, j < i → evenC (l.getD j Ce.zero) = false) ∧ Below w.heap.size w wr)) (fun iv _ => n - (intOf iv).toNat)
 case atStart => exact ⟨0, by omega, rfl, Lib.hid ⟨fun j hj => by omega, Below.refl _ _⟩⟩
 case round =>
  obtain ⟨i, hi, rfl, HI⟩ := hrel
  by_cases hin : i < n
  · have hii : (i : Int) < (n : Int) := by omega
    obtain ⟨b, o, rfl, hrw⟩ := (HS.out.1.later HI.out.2).row (by rw [HS.out.2]; omega)
    obtain ⟨z0, z1, z2⟩ := hrw.cells (i := i) (by rw [HS.out.2]; exact hin)
    have hbl := hrw.1
    obtain ⟨cc, hcc⟩ : ∃ cc, l.getD i Ce.zero = cc := ⟨_, rfl⟩
    rw [hcc] at z0 z1 z2
    have CP := dropEven_any cc wr
    have HC := Lib.hid hcc
    unfold ceVal at CP
    obtain ⟨pp, hpp⟩ : ∃ pp, evenC cc = pp := ⟨_, rfl⟩
    rw [hpp] at CP
    have HP := Lib.hid hpp
    have HCP := Lib.hid CP
    clear hrw hcc CP hpp
    cases pp with
    | true =>
      go_wp2_with fail
      refine HCP.out.mono ?_
      rintro e w5 ⟨rfl, b5⟩
      have HF := Lib.hid (btP HI.out.2 b5)
      clear b5 HCP z0 z1 z2
      go_wp2_with fail
      go_ret
      exact ⟨i, hi, HI.out.1, fun _ => by rw [HC.out]; exact HP.out, by rw [if_pos hin]; rfl, HF.out⟩
    | false =>
      go_wp2_with fail
      refine HCP.out.mono ?_
      rintro e w5 ⟨rfl, b5⟩
      have HF := Lib.hid (show (∀ j, j < i + 1 → evenC (l.getD j Ce.zero) = false) ∧ Below w.heap.size w w5 from ⟨fun j hj => by
       by_cases e : j = i
       · rw [e, HC.out]; exact HP.out
       · exact HI.out.1 j (by omega), btP HI.out.2 b5⟩)
      clear b5 HCP z0 z1 z2
      go_wp2_with fail
      go_roundw
      case rel => exact ⟨i + 1, by omega, by simp <;> omega, HF⟩
      case measure => simp [intOf]; omega
  · obtain rfl : i = n := by omega
    have hki : ¬ (i : Int) < (i : Int) := by omega
    go_wp2_with fail
    go_ret
    exact ⟨i, Nat.le_refl _, HI.out.1, fun h => by omega, by rw [if_neg (by omega)]; rfl, HI.out.2⟩
set_option maxRecDepth 100000 in
set_option maxHeartbeats 4000000 in
theorem deleteEven_any (u : Value) (l : List Ce) (B : Nat) (w : World) (h : w.ownsRow B 38 3 u l.length (rowOf l)) (hB : B ≤ w.heap.size) (hbig : l.length ≤ 100000) :
 Calls Tryz.prog 29 #[u, .func (.func 14) #[] #[]] w fun e w' => Below B w w' ∧ ∃ v, e = .returned v ∧ SlAt v (l.filter fun c => !evenC c) w' := by
 have hsl := slAt_own h
 obtain ⟨A, cap, hu⟩ := own_slice h
 subst hu
 obtain ⟨n, hn⟩ : ∃ n, l.length = n := ⟨_, rfl⟩
 have HO := Lib.hid h
 rw [hn] at hsl hbig HO ⊢
 have CI := Lib.hid (indexEven_any A n cap l w hsl hn)
 have HS := Lib.hid (And.intro hsl hn)
 clear hsl h hn
 go_enter Tryz.func29, Tryz.ntmps29
 go_wp2_with fail
 refine CI.out.mono ?_
 rintro e w1 ⟨k, hk, hk1, hk2, rfl, b1⟩
 have HK := Lib.hid (And.intro hk1 (And.intro hk2 b1))
 clear hk1 hk2 b1 CI
 by_cases hkn : k < n
 · rw [if_pos hkn]
   obtain ⟨g, cap2, e0, hg, hnc, hcm, hrw⟩ := rowW_own (by rw [HS.out.2]; exact HO.out) (by rw [HS.out.2]; omega)
   rw [HS.out.2] at e0 hnc
   simp only [Value.slice.injEq] at e0
   obtain ⟨rfl, -, rfl⟩ := e0
   have HW := Lib.hid (And.intro hg (And.intro hcm (hrw.later HK.out.2.2)))
   have e1 : ((k : Int) == -1) = false := beq_eq_false_iff_ne.2 (by omega)
   have hk0 : ¬ (k : Int) = -1 := by omega
   unfold maxLen at hcm
   clear hg hrw
   go_wp2_with fail
   go_loopw [5, 6] (fun iv jv wr => ∃ (i j : Nat) (L : List Ce), i < j ∧ j ≤ n ∧ iv = .int .i64 i ∧ jv = .int .i64 j ∧ Hid (L.length = n ∧ L.take i = (l.take j).filter (fun c => !evenC c) ∧ L.drop j = l.drop j ∧ RowW g cap L wr ∧ Below B w wr)) (fun _ jv _ => n - (intOf jv).toNat)
   case atStart => exact ⟨k, k + 1, l, by omega, by omega, rfl, by simp <;> omega, Lib.hid ⟨HS.out.2, by
    rw [notE_snoc (by rw [HS.out.2]; exact hkn), HK.out.2.1 hkn, filter_none (by rw [HS.out.2]; omega) fun i hi => by rw [HK.out.1 i hi]; rfl]; simp, rfl, HW.out.2.2, HK.out.2.2.mono hB⟩⟩
   case round =>
    obtain ⟨i, j, L, hij, hjn, rfl, rfl, HI⟩ := hrel
    have hgl := HI.out.2.2.2.1.lt
    by_cases hjm : j < n
    · have hjj : (j : Int) < (n : Int) := by omega
      obtain ⟨z0, z1, z2⟩ := HI.out.2.2.2.1.row.cells (i := j) (by rw [HI.out.1]; exact hjm)
      have hLj : L.getD j Ce.zero = l.getD j Ce.zero := by
       have e0 : L.getD j Ce.zero = (L.drop j).getD 0 Ce.zero := by simp [List.getD, List.getElem?_drop]
       have e2 : l.getD j Ce.zero = (l.drop j).getD 0 Ce.zero := by simp [List.getD, List.getElem?_drop]
       rw [e0, e2, HI.out.2.2.1]
      obtain ⟨cc, hcc⟩ : ∃ cc, l.getD j Ce.zero = cc := ⟨_, rfl⟩
      rw [hLj, hcc] at z0 z1 z2
      simp only [Nat.zero_add] at z0 z1 z2
      have hst := notE_snoc (p := fun c => !evenC c) (l := l) (j := j) (by rw [HS.out.2]; exact hjm)
      rw [hcc] at hst
      obtain ⟨bq, uu, V, hbq, huu, ⟨p0, p1, p2⟩, ⟨pf0, pf1, pf2⟩, hV, hz, nV, szV⟩ := cell_put wr cc
      have CP := dropEven_any cc V
      unfold ceVal at CP
      obtain ⟨pp, hpp⟩ : ∃ pp, evenC cc = pp := ⟨_, rfl⟩
      rw [hpp] at CP hst
      have HST := Lib.hid hst
      have HCP := Lib.hid CP
      obtain ⟨d0, d1, d2⟩ := cells3 hz
      have hwB := HI.out.2.2.2.2.size
      have HV := Lib.hid (And.intro hz (And.intro (HI.out.2.2.2.1.later nV) (HI.out.2.2.2.2.trans (nV.mono (by omega)))))
      have HLJ := Lib.hid (And.intro hLj hcc)
      clear hst CP hpp hz nV szV hLj hcc
      cases pp with
      | true =>
        go_wp2_with fail
        refine HCP.out.mono ?_
        rintro e w5 ⟨rfl, b5⟩
        have HF := Lib.hid (show L.length = n ∧ L.take i = (l.take (j + 1)).filter (fun c => !evenC c) ∧ L.drop (j + 1) = l.drop (j + 1) ∧ RowW g cap L w5 ∧ Below B w w5 from
         ⟨HI.out.1, by rw [HST.out, HI.out.2.1]; simp, by rw [← List.drop_drop, HI.out.2.2.1, List.drop_drop], HV.out.2.1.later b5, HV.out.2.2.trans (b5.mono (by have := HV.out.2.2.size; omega))⟩)
        clear b5 HCP d0 d1 d2 z0 z1 z2
        go_wp2_with fail
        go_roundw
        case rel => exact ⟨i, j + 1, L, by omega, by omega, rfl, by simp <;> omega, HF⟩
        case measure => simp [intOf]; omega
      | false =>
        go_wp2_with fail
        refine HCP.out.mono ?_
        rintro e w5 ⟨rfl, b5⟩
        have hr5 := HV.out.2.1.later b5
        have hz5 := (b5.block bq (Array.getElem?_eq_some_iff.1 HV.out.1).1).trans HV.out.1
        have B5 := HV.out.2.2.trans (b5.mono (by have := HV.out.2.2.size; omega))
        obtain ⟨y0, y1, y2⟩ := cells3 hz5
        have f0 := hr5.free (i * 3)
        have f1 := hr5.free (i * 3 + 1)
        have f2 := hr5.free (i * 3 + 2)
        obtain ⟨x0, x1, x2⟩ := hr5.row.cells (i := i) (by rw [HI.out.1]; omega)
        simp only [Nat.zero_add] at x0 x1 x2
        have hput := hr5.put (k := i) (by rw [HI.out.1]; omega) cc
        have hil : (i : Int) < (n : Int) := by omega
        have B6 := below_set (below_set (below_set B5 HW.out.1 (i * 3) (.string ⟨cc.k.toArray⟩)) HW.out.1 (i * 3 + 1) (.int .i64 cc.q)) HW.out.1 (i * 3 + 2) (.string ⟨cc.v.toArray⟩)
        obtain ⟨w6, hw6⟩ : ∃ w6, ((w5.setCell ⟨g, i * 3, none⟩ (.string ⟨cc.k.toArray⟩)).setCell ⟨g, i * 3 + 1, none⟩ (.int .i64 cc.q)).setCell ⟨g, i * 3 + 2, none⟩ (.string ⟨cc.v.toArray⟩) = w6 := ⟨_, rfl⟩
        rw [hw6] at hput B6
        have hgl5 := hr5.lt
        have HF := Lib.hid (show (L.set i cc).length = n ∧ (L.set i cc).take (i + 1) = (l.take (j + 1)).filter (fun c => !evenC c) ∧ (L.set i cc).drop (j + 1) = l.drop (j + 1) ∧ RowW g cap (L.set i cc) w6 ∧ Below B w w6 from
         ⟨by rw [List.length_set]; exact HI.out.1, by
           rw [HST.out, ← HI.out.2.1, take_ce _ i (by rw [List.length_set, HI.out.1]; omega), List.take_set_of_le (Nat.le_refl i)]
           simp [List.getD, show i < L.length by rw [HI.out.1]; omega], by
           rw [List.drop_set_of_lt (by omega), ← List.drop_drop, HI.out.2.2.1, List.drop_drop], hput, B6⟩)
        clear b5 HCP d0 d1 d2 z0 z1 z2 hr5 hz5 B5 hput B6 hgl
        go_wp2_with fail
        go_roundw
        case rel => exact ⟨i + 1, j + 1, L.set i cc, by omega, by omega, by simp <;> omega, by simp <;> omega, HF⟩
        case measure => simp [intOf]; omega
    · obtain rfl : j = n := by omega
      have hki : ¬ (j : Int) < (j : Int) := by omega
      obtain ⟨W, hcl, hrW, hbW⟩ := HI.out.2.2.2.1.clear HI.out.1 (Nat.le_of_lt hij) (cap - i) (by omega)
      have hci : ¬ (cap = i) := by omega
      have hic : (i : Int) ≤ (cap : Int) := by omega
      have hic2 : (i : Int) ≤ (j : Int) := by omega
      have hlt := HI.out.2.1
      have htk : l.take j = l := List.take_of_length_le (by rw [HS.out.2]; exact Nat.le_refl _)
      rw [htk] at hlt
      have hil : (L.take i).length = i := by rw [List.length_take, HI.out.1]; omega
      have HF := Lib.hid (And.intro (hbW w B HW.out.1 HI.out.2.2.2.2) (show SlAt (.slice (some ⟨g, 0, none⟩) i cap) (l.filter fun c => !evenC c) W from by rw [← hlt]; exact hrW.sl HW.out.2.1 hil))
      clear hrW hbW hlt hil
      go_wp2_with fail
      go_ret
      exact ⟨HF.out.1, _, rfl, HF.out.2⟩
 · obtain rfl : k = n := by omega
   rw [if_neg hkn]
   have hfl : (l.filter fun c => !evenC c) = l := List.filter_eq_self.2 fun c hc => by
    obtain ⟨i, hi, rfl⟩ := List.mem_iff_getElem.1 hc
    have := HK.out.1 i (by rw [HS.out.2] at hi; exact hi)
    rw [show l.getD i Ce.zero = l[i] by simp [List.getD, hi]] at this
    rw [this]; rfl
   have HF := Lib.hid (And.intro (HK.out.2.2.mono hB) (show SlAt (.slice A k cap) (l.filter fun c => !evenC c) w1 from by rw [hfl]; exact HS.out.1.later HK.out.2.2))
   clear hfl
   go_wp2_with fail
   go_ret
   exact ⟨HF.out.1, _, rfl, HF.out.2⟩
end Go.Proofs.YtoglloafpnopaaaGreat
