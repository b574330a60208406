/- The walk of MemoryMerges. MemoryMerges. -/
import Derived.Test.YtpcapifjbhaeeaaMemO
import Derived.Test.YtpcapifjbhaeeaaMgF
import Derived.Test.YtpcapifjbhaeeaaMgA
namespace Go.Proofs.Ytpcapifjbhaeeaa
set_option maxRecDepth 16000
open Go.RowKit Spoor
set_option linter.unusedVariables false
set_option linter.unusedSimpArgs false

theorem rows_two {va vb : Value} {A B : List Ce} {W : World} (ha : SlAt va A W) (hb : SlAt vb B W) : RowsIn (.slice (some ⟨W.heap.size, 0, none⟩) 2 2) [A, B] (W.alloc (.cells #[va, vb] 22)) := by
  have nb := (Below.refl W.heap.size W).alloc (Nat.le_refl _) (.cells #[va, vb] 22)
  have hx := heap_alloc_new W (.cells #[va, vb] 22)
  have hs : W.heap.size < (W.alloc (.cells #[va, vb] 22)).heap.size := by simp
  refine ⟨some ⟨W.heap.size, 0, none⟩, 2, rfl, Nat.le_refl _, by unfold maxLen; omega, fun k hk => ?_⟩
  have ha' := ha.later nb
  have hb' := hb.later nb
  generalize W.alloc (.cells #[va, vb] 22) = w3 at hx hs ha' hb' ⊢
  match k, hk with
  | 0, _ => exact ⟨_, _, va, rfl, hs, by simp [World.cell?, hx], ha'⟩
  | 1, _ => exact ⟨_, _, vb, rfl, hs, by simp [World.cell?, hx], hb'⟩
  | k + 2, hk => simp at hk; omega
theorem may_two {A B : List Ce} (hA : Rise A ∧ ∀ c ∈ A, c.may = true) (hB : Rise B ∧ ∀ c ∈ B, c.may = true) (fA : ∀ c ∈ A, FitsC c) (fB : ∀ c ∈ B, FitsC c) (lA : A.length ≤ 1000) (lB : B.length ≤ 1000) : MayM [A, B] := by
  refine ⟨by simp, fun r hr => ?_, by simp; omega⟩
  simp only [List.mem_cons, List.not_mem_nil, or_false] at hr
  rcases hr with rfl | rfl
  · exact ⟨by omega, fA, sorted_rise.2 hA⟩
  · exact ⟨by omega, fB, sorted_rise.2 hB⟩
/-- two memories, and what stands beside them -/
def TwoAt (w : World) (pa pb : Nat) (A B : List Ce) (vs : List (Value × List Ce)) (W : World) : Prop :=
  St w.heap.size pa A [] W ∧ St w.heap.size pb B [] W ∧ (∀ x ∈ vs, SlAt x.1 x.2 W) ∧ Below w.heap.size w W
theorem TwoAt.later {w : World} {pa pb : Nat} {A B : List Ce} {vs : List (Value × List Ce)} {W W' : World} (h : TwoAt w pa pb A B vs W) (hb : Below W.heap.size W W') : TwoAt w pa pb A B vs W' :=
  ⟨h.1.later hb, h.2.1.later hb, fun x hx => (h.2.2.1 x hx).later hb, btP h.2.2.2 hb⟩
theorem TwoAt.add {w : World} {pa pb : Nat} {A B : List Ce} {vs : List (Value × List Ce)} {W : World} (h : TwoAt w pa pb A B vs W) {v : Value} {l : List Ce} (hs : SlAt v l W) : TwoAt w pa pb A B ((v, l) :: vs) W :=
  ⟨h.1, h.2.1, fun x hx => (List.mem_cons.1 hx).elim (fun e => e ▸ hs) (h.2.2.1 x), h.2.2.2⟩
set_option maxRecDepth 100000 in
set_option maxHeartbeats 8000000 in
theorem memoryMerges_yes (w : World) (v u : Value) (l m : List Ce) (hs : SlAt v l w) (hm : SlAt u m w) (hw : ∀ c ∈ l, WfC c) (hwm : ∀ c ∈ m, WfC c) (hg : greatL l 100 = false) (hg2 : greatL m 100 = false) :
    Calls Try.prog 7 #[v, u] w fun e w' => e = .returned (.bool true) ∧ Below w.heap.size w w' := by
  have cg := greatL_any v l 100 w hs hw (by omega)
  have cg2 := fun W h => greatL_any u m 100 W h hwm (by omega)
  rw [hg] at cg
  rw [hg2] at cg2
  have hlen := (great_yes hg).1
  have hlen2 := (great_yes hg2).1
  have hf := fits_great hg hw
  have hf2 := fits_great hg2 hwm
  have PU := Lib.hid (fun W (h : SlAt v l W) => put_any v l W h (by omega) hf)
  have PU2 := Lib.hid (fun W (h : SlAt u m W) => put_any u m W h (by omega) hf2)
  obtain ⟨A, hA⟩ : ∃ A, putsC [] l = A := ⟨_, rfl⟩
  obtain ⟨B, hB⟩ : ∃ B, putsC [] m = B := ⟨_, rfl⟩
  have rA : Rise A := hA ▸ puts_rise (by simp [Rise])
  have rB : Rise B := hB ▸ puts_rise (by simp [Rise])
  have mA : ∀ c ∈ A, c.may = true := hA ▸ puts_may (by simp)
  have mB : ∀ c ∈ B, c.may = true := hB ▸ puts_may (by simp)
  have lA : A.length ≤ 100 := by have := puts_length l []; rw [hA] at this; simp at this; omega
  have lB : B.length ≤ 100 := by have := puts_length m []; rw [hB] at this; simp at this; omega
  have fA : ∀ c ∈ A, FitsC c := hA ▸ fits_puts (by simp) hf
  have fB : ∀ c ∈ B, FitsC c := hB ▸ fits_puts (by simp) hf2
  rw [hA] at PU
  rw [hB] at PU2
  have hMM := may_two ⟨rA, mA⟩ ⟨rB, mB⟩ fA fB (by omega) (by omega)
  have HM := Lib.hid (And.intro hMM (And.intro rA (And.intro rB (And.intro mB (And.intro fB fA)))))
  have CG := Lib.hid cg
  have CG2 := Lib.hid cg2
  have HS := Lib.hid (And.intro hs hm)
  clear cg cg2 hf hf2 hlen hlen2 hA hB rA rB mA mB fA fB hMM hs hm hw hwm hg hg2
  go_enter Try.func7, Try.ntmps7
  go_wp2_with fail
  refine CG.out.mono ?_
  rintro e w1 ⟨rfl, b1⟩
  have CGB := Lib.hid (CG2.out w1 (HS.out.2.later b1))
  have HB := Lib.hid b1
  clear b1 CG CG2
  go_wp2_with fail
  refine CGB.out.mono ?_
  rintro e w2 ⟨rfl, b2⟩
  have B2 := HB.out.trans (b2.mono HB.out.size)
  have PC := Lib.hid (PU.out w2 (HS.out.1.later B2))
  have HB2 := Lib.hid B2
  clear b2 B2 HB CGB PU
  go_wp2_with fail
  refine PC.out.mono ?_
  rintro e w3 ⟨pa, fs, rfl, M3, h3, b3⟩
  have B3 := btP HB2.out b3
  have S3 : St w.heap.size pa A [] w3 := St.new M3 (fun x hx => Nat.le_trans HB2.out.size (h3 x hx))
  have PC2 := Lib.hid (PU2.out w3 (HS.out.2.later B3))
  have HB3 := Lib.hid (And.intro B3 S3)
  clear M3 h3 b3 B3 S3 HB2 PC PU2
  go_wp2_with fail
  refine PC2.out.mono ?_
  rintro e w4 ⟨pb, fs2, rfl, M4, h4, b4⟩
  have T4 : TwoAt w pa pb A B [] w4 := ⟨HB3.out.2.later b4, St.new M4 (fun x hx => Nat.le_trans HB3.out.1.size (h4 x hx)), fun x hx => absurd hx List.not_mem_nil, btP HB3.out.1 b4⟩
  have RA := Lib.hid (T4.1.range (by omega) [] [])
  have HT := Lib.hid T4
  clear M4 h4 b4 T4 HB3 PC2
  go_wp2_with fail
  refine RA.out.mono ?_
  rintro e w5 ⟨b5, va, rfl, own⟩
  rw [rangeC_all] at own
  have T5 := (HT.out.later b5).add (slAt_own own)
  obtain ⟨Aa, ca, rfl⟩ := own_slice own
  have RB := Lib.hid (T5.2.1.range (by omega) [] [])
  have HT5 := Lib.hid T5
  clear b5 own T5 HT RA
  go_wp2_with fail
  refine RB.out.mono ?_
  rintro e w6 ⟨b6, vb, rfl, own⟩
  rw [rangeC_all] at own
  have T6 := (HT5.out.later b6).add (slAt_own own)
  obtain ⟨Ab, cb, rfl⟩ := own_slice own
  have nb := (Below.refl w6.heap.size w6).alloc (Nat.le_refl _) (.cells #[.slice Aa A.length ca, .slice Ab B.length cb] 22)
  have CA := Lib.hid (allM_any _ [A, B] _ (rows_two (T6.2.2.1 _ (List.mem_cons_of_mem _ List.mem_cons_self)) (T6.2.2.1 _ List.mem_cons_self)) HM.out.1)
  have HT6 := Lib.hid (show TwoAt w pa pb A B [] (w6.alloc (.cells #[.slice Aa A.length ca, .slice Ab B.length cb] 22)) from by
    have := T6.later nb
    exact ⟨this.1, this.2.1, fun x hx => absurd hx List.not_mem_nil, this.2.2.2⟩)
  clear b6 own T6 HT5 RB nb
  go_wp2_with fail
  refine CA.out.mono ?_
  rintro e w7 ⟨vp, pre, rfl, hmg, own, b7⟩
  have T7 := (HT6.out.later b7).add (slAt_own own)
  obtain ⟨Ap, cp, rfl⟩ := own_slice own
  have RA := Lib.hid (T7.1.range (by omega) [] [])
  have HT7 := Lib.hid T7
  have HMG := Lib.hid hmg
  clear b7 own T7 HT6 CA hmg
  go_wp2_with fail
  refine RA.out.mono ?_
  rintro e w8 ⟨b8, va, rfl, own⟩
  rw [rangeC_all] at own
  have T8 := (HT7.out.later b8).add (slAt_own own)
  obtain ⟨Aa, ca, rfl⟩ := own_slice own
  have RB := Lib.hid (T8.2.1.range (by omega) [] [])
  have HT8 := Lib.hid T8
  clear b8 own T8 HT7 RA
  go_wp2_with fail
  refine RB.out.mono ?_
  rintro e w9 ⟨b9, vb, rfl, own⟩
  rw [rangeC_all] at own
  have T9 := (HT8.out.later b9).add (slAt_own own)
  obtain ⟨Ab, cb, rfl⟩ := own_slice own
  have nb := (Below.refl w9.heap.size w9).alloc (Nat.le_refl _) (.cells #[.slice Aa A.length ca, .slice Ab B.length cb] 22)
  have CN := Lib.hid (newestM_any _ [A, B] _ (rows_two (T9.2.2.1 _ (List.mem_cons_of_mem _ List.mem_cons_self)) (T9.2.2.1 _ List.mem_cons_self)) HM.out.1)
  have HT9 := Lib.hid (show TwoAt w pa pb A B [(.slice Ap pre.length cp, pre)] (w9.alloc (.cells #[.slice Aa A.length ca, .slice Ab B.length cb] 22)) from by
    have := T9.later nb
    exact ⟨this.1, this.2.1, fun x hx => this.2.2.1 x (by simp at hx; simp [hx]), this.2.2.2⟩)
  clear b9 own T9 HT8 RB nb
  go_wp2_with fail
  refine CN.out.mono ?_
  rintro e w10 ⟨vn, pre2, rfl, hmg2, own, b10⟩
  obtain rfl : pre2 = pre := merged_one hmg2 HMG.out
  have T10 := (HT9.out.later b10).add (slAt_own own)
  obtain ⟨An, cn, rfl⟩ := own_slice own
  have HT10 := Lib.hid T10
  clear b10 own T10 HT9 CN hmg2
  obtain ⟨n, hn⟩ : ∃ n, pre2.length = n := ⟨_, rfl⟩
  have hn2 : n ≤ 200 := by have := merged_length HMG.out; simp at this; omega
  have hpf : ∀ c ∈ pre2, FitsC c := fun c hc => by
    obtain ⟨r, hr, hcr⟩ := merged_sub HMG.out hc
    exact (HM.out.1.2.1 r hr).2.1 c hcr
  have HN := Lib.hid (And.intro hn hpf)
  have hm2 : (dd keyC pre2).length ≤ n := by rw [← hn]; exact dd_length _ _ _
  obtain ⟨m, hm⟩ : ∃ m, (dd keyC pre2).length = m := ⟨_, rfl⟩
  have HMN := Lib.hid hm
  rw [hm] at hm2
  rw [hm, hn] at HT10
  rw [hm, hn]
  clear hn hm hpf
  go_wp2_with fail
  go_loopw [12, 11] (fun iv v wr => ∃ k : Nat, k ≤ n ∧ iv = .int .i64 k ∧ Hid (wr.ownsRow w10.heap.size 33 3 v (dd sameC (pre2.take k)).length (rowOf (dd sameC (pre2.take k))) ∧ Below w10.heap.size w10 wr)) (fun iv _ _ => n - (intOf iv).toNat)
  case atStart => exact ⟨0, by omega, rfl, Lib.hid ⟨World.ownsRow_nil _ _ _ _, Below.refl _ _⟩⟩
  case round =>
    obtain ⟨k, hk, rfl, HI⟩ := hrel
    by_cases hkn : k < n
    · have hsl := (HT10.out.2.2.1 _ (List.mem_cons_of_mem _ List.mem_cons_self)).later (HI.out.2.mono (Nat.le_refl _))
      obtain ⟨A0, c0, e0, hc1, hc2, hrow⟩ := hsl
      simp only [Value.slice.injEq] at e0
      obtain ⟨rfl, -, rfl⟩ := e0
      obtain ⟨b, o, rfl, row⟩ := hrow (by rw [HN.out.1]; omega)
      have hzs := row.cells (i := k) (by rw [HN.out.1]; exact hkn)
      have hdd := dd_take sameC pre2 k (by rw [HN.out.1]; exact hkn)
      have hdl : (dd sameC (pre2.take k)).length ≤ 200 := by show (ddF sameC none (pre2.take k)).length ≤ 200; have := dd_length sameC (pre2.take k) none; rw [List.length_take] at this; omega
      have nbx := (Below.drew (Below.refl wr.heap.size wr)).alloc (by exact Nat.le_refl _) (.cells #[.string ⟨(pre2.getD k Ce.zero).k.toArray⟩, .int .i64 (pre2.getD k Ce.zero).q, .string ⟨(pre2.getD k Ce.zero).v.toArray⟩] 33)
      have own0 := HI.out.1
      obtain ⟨c, hc⟩ : ∃ c, pre2.getD k Ce.zero = c := ⟨_, rfl⟩
      have HROW := Lib.hid row
      rw [hc] at hzs hdd nbx
      have hkc : (k : Int) < (cp : Int) := by rw [HN.out.1] at hc1; omega
      clear hrow row hc1 hc2
      rcases Nat.eq_zero_or_pos k with h0 | h0
      · subst h0
        rw [if_neg fun e => Nat.lt_irrefl 0 e.1] at hdd
        obtain ⟨z0, z1, z2⟩ := hzs
        simp only [Nat.zero_mul, Nat.add_zero] at z0 z1 z2
        have HS0 := Lib.hid (show True ∧ True ∧ True ∧ True from ⟨trivial, trivial, trivial, trivial⟩)
        have hki : (0 : Int) < (n : Int) := by omega
        clear hc hkc
        go_wp2_with fail
        refine (wpIn_wide (n := 5)).1 ?_
        refine wpIn_region_lit_late (fun W' => True ∧ True ∧ True ∧ True) (fun _ => false) (k := 30) (listed := #[false, false, false, false, false, false, false, false, false, false, false, false, false, false, false, false, false, false, false, false, false, false, false, false, false, false, false, false, false, false]) (by kernel_rfl) (by kernel_rfl) (by kernel_rfl) ?_
        have hS : True ∧ True ∧ True ∧ True := HS0.out
        refine AnyS.get (i := 0) (some 51) ?_ rfl rfl (by kernel_rfl) (by kernel_rfl) (by kernel_rfl) (by kernel_rfl) (fun _ _ _ h => h) (Reads.yes (by kernel_rfl) ?_ (fun _ => rfl)) hS ?_
        rotate_left
        · intro w' hw'
          obtain ⟨h0, h1, h2, h3⟩ := hw'
          go_simp
          with_reducible rfl
        simp only [Act.put, List.setIfInBounds_toArray, List.set_cons_succ, List.set_cons_zero]
        refine AnyS.get (i := 1) (some 52) ?_ rfl rfl (by kernel_rfl) (by kernel_rfl) (by kernel_rfl) (by kernel_rfl) (fun _ _ _ h => h) (Reads.yes (by kernel_rfl) ?_ (fun _ => rfl)) hS ?_
        rotate_left
        · intro w' hw'
          obtain ⟨h0, h1, h2, h3⟩ := hw'
          go_simp
          with_reducible rfl
        simp only [Act.put, List.setIfInBounds_toArray, List.set_cons_succ, List.set_cons_zero]
        refine AnyS.get (i := 2) (some 53) ?_ rfl rfl (by kernel_rfl) (by kernel_rfl) (by kernel_rfl) (by kernel_rfl) (fun _ _ _ h => h) (Reads.yes (by kernel_rfl) ?_ (fun _ => rfl)) hS ?_
        rotate_left
        · intro w' hw'
          obtain ⟨h0, h1, h2, h3⟩ := hw'
          go_simp
          with_reducible rfl
        simp only [Act.put, List.setIfInBounds_toArray, List.set_cons_succ, List.set_cons_zero]
        refine AnyS.get (i := 3) (some 54) undef rfl rfl (by kernel_rfl) (by kernel_rfl) (by kernel_rfl) (by kernel_rfl) (fun _ _ _ h => h) ⟨.inr ⟨by kernel_rfl, rfl⟩, fun _ => rfl⟩ hS ?_
        simp only [Act.put, List.setIfInBounds_toArray, List.set_cons_succ, List.set_cons_zero]
        refine AnyS.get (i := 4) (some 55) undef rfl rfl (by kernel_rfl) (by kernel_rfl) (by kernel_rfl) (by kernel_rfl) (fun _ _ _ h => h) ⟨.inr ⟨by kernel_rfl, rfl⟩, fun _ => rfl⟩ hS ?_
        simp only [Act.put, List.setIfInBounds_toArray, List.set_cons_succ, List.set_cons_zero]
        refine AnyS.get (i := 5) (some 56) undef rfl rfl (by kernel_rfl) (by kernel_rfl) (by kernel_rfl) (by kernel_rfl) (fun _ _ _ h => h) ⟨.inr ⟨by kernel_rfl, rfl⟩, fun _ => rfl⟩ hS ?_
        simp only [Act.put, List.setIfInBounds_toArray, List.set_cons_succ, List.set_cons_zero]
        refine AnyS.get (i := 6) (some 57) undef rfl rfl (by kernel_rfl) (by kernel_rfl) (by kernel_rfl) (by kernel_rfl) (fun _ _ _ h => h) ⟨.inr ⟨by kernel_rfl, rfl⟩, fun _ => rfl⟩ hS ?_
        simp only [Act.put, List.setIfInBounds_toArray, List.set_cons_succ, List.set_cons_zero]
        refine AnyS.get (i := 7) (some 58) undef rfl rfl (by kernel_rfl) (by kernel_rfl) (by kernel_rfl) (by kernel_rfl) (fun _ _ _ h => h) ⟨.inr ⟨by kernel_rfl, rfl⟩, fun _ => rfl⟩ hS ?_
        simp only [Act.put, List.setIfInBounds_toArray, List.set_cons_succ, List.set_cons_zero]
        refine AnyS.get (i := 8) (some 59) undef rfl rfl (by kernel_rfl) (by kernel_rfl) (by kernel_rfl) (by kernel_rfl) (fun _ _ _ h => h) ⟨.inr ⟨by kernel_rfl, rfl⟩, fun _ => rfl⟩ hS ?_
        simp only [Act.put, List.setIfInBounds_toArray, List.set_cons_succ, List.set_cons_zero]
        refine AnyS.get (i := 9) (some 60) undef rfl rfl (by kernel_rfl) (by kernel_rfl) (by kernel_rfl) (by kernel_rfl) (fun _ _ _ h => h) ⟨.inr ⟨by kernel_rfl, rfl⟩, fun _ => rfl⟩ hS ?_
        simp only [Act.put, List.setIfInBounds_toArray, List.set_cons_succ, List.set_cons_zero]
        refine AnyS.get (i := 10) (some 61) undef rfl rfl (by kernel_rfl) (by kernel_rfl) (by kernel_rfl) (by kernel_rfl) (fun _ _ _ h => h) ⟨.inr ⟨by kernel_rfl, rfl⟩, fun _ => rfl⟩ hS ?_
        simp only [Act.put, List.setIfInBounds_toArray, List.set_cons_succ, List.set_cons_zero]
        refine AnyS.get (i := 11) (some 62) undef rfl rfl (by kernel_rfl) (by kernel_rfl) (by kernel_rfl) (by kernel_rfl) (fun _ _ _ h => h) ⟨.inr ⟨by kernel_rfl, rfl⟩, fun _ => rfl⟩ hS ?_
        simp only [Act.put, List.setIfInBounds_toArray, List.set_cons_succ, List.set_cons_zero]
        refine AnyS.get (i := 12) (some 63) undef rfl rfl (by kernel_rfl) (by kernel_rfl) (by kernel_rfl) (by kernel_rfl) (fun _ _ _ h => h) ⟨.inr ⟨by kernel_rfl, rfl⟩, fun _ => rfl⟩ hS ?_
        simp only [Act.put, List.setIfInBounds_toArray, List.set_cons_succ, List.set_cons_zero]
        refine AnyS.get (i := 13) (some 64) undef rfl rfl (by kernel_rfl) (by kernel_rfl) (by kernel_rfl) (by kernel_rfl) (fun _ _ _ h => h) ⟨.inr ⟨by kernel_rfl, rfl⟩, fun _ => rfl⟩ hS ?_
        simp only [Act.put, List.setIfInBounds_toArray, List.set_cons_succ, List.set_cons_zero]
        refine AnyS.get (i := 14) (some 65) undef rfl rfl (by kernel_rfl) (by kernel_rfl) (by kernel_rfl) (by kernel_rfl) (fun _ _ _ h => h) ⟨.inr ⟨by kernel_rfl, rfl⟩, fun _ => rfl⟩ hS ?_
        simp only [Act.put, List.setIfInBounds_toArray, List.set_cons_succ, List.set_cons_zero]
        refine AnyS.get (i := 15) (some 66) ?_ rfl rfl (by kernel_rfl) (by kernel_rfl) (by kernel_rfl) (by kernel_rfl) (fun _ _ _ h => h) (Reads.yes (by kernel_rfl) ?_ (fun _ => rfl)) hS ?_
        rotate_left
        · intro w' hw'
          obtain ⟨h0, h1, h2, h3⟩ := hw'
          go_simp
          with_reducible rfl
        simp only [Act.put, List.setIfInBounds_toArray, List.set_cons_succ, List.set_cons_zero]
        refine AnyS.get (i := 16) (some 67) ?_ rfl rfl (by kernel_rfl) (by kernel_rfl) (by kernel_rfl) (by kernel_rfl) (fun _ _ _ h => h) (Reads.yes (by kernel_rfl) ?_ (fun _ => rfl)) hS ?_
        rotate_left
        · intro w' hw'
          obtain ⟨h0, h1, h2, h3⟩ := hw'
          go_simp
          with_reducible rfl
        simp only [Act.put, List.setIfInBounds_toArray, List.set_cons_succ, List.set_cons_zero]
        refine AnyS.get (i := 17) (some 68) undef rfl rfl (by kernel_rfl) (by kernel_rfl) (by kernel_rfl) (by kernel_rfl) (fun _ _ _ h => h) ⟨.inr ⟨by kernel_rfl, rfl⟩, fun _ => rfl⟩ hS ?_
        simp only [Act.put, List.setIfInBounds_toArray, List.set_cons_succ, List.set_cons_zero]
        refine AnyS.get (i := 18) (some 69) undef rfl rfl (by kernel_rfl) (by kernel_rfl) (by kernel_rfl) (by kernel_rfl) (fun _ _ _ h => h) ⟨.inr ⟨by kernel_rfl, rfl⟩, fun _ => rfl⟩ hS ?_
        simp only [Act.put, List.setIfInBounds_toArray, List.set_cons_succ, List.set_cons_zero]
        refine AnyS.get (i := 19) (some 70) undef rfl rfl (by kernel_rfl) (by kernel_rfl) (by kernel_rfl) (by kernel_rfl) (fun _ _ _ h => h) ⟨.inr ⟨by kernel_rfl, rfl⟩, fun _ => rfl⟩ hS ?_
        simp only [Act.put, List.setIfInBounds_toArray, List.set_cons_succ, List.set_cons_zero]
        refine AnyS.get (i := 20) (some 71) undef rfl rfl (by kernel_rfl) (by kernel_rfl) (by kernel_rfl) (by kernel_rfl) (fun _ _ _ h => h) ⟨.inr ⟨by kernel_rfl, rfl⟩, fun _ => rfl⟩ hS ?_
        simp only [Act.put, List.setIfInBounds_toArray, List.set_cons_succ, List.set_cons_zero]
        refine AnyS.get (i := 21) (some 72) undef rfl rfl (by kernel_rfl) (by kernel_rfl) (by kernel_rfl) (by kernel_rfl) (fun _ _ _ h => h) ⟨.inr ⟨by kernel_rfl, rfl⟩, fun _ => rfl⟩ hS ?_
        simp only [Act.put, List.setIfInBounds_toArray, List.set_cons_succ, List.set_cons_zero]
        refine AnyS.get (i := 22) (some 73) undef rfl rfl (by kernel_rfl) (by kernel_rfl) (by kernel_rfl) (by kernel_rfl) (fun _ _ _ h => h) ⟨.inr ⟨by kernel_rfl, rfl⟩, fun _ => rfl⟩ hS ?_
        simp only [Act.put, List.setIfInBounds_toArray, List.set_cons_succ, List.set_cons_zero]
        refine AnyS.get (i := 23) (some 74) undef rfl rfl (by kernel_rfl) (by kernel_rfl) (by kernel_rfl) (by kernel_rfl) (fun _ _ _ h => h) ⟨.inr ⟨by kernel_rfl, rfl⟩, fun _ => rfl⟩ hS ?_
        simp only [Act.put, List.setIfInBounds_toArray, List.set_cons_succ, List.set_cons_zero]
        refine AnyS.get (i := 24) (some 75) undef rfl rfl (by kernel_rfl) (by kernel_rfl) (by kernel_rfl) (by kernel_rfl) (fun _ _ _ h => h) ⟨.inr ⟨by kernel_rfl, rfl⟩, fun _ => rfl⟩ hS ?_
        simp only [Act.put, List.setIfInBounds_toArray, List.set_cons_succ, List.set_cons_zero]
        refine AnyS.get (i := 25) (some 76) undef rfl rfl (by kernel_rfl) (by kernel_rfl) (by kernel_rfl) (by kernel_rfl) (fun _ _ _ h => h) ⟨.inr ⟨by kernel_rfl, rfl⟩, fun _ => rfl⟩ hS ?_
        simp only [Act.put, List.setIfInBounds_toArray, List.set_cons_succ, List.set_cons_zero]
        refine AnyS.get (i := 26) (some 77) undef rfl rfl (by kernel_rfl) (by kernel_rfl) (by kernel_rfl) (by kernel_rfl) (fun _ _ _ h => h) ⟨.inr ⟨by kernel_rfl, rfl⟩, fun _ => rfl⟩ hS ?_
        simp only [Act.put, List.setIfInBounds_toArray, List.set_cons_succ, List.set_cons_zero]
        refine AnyS.get (i := 27) (some 78) undef rfl rfl (by kernel_rfl) (by kernel_rfl) (by kernel_rfl) (by kernel_rfl) (fun _ _ _ h => h) ⟨.inr ⟨by kernel_rfl, rfl⟩, fun _ => rfl⟩ hS ?_
        simp only [Act.put, List.setIfInBounds_toArray, List.set_cons_succ, List.set_cons_zero]
        refine AnyS.get (i := 28) (some 79) undef rfl rfl (by kernel_rfl) (by kernel_rfl) (by kernel_rfl) (by kernel_rfl) (fun _ _ _ h => h) ⟨.inr ⟨by kernel_rfl, rfl⟩, fun _ => rfl⟩ hS ?_
        simp only [Act.put, List.setIfInBounds_toArray, List.set_cons_succ, List.set_cons_zero]
        refine AnyS.get (i := 29) (some 80) ?_ rfl rfl (by kernel_rfl) (by kernel_rfl) (by kernel_rfl) (by kernel_rfl) (fun _ _ _ h => h) (Reads.yes (by kernel_rfl) ?_ (fun _ => rfl)) hS ?_
        rotate_left
        · intro w' hw'
          obtain ⟨h0, h1, h2, h3⟩ := hw'
          go_simp
          with_reducible rfl
        simp only [Act.put, List.setIfInBounds_toArray, List.set_cons_succ, List.set_cons_zero]
        clear hS
        refine AnyS.done (by kernel_rfl) ?_ _
        obtain ⟨v1, w11, run, own1, bw1⟩ := run_append_sl (w := wr.drew.alloc (.cells #[.string ⟨c.k.toArray⟩, .int .i64 c.q, .string ⟨c.v.toArray⟩] 33)) (own_lat own0 nbx) (Nat.le_trans HI.out.2.size nbx.size) (new_sl [c] wr.drew (by simp)) (by rw [List.length_singleton]; omega)
        have R := Lib.hid run
        have HE := Lib.hid (show w11.ownsRow w10.heap.size 33 3 v1 (dd sameC (pre2.take (0 + 1))).length (rowOf (dd sameC (pre2.take (0 + 1)))) ∧ Below w10.heap.size w10 w11 from by
          rw [hdd]
          exact ⟨own1, (HI.out.2.trans (nbx.mono HI.out.2.size)).trans bw1⟩)
        clear run own1 bw1 own0 nbx hdd
        go_wp2_with (at_builtin; refine wpList_append_runE _ rfl _ _ 22 22 rfl _ _ rfl rfl R.out ?_)
        go_roundw
        case rel => exact ⟨0 + 1, by omega, by simp <;> omega, Lib.hid HE.out⟩
        case measure => simp [intOf]; omega
      · obtain ⟨j, rfl⟩ : ∃ j, k = j + 1 := ⟨k - 1, by omega⟩
        obtain ⟨d, hd⟩ : ∃ d, pre2.getD j Ce.zero = d := ⟨_, rfl⟩
        have hys := HROW.out.cells (i := j) (by rw [HN.out.1]; omega)
        rw [show j + 1 - 1 = j from rfl, hd] at hdd
        rw [hd] at hys
        obtain ⟨y0, y1, y2⟩ := hys
        obtain ⟨z0, z1, z2⟩ := hzs
        have HS0 := Lib.hid (show wr.drew.cell? ⟨b, o + (j + 1) * 3, none⟩ = some (.string ⟨c.k.toArray⟩) ∧ wr.drew.cell? ⟨b, o + (j + 1) * 3 + 1, none⟩ = some (.int .i64 c.q) ∧ wr.drew.cell? ⟨b, o + j * 3, none⟩ = some (.string ⟨d.k.toArray⟩) ∧ wr.drew.cell? ⟨b, o + j * 3 + 1, none⟩ = some (.int .i64 d.q) from ⟨z0, z1, y0, y1⟩)
        have hki : (j : Int) + 1 < (n : Int) := by omega
        have hkp : (0 : Int) ≤ (j : Int) + 1 := by omega
        have hjn : (j : Int) < (n : Int) := by omega
        have hjp : (0 : Int) ≤ (j : Int) := by omega
        have hw1 : IntKind.i64.wrap ((j : Int) + 1 - 1) = (j : Int) := by rw [IntKind.wrap_i64]; omega
        have hw2 : IntKind.i64.wrap (j : Int) = (j : Int) := by rw [IntKind.wrap_i64]; omega
        have htn : ((j : Int) + 1).toNat = j + 1 := by omega
        have hkz : ¬ (j : Int) + 1 = 0 := by omega
        clear hc hd hkc
        by_cases hk1 : c.k = d.k
        · have hkb : (c.k == d.k) = true := by simp [hk1]
          by_cases hq1 : c.q = d.q
          · rw [if_pos ⟨h0, by unfold sameC; simp [hk1, hq1]⟩] at hdd
            clear own0 nbx
            go_wp2_with fail
            refine (wpIn_wide (n := 5)).1 ?_
            refine wpIn_region_lit_late (fun W' => W'.cell? ⟨b, o + (j + 1) * 3, none⟩ = some (.string ⟨c.k.toArray⟩) ∧ W'.cell? ⟨b, o + (j + 1) * 3 + 1, none⟩ = some (.int .i64 c.q) ∧ W'.cell? ⟨b, o + j * 3, none⟩ = some (.string ⟨d.k.toArray⟩) ∧ W'.cell? ⟨b, o + j * 3 + 1, none⟩ = some (.int .i64 d.q)) (fun _ => false) (k := 30) (listed := #[false, false, false, false, false, false, false, false, false, false, false, false, false, false, false, false, false, false, false, false, false, false, false, false, false, false, false, false, false, false]) (by kernel_rfl) (by kernel_rfl) (by kernel_rfl) ?_
            have hS : wr.drew.cell? ⟨b, o + (j + 1) * 3, none⟩ = some (.string ⟨c.k.toArray⟩) ∧ wr.drew.cell? ⟨b, o + (j + 1) * 3 + 1, none⟩ = some (.int .i64 c.q) ∧ wr.drew.cell? ⟨b, o + j * 3, none⟩ = some (.string ⟨d.k.toArray⟩) ∧ wr.drew.cell? ⟨b, o + j * 3 + 1, none⟩ = some (.int .i64 d.q) := HS0.out
            refine AnyS.get (i := 0) (some 51) ?_ rfl rfl (by kernel_rfl) (by kernel_rfl) (by kernel_rfl) (by kernel_rfl) (fun _ _ _ h => h) (Reads.yes (by kernel_rfl) ?_ (fun _ => rfl)) hS ?_
            rotate_left
            · intro w' hw'
              obtain ⟨h0, h1, h2, h3⟩ := hw'
              go_simp
              with_reducible rfl
            simp only [Act.put, List.setIfInBounds_toArray, List.set_cons_succ, List.set_cons_zero]
            refine AnyS.get (i := 1) (some 52) ?_ rfl rfl (by kernel_rfl) (by kernel_rfl) (by kernel_rfl) (by kernel_rfl) (fun _ _ _ h => h) (Reads.yes (by kernel_rfl) ?_ (fun _ => rfl)) hS ?_
            rotate_left
            · intro w' hw'
              obtain ⟨h0, h1, h2, h3⟩ := hw'
              go_simp
              with_reducible rfl
            simp only [Act.put, List.setIfInBounds_toArray, List.set_cons_succ, List.set_cons_zero]
            refine AnyS.get (i := 2) (some 53) ?_ rfl rfl (by kernel_rfl) (by kernel_rfl) (by kernel_rfl) (by kernel_rfl) (fun _ _ _ h => h) (Reads.yes (by kernel_rfl) ?_ (fun _ => rfl)) hS ?_
            rotate_left
            · intro w' hw'
              obtain ⟨h0, h1, h2, h3⟩ := hw'
              go_simp
              with_reducible rfl
            simp only [Act.put, List.setIfInBounds_toArray, List.set_cons_succ, List.set_cons_zero]
            refine AnyS.get (i := 3) (some 54) ?_ rfl rfl (by kernel_rfl) (by kernel_rfl) (by kernel_rfl) (by kernel_rfl) (fun _ _ _ h => h) (Reads.yes (by kernel_rfl) ?_ (fun _ => rfl)) hS ?_
            rotate_left
            · intro w' hw'
              obtain ⟨h0, h1, h2, h3⟩ := hw'
              go_simp
              with_reducible rfl
            simp only [Act.put, List.setIfInBounds_toArray, List.set_cons_succ, List.set_cons_zero]
            refine AnyS.get (i := 4) (some 55) ?_ rfl rfl (by kernel_rfl) (by kernel_rfl) (by kernel_rfl) (by kernel_rfl) (fun _ _ _ h => h) (Reads.yes (by kernel_rfl) ?_ (fun _ => rfl)) hS ?_
            rotate_left
            · intro w' hw'
              obtain ⟨h0, h1, h2, h3⟩ := hw'
              go_simp
              with_reducible rfl
            simp only [Act.put, List.setIfInBounds_toArray, List.set_cons_succ, List.set_cons_zero]
            refine AnyS.get (i := 5) (some 56) ?_ rfl rfl (by kernel_rfl) (by kernel_rfl) (by kernel_rfl) (by kernel_rfl) (fun _ _ _ h => h) (Reads.yes (by kernel_rfl) ?_ (fun _ => rfl)) hS ?_
            rotate_left
            · intro w' hw'
              obtain ⟨h0, h1, h2, h3⟩ := hw'
              go_simp
              with_reducible rfl
            simp only [Act.put, List.setIfInBounds_toArray, List.set_cons_succ, List.set_cons_zero]
            refine AnyS.get (i := 6) (some 57) ?_ rfl rfl (by kernel_rfl) (by kernel_rfl) (by kernel_rfl) (by kernel_rfl) (fun _ _ _ h => h) (Reads.yes (by kernel_rfl) ?_ (fun _ => rfl)) hS ?_
            rotate_left
            · intro w' hw'
              obtain ⟨h0, h1, h2, h3⟩ := hw'
              go_simp
              with_reducible rfl
            simp only [Act.put, List.setIfInBounds_toArray, List.set_cons_succ, List.set_cons_zero]
            refine AnyS.get (i := 7) (some 58) ?_ rfl rfl (by kernel_rfl) (by kernel_rfl) (by kernel_rfl) (by kernel_rfl) (fun _ _ _ h => h) (Reads.yes (by kernel_rfl) ?_ (fun _ => rfl)) hS ?_
            rotate_left
            · intro w' hw'
              obtain ⟨h0, h1, h2, h3⟩ := hw'
              go_simp
              with_reducible rfl
            simp only [Act.put, List.setIfInBounds_toArray, List.set_cons_succ, List.set_cons_zero]
            refine AnyS.get (i := 8) (some 59) ?_ rfl rfl (by kernel_rfl) (by kernel_rfl) (by kernel_rfl) (by kernel_rfl) (fun _ _ _ h => h) (Reads.yes (by kernel_rfl) ?_ (fun _ => rfl)) hS ?_
            rotate_left
            · intro w' hw'
              obtain ⟨h0, h1, h2, h3⟩ := hw'
              go_simp
              with_reducible rfl
            simp only [Act.put, List.setIfInBounds_toArray, List.set_cons_succ, List.set_cons_zero]
            refine AnyS.get (i := 9) (some 60) ?_ rfl rfl (by kernel_rfl) (by kernel_rfl) (by kernel_rfl) (by kernel_rfl) (fun _ _ _ h => h) (Reads.yes (by kernel_rfl) ?_ (fun _ => rfl)) hS ?_
            rotate_left
            · intro w' hw'
              obtain ⟨h0, h1, h2, h3⟩ := hw'
              go_simp
              with_reducible rfl
            simp only [Act.put, List.setIfInBounds_toArray, List.set_cons_succ, List.set_cons_zero]
            refine AnyS.get (i := 10) (some 61) ?_ rfl rfl (by kernel_rfl) (by kernel_rfl) (by kernel_rfl) (by kernel_rfl) (fun _ _ _ h => h) (Reads.yes (by kernel_rfl) ?_ (fun _ => rfl)) hS ?_
            rotate_left
            · intro w' hw'
              obtain ⟨h0, h1, h2, h3⟩ := hw'
              go_simp
              with_reducible rfl
            simp only [Act.put, List.setIfInBounds_toArray, List.set_cons_succ, List.set_cons_zero]
            refine AnyS.get (i := 11) (some 62) ?_ rfl rfl (by kernel_rfl) (by kernel_rfl) (by kernel_rfl) (by kernel_rfl) (fun _ _ _ h => h) (Reads.yes (by kernel_rfl) ?_ (fun _ => rfl)) hS ?_
            rotate_left
            · intro w' hw'
              obtain ⟨h0, h1, h2, h3⟩ := hw'
              go_simp
              with_reducible rfl
            simp only [Act.put, List.setIfInBounds_toArray, List.set_cons_succ, List.set_cons_zero]
            refine AnyS.get (i := 12) (some 63) ?_ rfl rfl (by kernel_rfl) (by kernel_rfl) (by kernel_rfl) (by kernel_rfl) (fun _ _ _ h => h) (Reads.yes (by kernel_rfl) ?_ (fun _ => rfl)) hS ?_
            rotate_left
            · intro w' hw'
              obtain ⟨h0, h1, h2, h3⟩ := hw'
              go_simp
              with_reducible rfl
            simp only [Act.put, List.setIfInBounds_toArray, List.set_cons_succ, List.set_cons_zero]
            refine AnyS.get (i := 13) (some 64) ?_ rfl rfl (by kernel_rfl) (by kernel_rfl) (by kernel_rfl) (by kernel_rfl) (fun _ _ _ h => h) (Reads.yes (by kernel_rfl) ?_ (fun _ => rfl)) hS ?_
            rotate_left
            · intro w' hw'
              obtain ⟨h0, h1, h2, h3⟩ := hw'
              go_simp
              with_reducible rfl
            simp only [Act.put, List.setIfInBounds_toArray, List.set_cons_succ, List.set_cons_zero]
            refine AnyS.get (i := 14) (some 65) ?_ rfl rfl (by kernel_rfl) (by kernel_rfl) (by kernel_rfl) (by kernel_rfl) (fun _ _ _ h => h) (Reads.yes (by kernel_rfl) ?_ (fun _ => rfl)) hS ?_
            rotate_left
            · intro w' hw'
              obtain ⟨h0, h1, h2, h3⟩ := hw'
              go_simp
              with_reducible rfl
            simp only [Act.put, List.setIfInBounds_toArray, List.set_cons_succ, List.set_cons_zero]
            refine AnyS.get (i := 15) (some 66) ?_ rfl rfl (by kernel_rfl) (by kernel_rfl) (by kernel_rfl) (by kernel_rfl) (fun _ _ _ h => h) (Reads.yes (by kernel_rfl) ?_ (fun _ => rfl)) hS ?_
            rotate_left
            · intro w' hw'
              obtain ⟨h0, h1, h2, h3⟩ := hw'
              go_simp
              with_reducible rfl
            simp only [Act.put, List.setIfInBounds_toArray, List.set_cons_succ, List.set_cons_zero]
            refine AnyS.get (i := 16) (some 67) ?_ rfl rfl (by kernel_rfl) (by kernel_rfl) (by kernel_rfl) (by kernel_rfl) (fun _ _ _ h => h) (Reads.yes (by kernel_rfl) ?_ (fun _ => rfl)) hS ?_
            rotate_left
            · intro w' hw'
              obtain ⟨h0, h1, h2, h3⟩ := hw'
              go_simp
              with_reducible rfl
            simp only [Act.put, List.setIfInBounds_toArray, List.set_cons_succ, List.set_cons_zero]
            refine AnyS.get (i := 17) (some 68) ?_ rfl rfl (by kernel_rfl) (by kernel_rfl) (by kernel_rfl) (by kernel_rfl) (fun _ _ _ h => h) (Reads.yes (by kernel_rfl) ?_ (fun _ => rfl)) hS ?_
            rotate_left
            · intro w' hw'
              obtain ⟨h0, h1, h2, h3⟩ := hw'
              go_simp
              with_reducible rfl
            simp only [Act.put, List.setIfInBounds_toArray, List.set_cons_succ, List.set_cons_zero]
            refine AnyS.get (i := 18) (some 69) ?_ rfl rfl (by kernel_rfl) (by kernel_rfl) (by kernel_rfl) (by kernel_rfl) (fun _ _ _ h => h) (Reads.yes (by kernel_rfl) ?_ (fun _ => rfl)) hS ?_
            rotate_left
            · intro w' hw'
              obtain ⟨h0, h1, h2, h3⟩ := hw'
              go_simp
              with_reducible rfl
            simp only [Act.put, List.setIfInBounds_toArray, List.set_cons_succ, List.set_cons_zero]
            refine AnyS.get (i := 19) (some 70) ?_ rfl rfl (by kernel_rfl) (by kernel_rfl) (by kernel_rfl) (by kernel_rfl) (fun _ _ _ h => h) (Reads.yes (by kernel_rfl) ?_ (fun _ => rfl)) hS ?_
            rotate_left
            · intro w' hw'
              obtain ⟨h0, h1, h2, h3⟩ := hw'
              go_simp
              with_reducible rfl
            simp only [Act.put, List.setIfInBounds_toArray, List.set_cons_succ, List.set_cons_zero]
            refine AnyS.get (i := 20) (some 71) ?_ rfl rfl (by kernel_rfl) (by kernel_rfl) (by kernel_rfl) (by kernel_rfl) (fun _ _ _ h => h) (Reads.yes (by kernel_rfl) ?_ (fun _ => rfl)) hS ?_
            rotate_left
            · intro w' hw'
              obtain ⟨h0, h1, h2, h3⟩ := hw'
              go_simp
              with_reducible rfl
            simp only [Act.put, List.setIfInBounds_toArray, List.set_cons_succ, List.set_cons_zero]
            refine AnyS.get (i := 21) (some 72) ?_ rfl rfl (by kernel_rfl) (by kernel_rfl) (by kernel_rfl) (by kernel_rfl) (fun _ _ _ h => h) (Reads.yes (by kernel_rfl) ?_ (fun _ => rfl)) hS ?_
            rotate_left
            · intro w' hw'
              obtain ⟨h0, h1, h2, h3⟩ := hw'
              go_simp
              with_reducible rfl
            simp only [Act.put, List.setIfInBounds_toArray, List.set_cons_succ, List.set_cons_zero]
            refine AnyS.get (i := 22) (some 73) ?_ rfl rfl (by kernel_rfl) (by kernel_rfl) (by kernel_rfl) (by kernel_rfl) (fun _ _ _ h => h) (Reads.yes (by kernel_rfl) ?_ (fun _ => rfl)) hS ?_
            rotate_left
            · intro w' hw'
              obtain ⟨h0, h1, h2, h3⟩ := hw'
              go_simp
              with_reducible rfl
            simp only [Act.put, List.setIfInBounds_toArray, List.set_cons_succ, List.set_cons_zero]
            refine AnyS.get (i := 23) (some 74) ?_ rfl rfl (by kernel_rfl) (by kernel_rfl) (by kernel_rfl) (by kernel_rfl) (fun _ _ _ h => h) (Reads.yes (by kernel_rfl) ?_ (fun _ => rfl)) hS ?_
            rotate_left
            · intro w' hw'
              obtain ⟨h0, h1, h2, h3⟩ := hw'
              go_simp
              with_reducible rfl
            simp only [Act.put, List.setIfInBounds_toArray, List.set_cons_succ, List.set_cons_zero]
            refine AnyS.get (i := 24) (some 75) ?_ rfl rfl (by kernel_rfl) (by kernel_rfl) (by kernel_rfl) (by kernel_rfl) (fun _ _ _ h => h) (Reads.yes (by kernel_rfl) ?_ (fun _ => rfl)) hS ?_
            rotate_left
            · intro w' hw'
              obtain ⟨h0, h1, h2, h3⟩ := hw'
              go_simp
              with_reducible rfl
            simp only [Act.put, List.setIfInBounds_toArray, List.set_cons_succ, List.set_cons_zero]
            refine AnyS.get (i := 25) (some 76) ?_ rfl rfl (by kernel_rfl) (by kernel_rfl) (by kernel_rfl) (by kernel_rfl) (fun _ _ _ h => h) (Reads.yes (by kernel_rfl) ?_ (fun _ => rfl)) hS ?_
            rotate_left
            · intro w' hw'
              obtain ⟨h0, h1, h2, h3⟩ := hw'
              go_simp
              with_reducible rfl
            simp only [Act.put, List.setIfInBounds_toArray, List.set_cons_succ, List.set_cons_zero]
            refine AnyS.get (i := 26) (some 77) ?_ rfl rfl (by kernel_rfl) (by kernel_rfl) (by kernel_rfl) (by kernel_rfl) (fun _ _ _ h => h) (Reads.yes (by kernel_rfl) ?_ (fun _ => rfl)) hS ?_
            rotate_left
            · intro w' hw'
              obtain ⟨h0, h1, h2, h3⟩ := hw'
              go_simp
              with_reducible rfl
            simp only [Act.put, List.setIfInBounds_toArray, List.set_cons_succ, List.set_cons_zero]
            refine AnyS.get (i := 27) (some 78) ?_ rfl rfl (by kernel_rfl) (by kernel_rfl) (by kernel_rfl) (by kernel_rfl) (fun _ _ _ h => h) (Reads.yes (by kernel_rfl) ?_ (fun _ => rfl)) hS ?_
            rotate_left
            · intro w' hw'
              obtain ⟨h0, h1, h2, h3⟩ := hw'
              go_simp
              with_reducible rfl
            simp only [Act.put, List.setIfInBounds_toArray, List.set_cons_succ, List.set_cons_zero]
            refine AnyS.get (i := 28) (some 79) ?_ rfl rfl (by kernel_rfl) (by kernel_rfl) (by kernel_rfl) (by kernel_rfl) (fun _ _ _ h => h) (Reads.yes (by kernel_rfl) ?_ (fun _ => rfl)) hS ?_
            rotate_left
            · intro w' hw'
              obtain ⟨h0, h1, h2, h3⟩ := hw'
              go_simp
              with_reducible rfl
            simp only [Act.put, List.setIfInBounds_toArray, List.set_cons_succ, List.set_cons_zero]
            refine AnyS.get (i := 29) (some 80) ?_ rfl rfl (by kernel_rfl) (by kernel_rfl) (by kernel_rfl) (by kernel_rfl) (fun _ _ _ h => h) (Reads.yes (by kernel_rfl) ?_ (fun _ => rfl)) hS ?_
            rotate_left
            · intro w' hw'
              obtain ⟨h0, h1, h2, h3⟩ := hw'
              go_simp
              with_reducible rfl
            simp only [Act.put, List.setIfInBounds_toArray, List.set_cons_succ, List.set_cons_zero]
            clear hS
            refine AnyS.done (by kernel_rfl) ?_ _
            have HE := Lib.hid (show wr.drew.ownsRow w10.heap.size 33 3 u11 (dd sameC (pre2.take (j + 1 + 1))).length (rowOf (dd sameC (pre2.take (j + 1 + 1)))) ∧ Below w10.heap.size w10 wr.drew from by
              rw [hdd, List.append_nil]
              exact ⟨HI.out.1, Below.drew HI.out.2⟩)
            go_wp2_with fail
            go_roundw
            case rel => exact ⟨j + 1 + 1, by omega, by simp <;> omega, Lib.hid HE.out⟩
            case measure => simp [intOf]; omega
          · have hqb : (c.q != d.q) = true := by simp [hq1]
            rw [if_neg fun e => hq1 (by have := e.2; unfold sameC at this; simp at this; exact this.2.symm)] at hdd
            go_wp2_with fail
            refine (wpIn_wide (n := 5)).1 ?_
            refine wpIn_region_lit_late (fun W' => W'.cell? ⟨b, o + (j + 1) * 3, none⟩ = some (.string ⟨c.k.toArray⟩) ∧ W'.cell? ⟨b, o + (j + 1) * 3 + 1, none⟩ = some (.int .i64 c.q) ∧ W'.cell? ⟨b, o + j * 3, none⟩ = some (.string ⟨d.k.toArray⟩) ∧ W'.cell? ⟨b, o + j * 3 + 1, none⟩ = some (.int .i64 d.q)) (fun _ => false) (k := 30) (listed := #[false, false, false, false, false, false, false, false, false, false, false, false, false, false, false, false, false, false, false, false, false, false, false, false, false, false, false, false, false, false]) (by kernel_rfl) (by kernel_rfl) (by kernel_rfl) ?_
            have hS : wr.drew.cell? ⟨b, o + (j + 1) * 3, none⟩ = some (.string ⟨c.k.toArray⟩) ∧ wr.drew.cell? ⟨b, o + (j + 1) * 3 + 1, none⟩ = some (.int .i64 c.q) ∧ wr.drew.cell? ⟨b, o + j * 3, none⟩ = some (.string ⟨d.k.toArray⟩) ∧ wr.drew.cell? ⟨b, o + j * 3 + 1, none⟩ = some (.int .i64 d.q) := HS0.out
            refine AnyS.get (i := 0) (some 51) ?_ rfl rfl (by kernel_rfl) (by kernel_rfl) (by kernel_rfl) (by kernel_rfl) (fun _ _ _ h => h) (Reads.yes (by kernel_rfl) ?_ (fun _ => rfl)) hS ?_
            rotate_left
            · intro w' hw'
              obtain ⟨h0, h1, h2, h3⟩ := hw'
              go_simp
              with_reducible rfl
            simp only [Act.put, List.setIfInBounds_toArray, List.set_cons_succ, List.set_cons_zero]
            refine AnyS.get (i := 1) (some 52) ?_ rfl rfl (by kernel_rfl) (by kernel_rfl) (by kernel_rfl) (by kernel_rfl) (fun _ _ _ h => h) (Reads.yes (by kernel_rfl) ?_ (fun _ => rfl)) hS ?_
            rotate_left
            · intro w' hw'
              obtain ⟨h0, h1, h2, h3⟩ := hw'
              go_simp
              with_reducible rfl
            simp only [Act.put, List.setIfInBounds_toArray, List.set_cons_succ, List.set_cons_zero]
            refine AnyS.get (i := 2) (some 53) ?_ rfl rfl (by kernel_rfl) (by kernel_rfl) (by kernel_rfl) (by kernel_rfl) (fun _ _ _ h => h) (Reads.yes (by kernel_rfl) ?_ (fun _ => rfl)) hS ?_
            rotate_left
            · intro w' hw'
              obtain ⟨h0, h1, h2, h3⟩ := hw'
              go_simp
              with_reducible rfl
            simp only [Act.put, List.setIfInBounds_toArray, List.set_cons_succ, List.set_cons_zero]
            refine AnyS.get (i := 3) (some 54) ?_ rfl rfl (by kernel_rfl) (by kernel_rfl) (by kernel_rfl) (by kernel_rfl) (fun _ _ _ h => h) (Reads.yes (by kernel_rfl) ?_ (fun _ => rfl)) hS ?_
            rotate_left
            · intro w' hw'
              obtain ⟨h0, h1, h2, h3⟩ := hw'
              go_simp
              with_reducible rfl
            simp only [Act.put, List.setIfInBounds_toArray, List.set_cons_succ, List.set_cons_zero]
            refine AnyS.get (i := 4) (some 55) ?_ rfl rfl (by kernel_rfl) (by kernel_rfl) (by kernel_rfl) (by kernel_rfl) (fun _ _ _ h => h) (Reads.yes (by kernel_rfl) ?_ (fun _ => rfl)) hS ?_
            rotate_left
            · intro w' hw'
              obtain ⟨h0, h1, h2, h3⟩ := hw'
              go_simp
              with_reducible rfl
            simp only [Act.put, List.setIfInBounds_toArray, List.set_cons_succ, List.set_cons_zero]
            refine AnyS.get (i := 5) (some 56) ?_ rfl rfl (by kernel_rfl) (by kernel_rfl) (by kernel_rfl) (by kernel_rfl) (fun _ _ _ h => h) (Reads.yes (by kernel_rfl) ?_ (fun _ => rfl)) hS ?_
            rotate_left
            · intro w' hw'
              obtain ⟨h0, h1, h2, h3⟩ := hw'
              go_simp
              with_reducible rfl
            simp only [Act.put, List.setIfInBounds_toArray, List.set_cons_succ, List.set_cons_zero]
            refine AnyS.get (i := 6) (some 57) ?_ rfl rfl (by kernel_rfl) (by kernel_rfl) (by kernel_rfl) (by kernel_rfl) (fun _ _ _ h => h) (Reads.yes (by kernel_rfl) ?_ (fun _ => rfl)) hS ?_
            rotate_left
            · intro w' hw'
              obtain ⟨h0, h1, h2, h3⟩ := hw'
              go_simp
              with_reducible rfl
            simp only [Act.put, List.setIfInBounds_toArray, List.set_cons_succ, List.set_cons_zero]
            refine AnyS.get (i := 7) (some 58) ?_ rfl rfl (by kernel_rfl) (by kernel_rfl) (by kernel_rfl) (by kernel_rfl) (fun _ _ _ h => h) (Reads.yes (by kernel_rfl) ?_ (fun _ => rfl)) hS ?_
            rotate_left
            · intro w' hw'
              obtain ⟨h0, h1, h2, h3⟩ := hw'
              go_simp
              with_reducible rfl
            simp only [Act.put, List.setIfInBounds_toArray, List.set_cons_succ, List.set_cons_zero]
            refine AnyS.get (i := 8) (some 59) ?_ rfl rfl (by kernel_rfl) (by kernel_rfl) (by kernel_rfl) (by kernel_rfl) (fun _ _ _ h => h) (Reads.yes (by kernel_rfl) ?_ (fun _ => rfl)) hS ?_
            rotate_left
            · intro w' hw'
              obtain ⟨h0, h1, h2, h3⟩ := hw'
              go_simp
              with_reducible rfl
            simp only [Act.put, List.setIfInBounds_toArray, List.set_cons_succ, List.set_cons_zero]
            refine AnyS.get (i := 9) (some 60) ?_ rfl rfl (by kernel_rfl) (by kernel_rfl) (by kernel_rfl) (by kernel_rfl) (fun _ _ _ h => h) (Reads.yes (by kernel_rfl) ?_ (fun _ => rfl)) hS ?_
            rotate_left
            · intro w' hw'
              obtain ⟨h0, h1, h2, h3⟩ := hw'
              go_simp
              with_reducible rfl
            simp only [Act.put, List.setIfInBounds_toArray, List.set_cons_succ, List.set_cons_zero]
            refine AnyS.get (i := 10) (some 61) ?_ rfl rfl (by kernel_rfl) (by kernel_rfl) (by kernel_rfl) (by kernel_rfl) (fun _ _ _ h => h) (Reads.yes (by kernel_rfl) ?_ (fun _ => rfl)) hS ?_
            rotate_left
            · intro w' hw'
              obtain ⟨h0, h1, h2, h3⟩ := hw'
              go_simp
              with_reducible rfl
            simp only [Act.put, List.setIfInBounds_toArray, List.set_cons_succ, List.set_cons_zero]
            refine AnyS.get (i := 11) (some 62) ?_ rfl rfl (by kernel_rfl) (by kernel_rfl) (by kernel_rfl) (by kernel_rfl) (fun _ _ _ h => h) (Reads.yes (by kernel_rfl) ?_ (fun _ => rfl)) hS ?_
            rotate_left
            · intro w' hw'
              obtain ⟨h0, h1, h2, h3⟩ := hw'
              go_simp
              with_reducible rfl
            simp only [Act.put, List.setIfInBounds_toArray, List.set_cons_succ, List.set_cons_zero]
            refine AnyS.get (i := 12) (some 63) ?_ rfl rfl (by kernel_rfl) (by kernel_rfl) (by kernel_rfl) (by kernel_rfl) (fun _ _ _ h => h) (Reads.yes (by kernel_rfl) ?_ (fun _ => rfl)) hS ?_
            rotate_left
            · intro w' hw'
              obtain ⟨h0, h1, h2, h3⟩ := hw'
              go_simp
              with_reducible rfl
            simp only [Act.put, List.setIfInBounds_toArray, List.set_cons_succ, List.set_cons_zero]
            refine AnyS.get (i := 13) (some 64) ?_ rfl rfl (by kernel_rfl) (by kernel_rfl) (by kernel_rfl) (by kernel_rfl) (fun _ _ _ h => h) (Reads.yes (by kernel_rfl) ?_ (fun _ => rfl)) hS ?_
            rotate_left
            · intro w' hw'
              obtain ⟨h0, h1, h2, h3⟩ := hw'
              go_simp
              with_reducible rfl
            simp only [Act.put, List.setIfInBounds_toArray, List.set_cons_succ, List.set_cons_zero]
            refine AnyS.get (i := 14) (some 65) ?_ rfl rfl (by kernel_rfl) (by kernel_rfl) (by kernel_rfl) (by kernel_rfl) (fun _ _ _ h => h) (Reads.yes (by kernel_rfl) ?_ (fun _ => rfl)) hS ?_
            rotate_left
            · intro w' hw'
              obtain ⟨h0, h1, h2, h3⟩ := hw'
              go_simp
              with_reducible rfl
            simp only [Act.put, List.setIfInBounds_toArray, List.set_cons_succ, List.set_cons_zero]
            refine AnyS.get (i := 15) (some 66) ?_ rfl rfl (by kernel_rfl) (by kernel_rfl) (by kernel_rfl) (by kernel_rfl) (fun _ _ _ h => h) (Reads.yes (by kernel_rfl) ?_ (fun _ => rfl)) hS ?_
            rotate_left
            · intro w' hw'
              obtain ⟨h0, h1, h2, h3⟩ := hw'
              go_simp
              with_reducible rfl
            simp only [Act.put, List.setIfInBounds_toArray, List.set_cons_succ, List.set_cons_zero]
            refine AnyS.get (i := 16) (some 67) ?_ rfl rfl (by kernel_rfl) (by kernel_rfl) (by kernel_rfl) (by kernel_rfl) (fun _ _ _ h => h) (Reads.yes (by kernel_rfl) ?_ (fun _ => rfl)) hS ?_
            rotate_left
            · intro w' hw'
              obtain ⟨h0, h1, h2, h3⟩ := hw'
              go_simp
              with_reducible rfl
            simp only [Act.put, List.setIfInBounds_toArray, List.set_cons_succ, List.set_cons_zero]
            refine AnyS.get (i := 17) (some 68) ?_ rfl rfl (by kernel_rfl) (by kernel_rfl) (by kernel_rfl) (by kernel_rfl) (fun _ _ _ h => h) (Reads.yes (by kernel_rfl) ?_ (fun _ => rfl)) hS ?_
            rotate_left
            · intro w' hw'
              obtain ⟨h0, h1, h2, h3⟩ := hw'
              go_simp
              with_reducible rfl
            simp only [Act.put, List.setIfInBounds_toArray, List.set_cons_succ, List.set_cons_zero]
            refine AnyS.get (i := 18) (some 69) ?_ rfl rfl (by kernel_rfl) (by kernel_rfl) (by kernel_rfl) (by kernel_rfl) (fun _ _ _ h => h) (Reads.yes (by kernel_rfl) ?_ (fun _ => rfl)) hS ?_
            rotate_left
            · intro w' hw'
              obtain ⟨h0, h1, h2, h3⟩ := hw'
              go_simp
              with_reducible rfl
            simp only [Act.put, List.setIfInBounds_toArray, List.set_cons_succ, List.set_cons_zero]
            refine AnyS.get (i := 19) (some 70) ?_ rfl rfl (by kernel_rfl) (by kernel_rfl) (by kernel_rfl) (by kernel_rfl) (fun _ _ _ h => h) (Reads.yes (by kernel_rfl) ?_ (fun _ => rfl)) hS ?_
            rotate_left
            · intro w' hw'
              obtain ⟨h0, h1, h2, h3⟩ := hw'
              go_simp
              with_reducible rfl
            simp only [Act.put, List.setIfInBounds_toArray, List.set_cons_succ, List.set_cons_zero]
            refine AnyS.get (i := 20) (some 71) ?_ rfl rfl (by kernel_rfl) (by kernel_rfl) (by kernel_rfl) (by kernel_rfl) (fun _ _ _ h => h) (Reads.yes (by kernel_rfl) ?_ (fun _ => rfl)) hS ?_
            rotate_left
            · intro w' hw'
              obtain ⟨h0, h1, h2, h3⟩ := hw'
              go_simp
              with_reducible rfl
            simp only [Act.put, List.setIfInBounds_toArray, List.set_cons_succ, List.set_cons_zero]
            refine AnyS.get (i := 21) (some 72) ?_ rfl rfl (by kernel_rfl) (by kernel_rfl) (by kernel_rfl) (by kernel_rfl) (fun _ _ _ h => h) (Reads.yes (by kernel_rfl) ?_ (fun _ => rfl)) hS ?_
            rotate_left
            · intro w' hw'
              obtain ⟨h0, h1, h2, h3⟩ := hw'
              go_simp
              with_reducible rfl
            simp only [Act.put, List.setIfInBounds_toArray, List.set_cons_succ, List.set_cons_zero]
            refine AnyS.get (i := 22) (some 73) ?_ rfl rfl (by kernel_rfl) (by kernel_rfl) (by kernel_rfl) (by kernel_rfl) (fun _ _ _ h => h) (Reads.yes (by kernel_rfl) ?_ (fun _ => rfl)) hS ?_
            rotate_left
            · intro w' hw'
              obtain ⟨h0, h1, h2, h3⟩ := hw'
              go_simp
              with_reducible rfl
            simp only [Act.put, List.setIfInBounds_toArray, List.set_cons_succ, List.set_cons_zero]
            refine AnyS.get (i := 23) (some 74) ?_ rfl rfl (by kernel_rfl) (by kernel_rfl) (by kernel_rfl) (by kernel_rfl) (fun _ _ _ h => h) (Reads.yes (by kernel_rfl) ?_ (fun _ => rfl)) hS ?_
            rotate_left
            · intro w' hw'
              obtain ⟨h0, h1, h2, h3⟩ := hw'
              go_simp
              with_reducible rfl
            simp only [Act.put, List.setIfInBounds_toArray, List.set_cons_succ, List.set_cons_zero]
            refine AnyS.get (i := 24) (some 75) ?_ rfl rfl (by kernel_rfl) (by kernel_rfl) (by kernel_rfl) (by kernel_rfl) (fun _ _ _ h => h) (Reads.yes (by kernel_rfl) ?_ (fun _ => rfl)) hS ?_
            rotate_left
            · intro w' hw'
              obtain ⟨h0, h1, h2, h3⟩ := hw'
              go_simp
              with_reducible rfl
            simp only [Act.put, List.setIfInBounds_toArray, List.set_cons_succ, List.set_cons_zero]
            refine AnyS.get (i := 25) (some 76) ?_ rfl rfl (by kernel_rfl) (by kernel_rfl) (by kernel_rfl) (by kernel_rfl) (fun _ _ _ h => h) (Reads.yes (by kernel_rfl) ?_ (fun _ => rfl)) hS ?_
            rotate_left
            · intro w' hw'
              obtain ⟨h0, h1, h2, h3⟩ := hw'
              go_simp
              with_reducible rfl
            simp only [Act.put, List.setIfInBounds_toArray, List.set_cons_succ, List.set_cons_zero]
            refine AnyS.get (i := 26) (some 77) ?_ rfl rfl (by kernel_rfl) (by kernel_rfl) (by kernel_rfl) (by kernel_rfl) (fun _ _ _ h => h) (Reads.yes (by kernel_rfl) ?_ (fun _ => rfl)) hS ?_
            rotate_left
            · intro w' hw'
              obtain ⟨h0, h1, h2, h3⟩ := hw'
              go_simp
              with_reducible rfl
            simp only [Act.put, List.setIfInBounds_toArray, List.set_cons_succ, List.set_cons_zero]
            refine AnyS.get (i := 27) (some 78) ?_ rfl rfl (by kernel_rfl) (by kernel_rfl) (by kernel_rfl) (by kernel_rfl) (fun _ _ _ h => h) (Reads.yes (by kernel_rfl) ?_ (fun _ => rfl)) hS ?_
            rotate_left
            · intro w' hw'
              obtain ⟨h0, h1, h2, h3⟩ := hw'
              go_simp
              with_reducible rfl
            simp only [Act.put, List.setIfInBounds_toArray, List.set_cons_succ, List.set_cons_zero]
            refine AnyS.get (i := 28) (some 79) ?_ rfl rfl (by kernel_rfl) (by kernel_rfl) (by kernel_rfl) (by kernel_rfl) (fun _ _ _ h => h) (Reads.yes (by kernel_rfl) ?_ (fun _ => rfl)) hS ?_
            rotate_left
            · intro w' hw'
              obtain ⟨h0, h1, h2, h3⟩ := hw'
              go_simp
              with_reducible rfl
            simp only [Act.put, List.setIfInBounds_toArray, List.set_cons_succ, List.set_cons_zero]
            refine AnyS.get (i := 29) (some 80) ?_ rfl rfl (by kernel_rfl) (by kernel_rfl) (by kernel_rfl) (by kernel_rfl) (fun _ _ _ h => h) (Reads.yes (by kernel_rfl) ?_ (fun _ => rfl)) hS ?_
            rotate_left
            · intro w' hw'
              obtain ⟨h0, h1, h2, h3⟩ := hw'
              go_simp
              with_reducible rfl
            simp only [Act.put, List.setIfInBounds_toArray, List.set_cons_succ, List.set_cons_zero]
            clear hS
            refine AnyS.done (by kernel_rfl) ?_ _
            clear hk1 hkb
            obtain ⟨v1, w11, run, own1, bw1⟩ := run_append_sl (w := wr.drew.alloc (.cells #[.string ⟨c.k.toArray⟩, .int .i64 c.q, .string ⟨c.v.toArray⟩] 33)) (own_lat own0 nbx) (Nat.le_trans HI.out.2.size nbx.size) (new_sl [c] wr.drew (by simp)) (by rw [List.length_singleton]; omega)
            have R := Lib.hid run
            have HE := Lib.hid (show w11.ownsRow w10.heap.size 33 3 v1 (dd sameC (pre2.take (j + 1 + 1))).length (rowOf (dd sameC (pre2.take (j + 1 + 1)))) ∧ Below w10.heap.size w10 w11 from by
              rw [hdd]
              exact ⟨own1, (HI.out.2.trans (nbx.mono HI.out.2.size)).trans bw1⟩)
            clear run own1 bw1 own0 nbx hdd
            go_wp2_with (at_builtin; refine wpList_append_runE _ rfl _ _ 22 22 rfl _ _ rfl rfl R.out ?_)
            go_roundw
            case rel => exact ⟨j + 1 + 1, by omega, by simp <;> omega, Lib.hid HE.out⟩
            case measure => simp [intOf]; omega
        · have hkb : (c.k == d.k) = false := by simp [hk1]
          rw [if_neg fun e => hk1 (by have := e.2; unfold sameC at this; simp at this; exact this.1.symm)] at hdd
          go_wp2_with fail
          refine (wpIn_wide (n := 5)).1 ?_
          refine wpIn_region_lit_late (fun W' => W'.cell? ⟨b, o + (j + 1) * 3, none⟩ = some (.string ⟨c.k.toArray⟩) ∧ W'.cell? ⟨b, o + (j + 1) * 3 + 1, none⟩ = some (.int .i64 c.q) ∧ W'.cell? ⟨b, o + j * 3, none⟩ = some (.string ⟨d.k.toArray⟩) ∧ W'.cell? ⟨b, o + j * 3 + 1, none⟩ = some (.int .i64 d.q)) (fun _ => false) (k := 30) (listed := #[false, false, false, false, false, false, false, false, false, false, false, false, false, false, false, false, false, false, false, false, false, false, false, false, false, false, false, false, false, false]) (by kernel_rfl) (by kernel_rfl) (by kernel_rfl) ?_
          have hS : wr.drew.cell? ⟨b, o + (j + 1) * 3, none⟩ = some (.string ⟨c.k.toArray⟩) ∧ wr.drew.cell? ⟨b, o + (j + 1) * 3 + 1, none⟩ = some (.int .i64 c.q) ∧ wr.drew.cell? ⟨b, o + j * 3, none⟩ = some (.string ⟨d.k.toArray⟩) ∧ wr.drew.cell? ⟨b, o + j * 3 + 1, none⟩ = some (.int .i64 d.q) := HS0.out
          refine AnyS.get (i := 0) (some 51) ?_ rfl rfl (by kernel_rfl) (by kernel_rfl) (by kernel_rfl) (by kernel_rfl) (fun _ _ _ h => h) (Reads.yes (by kernel_rfl) ?_ (fun _ => rfl)) hS ?_
          rotate_left
          · intro w' hw'
            obtain ⟨h0, h1, h2, h3⟩ := hw'
            go_simp
            with_reducible rfl
          simp only [Act.put, List.setIfInBounds_toArray, List.set_cons_succ, List.set_cons_zero]
          refine AnyS.get (i := 1) (some 52) ?_ rfl rfl (by kernel_rfl) (by kernel_rfl) (by kernel_rfl) (by kernel_rfl) (fun _ _ _ h => h) (Reads.yes (by kernel_rfl) ?_ (fun _ => rfl)) hS ?_
          rotate_left
          · intro w' hw'
            obtain ⟨h0, h1, h2, h3⟩ := hw'
            go_simp
            with_reducible rfl
          simp only [Act.put, List.setIfInBounds_toArray, List.set_cons_succ, List.set_cons_zero]
          refine AnyS.get (i := 2) (some 53) ?_ rfl rfl (by kernel_rfl) (by kernel_rfl) (by kernel_rfl) (by kernel_rfl) (fun _ _ _ h => h) (Reads.yes (by kernel_rfl) ?_ (fun _ => rfl)) hS ?_
          rotate_left
          · intro w' hw'
            obtain ⟨h0, h1, h2, h3⟩ := hw'
            go_simp
            with_reducible rfl
          simp only [Act.put, List.setIfInBounds_toArray, List.set_cons_succ, List.set_cons_zero]
          refine AnyS.get (i := 3) (some 54) ?_ rfl rfl (by kernel_rfl) (by kernel_rfl) (by kernel_rfl) (by kernel_rfl) (fun _ _ _ h => h) (Reads.yes (by kernel_rfl) ?_ (fun _ => rfl)) hS ?_
          rotate_left
          · intro w' hw'
            obtain ⟨h0, h1, h2, h3⟩ := hw'
            go_simp
            with_reducible rfl
          simp only [Act.put, List.setIfInBounds_toArray, List.set_cons_succ, List.set_cons_zero]
          refine AnyS.get (i := 4) (some 55) ?_ rfl rfl (by kernel_rfl) (by kernel_rfl) (by kernel_rfl) (by kernel_rfl) (fun _ _ _ h => h) (Reads.yes (by kernel_rfl) ?_ (fun _ => rfl)) hS ?_
          rotate_left
          · intro w' hw'
            obtain ⟨h0, h1, h2, h3⟩ := hw'
            go_simp
            with_reducible rfl
          simp only [Act.put, List.setIfInBounds_toArray, List.set_cons_succ, List.set_cons_zero]
          refine AnyS.get (i := 5) (some 56) ?_ rfl rfl (by kernel_rfl) (by kernel_rfl) (by kernel_rfl) (by kernel_rfl) (fun _ _ _ h => h) (Reads.yes (by kernel_rfl) ?_ (fun _ => rfl)) hS ?_
          rotate_left
          · intro w' hw'
            obtain ⟨h0, h1, h2, h3⟩ := hw'
            go_simp
            with_reducible rfl
          simp only [Act.put, List.setIfInBounds_toArray, List.set_cons_succ, List.set_cons_zero]
          refine AnyS.get (i := 6) (some 57) ?_ rfl rfl (by kernel_rfl) (by kernel_rfl) (by kernel_rfl) (by kernel_rfl) (fun _ _ _ h => h) (Reads.yes (by kernel_rfl) ?_ (fun _ => rfl)) hS ?_
          rotate_left
          · intro w' hw'
            obtain ⟨h0, h1, h2, h3⟩ := hw'
            go_simp
            with_reducible rfl
          simp only [Act.put, List.setIfInBounds_toArray, List.set_cons_succ, List.set_cons_zero]
          refine AnyS.get (i := 7) (some 58) ?_ rfl rfl (by kernel_rfl) (by kernel_rfl) (by kernel_rfl) (by kernel_rfl) (fun _ _ _ h => h) (Reads.yes (by kernel_rfl) ?_ (fun _ => rfl)) hS ?_
          rotate_left
          · intro w' hw'
            obtain ⟨h0, h1, h2, h3⟩ := hw'
            go_simp
            with_reducible rfl
          simp only [Act.put, List.setIfInBounds_toArray, List.set_cons_succ, List.set_cons_zero]
          refine AnyS.get (i := 8) (some 59) ?_ rfl rfl (by kernel_rfl) (by kernel_rfl) (by kernel_rfl) (by kernel_rfl) (fun _ _ _ h => h) (Reads.yes (by kernel_rfl) ?_ (fun _ => rfl)) hS ?_
          rotate_left
          · intro w' hw'
            obtain ⟨h0, h1, h2, h3⟩ := hw'
            go_simp
            with_reducible rfl
          simp only [Act.put, List.setIfInBounds_toArray, List.set_cons_succ, List.set_cons_zero]
          refine AnyS.get (i := 9) (some 60) ?_ rfl rfl (by kernel_rfl) (by kernel_rfl) (by kernel_rfl) (by kernel_rfl) (fun _ _ _ h => h) (Reads.yes (by kernel_rfl) ?_ (fun _ => rfl)) hS ?_
          rotate_left
          · intro w' hw'
            obtain ⟨h0, h1, h2, h3⟩ := hw'
            go_simp
            with_reducible rfl
          simp only [Act.put, List.setIfInBounds_toArray, List.set_cons_succ, List.set_cons_zero]
          refine AnyS.get (i := 10) (some 61) ?_ rfl rfl (by kernel_rfl) (by kernel_rfl) (by kernel_rfl) (by kernel_rfl) (fun _ _ _ h => h) (Reads.yes (by kernel_rfl) ?_ (fun _ => rfl)) hS ?_
          rotate_left
          · intro w' hw'
            obtain ⟨h0, h1, h2, h3⟩ := hw'
            go_simp
            with_reducible rfl
          simp only [Act.put, List.setIfInBounds_toArray, List.set_cons_succ, List.set_cons_zero]
          refine AnyS.get (i := 11) (some 62) ?_ rfl rfl (by kernel_rfl) (by kernel_rfl) (by kernel_rfl) (by kernel_rfl) (fun _ _ _ h => h) (Reads.yes (by kernel_rfl) ?_ (fun _ => rfl)) hS ?_
          rotate_left
          · intro w' hw'
            obtain ⟨h0, h1, h2, h3⟩ := hw'
            go_simp
            with_reducible rfl
          simp only [Act.put, List.setIfInBounds_toArray, List.set_cons_succ, List.set_cons_zero]
          refine AnyS.get (i := 12) (some 63) ?_ rfl rfl (by kernel_rfl) (by kernel_rfl) (by kernel_rfl) (by kernel_rfl) (fun _ _ _ h => h) (Reads.yes (by kernel_rfl) ?_ (fun _ => rfl)) hS ?_
          rotate_left
          · intro w' hw'
            obtain ⟨h0, h1, h2, h3⟩ := hw'
            go_simp
            with_reducible rfl
          simp only [Act.put, List.setIfInBounds_toArray, List.set_cons_succ, List.set_cons_zero]
          refine AnyS.get (i := 13) (some 64) ?_ rfl rfl (by kernel_rfl) (by kernel_rfl) (by kernel_rfl) (by kernel_rfl) (fun _ _ _ h => h) (Reads.yes (by kernel_rfl) ?_ (fun _ => rfl)) hS ?_
          rotate_left
          · intro w' hw'
            obtain ⟨h0, h1, h2, h3⟩ := hw'
            go_simp
            with_reducible rfl
          simp only [Act.put, List.setIfInBounds_toArray, List.set_cons_succ, List.set_cons_zero]
          refine AnyS.get (i := 14) (some 65) ?_ rfl rfl (by kernel_rfl) (by kernel_rfl) (by kernel_rfl) (by kernel_rfl) (fun _ _ _ h => h) (Reads.yes (by kernel_rfl) ?_ (fun _ => rfl)) hS ?_
          rotate_left
          · intro w' hw'
            obtain ⟨h0, h1, h2, h3⟩ := hw'
            go_simp
            with_reducible rfl
          simp only [Act.put, List.setIfInBounds_toArray, List.set_cons_succ, List.set_cons_zero]
          refine AnyS.get (i := 15) (some 66) ?_ rfl rfl (by kernel_rfl) (by kernel_rfl) (by kernel_rfl) (by kernel_rfl) (fun _ _ _ h => h) (Reads.yes (by kernel_rfl) ?_ (fun _ => rfl)) hS ?_
          rotate_left
          · intro w' hw'
            obtain ⟨h0, h1, h2, h3⟩ := hw'
            go_simp
            with_reducible rfl
          simp only [Act.put, List.setIfInBounds_toArray, List.set_cons_succ, List.set_cons_zero]
          refine AnyS.get (i := 16) (some 67) ?_ rfl rfl (by kernel_rfl) (by kernel_rfl) (by kernel_rfl) (by kernel_rfl) (fun _ _ _ h => h) (Reads.yes (by kernel_rfl) ?_ (fun _ => rfl)) hS ?_
          rotate_left
          · intro w' hw'
            obtain ⟨h0, h1, h2, h3⟩ := hw'
            go_simp
            with_reducible rfl
          simp only [Act.put, List.setIfInBounds_toArray, List.set_cons_succ, List.set_cons_zero]
          refine AnyS.get (i := 17) (some 68) undef rfl rfl (by kernel_rfl) (by kernel_rfl) (by kernel_rfl) (by kernel_rfl) (fun _ _ _ h => h) ⟨.inr ⟨by kernel_rfl, rfl⟩, fun _ => rfl⟩ hS ?_
          simp only [Act.put, List.setIfInBounds_toArray, List.set_cons_succ, List.set_cons_zero]
          refine AnyS.get (i := 18) (some 69) undef rfl rfl (by kernel_rfl) (by kernel_rfl) (by kernel_rfl) (by kernel_rfl) (fun _ _ _ h => h) ⟨.inr ⟨by kernel_rfl, rfl⟩, fun _ => rfl⟩ hS ?_
          simp only [Act.put, List.setIfInBounds_toArray, List.set_cons_succ, List.set_cons_zero]
          refine AnyS.get (i := 19) (some 70) undef rfl rfl (by kernel_rfl) (by kernel_rfl) (by kernel_rfl) (by kernel_rfl) (fun _ _ _ h => h) ⟨.inr ⟨by kernel_rfl, rfl⟩, fun _ => rfl⟩ hS ?_
          simp only [Act.put, List.setIfInBounds_toArray, List.set_cons_succ, List.set_cons_zero]
          refine AnyS.get (i := 20) (some 71) undef rfl rfl (by kernel_rfl) (by kernel_rfl) (by kernel_rfl) (by kernel_rfl) (fun _ _ _ h => h) ⟨.inr ⟨by kernel_rfl, rfl⟩, fun _ => rfl⟩ hS ?_
          simp only [Act.put, List.setIfInBounds_toArray, List.set_cons_succ, List.set_cons_zero]
          refine AnyS.get (i := 21) (some 72) undef rfl rfl (by kernel_rfl) (by kernel_rfl) (by kernel_rfl) (by kernel_rfl) (fun _ _ _ h => h) ⟨.inr ⟨by kernel_rfl, rfl⟩, fun _ => rfl⟩ hS ?_
          simp only [Act.put, List.setIfInBounds_toArray, List.set_cons_succ, List.set_cons_zero]
          refine AnyS.get (i := 22) (some 73) undef rfl rfl (by kernel_rfl) (by kernel_rfl) (by kernel_rfl) (by kernel_rfl) (fun _ _ _ h => h) ⟨.inr ⟨by kernel_rfl, rfl⟩, fun _ => rfl⟩ hS ?_
          simp only [Act.put, List.setIfInBounds_toArray, List.set_cons_succ, List.set_cons_zero]
          refine AnyS.get (i := 23) (some 74) undef rfl rfl (by kernel_rfl) (by kernel_rfl) (by kernel_rfl) (by kernel_rfl) (fun _ _ _ h => h) ⟨.inr ⟨by kernel_rfl, rfl⟩, fun _ => rfl⟩ hS ?_
          simp only [Act.put, List.setIfInBounds_toArray, List.set_cons_succ, List.set_cons_zero]
          refine AnyS.get (i := 24) (some 75) undef rfl rfl (by kernel_rfl) (by kernel_rfl) (by kernel_rfl) (by kernel_rfl) (fun _ _ _ h => h) ⟨.inr ⟨by kernel_rfl, rfl⟩, fun _ => rfl⟩ hS ?_
          simp only [Act.put, List.setIfInBounds_toArray, List.set_cons_succ, List.set_cons_zero]
          refine AnyS.get (i := 25) (some 76) undef rfl rfl (by kernel_rfl) (by kernel_rfl) (by kernel_rfl) (by kernel_rfl) (fun _ _ _ h => h) ⟨.inr ⟨by kernel_rfl, rfl⟩, fun _ => rfl⟩ hS ?_
          simp only [Act.put, List.setIfInBounds_toArray, List.set_cons_succ, List.set_cons_zero]
          refine AnyS.get (i := 26) (some 77) undef rfl rfl (by kernel_rfl) (by kernel_rfl) (by kernel_rfl) (by kernel_rfl) (fun _ _ _ h => h) ⟨.inr ⟨by kernel_rfl, rfl⟩, fun _ => rfl⟩ hS ?_
          simp only [Act.put, List.setIfInBounds_toArray, List.set_cons_succ, List.set_cons_zero]
          refine AnyS.get (i := 27) (some 78) undef rfl rfl (by kernel_rfl) (by kernel_rfl) (by kernel_rfl) (by kernel_rfl) (fun _ _ _ h => h) ⟨.inr ⟨by kernel_rfl, rfl⟩, fun _ => rfl⟩ hS ?_
          simp only [Act.put, List.setIfInBounds_toArray, List.set_cons_succ, List.set_cons_zero]
          refine AnyS.get (i := 28) (some 79) undef rfl rfl (by kernel_rfl) (by kernel_rfl) (by kernel_rfl) (by kernel_rfl) (fun _ _ _ h => h) ⟨.inr ⟨by kernel_rfl, rfl⟩, fun _ => rfl⟩ hS ?_
          simp only [Act.put, List.setIfInBounds_toArray, List.set_cons_succ, List.set_cons_zero]
          refine AnyS.get (i := 29) (some 80) ?_ rfl rfl (by kernel_rfl) (by kernel_rfl) (by kernel_rfl) (by kernel_rfl) (fun _ _ _ h => h) (Reads.yes (by kernel_rfl) ?_ (fun _ => rfl)) hS ?_
          rotate_left
          · intro w' hw'
            obtain ⟨h0, h1, h2, h3⟩ := hw'
            go_simp
            with_reducible rfl
          simp only [Act.put, List.setIfInBounds_toArray, List.set_cons_succ, List.set_cons_zero]
          clear hS
          refine AnyS.done (by kernel_rfl) ?_ _
          obtain ⟨v1, w11, run, own1, bw1⟩ := run_append_sl (w := wr.drew.alloc (.cells #[.string ⟨c.k.toArray⟩, .int .i64 c.q, .string ⟨c.v.toArray⟩] 33)) (own_lat own0 nbx) (Nat.le_trans HI.out.2.size nbx.size) (new_sl [c] wr.drew (by simp)) (by rw [List.length_singleton]; omega)
          have R := Lib.hid run
          have HE := Lib.hid (show w11.ownsRow w10.heap.size 33 3 v1 (dd sameC (pre2.take (j + 1 + 1))).length (rowOf (dd sameC (pre2.take (j + 1 + 1)))) ∧ Below w10.heap.size w10 w11 from by
            rw [hdd]
            exact ⟨own1, (HI.out.2.trans (nbx.mono HI.out.2.size)).trans bw1⟩)
          clear run own1 bw1 own0 nbx hdd
          go_wp2_with (at_builtin; refine wpList_append_runE _ rfl _ _ 22 22 rfl _ _ rfl rfl R.out ?_)
          go_roundw
          case rel => exact ⟨j + 1 + 1, by omega, by simp <;> omega, Lib.hid HE.out⟩
          case measure => simp [intOf]; omega
    · obtain rfl : k = n := by omega
      have hT := (HT10.out.later HI.out.2).add (slAt_own HI.out.1)
      rw [show pre2.take k = pre2 from List.take_of_length_le (by rw [HN.out.1]; exact Nat.le_refl _)] at hT
      rw [merged_two HM.out.2.1 HM.out.2.2.1 HM.out.2.2.2.1 HMG.out] at hT
      have hJl : (putsC A B).length ≤ 200 := by have := puts_length B A; omega
      have hJe := merged_two HM.out.2.1 HM.out.2.2.1 HM.out.2.2.2.1 HMG.out
      obtain ⟨J, hJ⟩ : ∃ J, putsC A B = J := ⟨_, rfl⟩
      rw [hJ] at hT hJl hJe
      have jc := hT.1.join hT.2.1 hT.2.2.2.size (by omega) HM.out.2.2.2.2.1
      rw [hJ] at jc
      have JC := Lib.hid jc
      have HTT := Lib.hid hT
      have HJE := Lib.hid hJe
      clear hT jc hJ hJe HI HT10
      go_wp2_with fail
      refine JC.out.mono ?_
      rintro e w11 ⟨pj, rfl, SJ, b11⟩
      have T11 := HTT.out.later b11
      have RC := Lib.hid (SJ.range (by omega) [] [])
      have HT11 := Lib.hid (And.intro T11 SJ)
      clear SJ b11 T11 JC HTT
      go_wp2_with fail
      refine RC.out.mono ?_
      rintro e w12 ⟨b12, vr, rfl, own⟩
      rw [rangeC_all] at own
      have T12 := HT11.out.1.later b12
      have SC := Lib.hid (sl_two _ _ _ _ (slAt_own own) _ (T12.2.2.1 _ List.mem_cons_self) rfl)
      have HT12 := Lib.hid (And.intro T12 (HT11.out.2.later b12))
      clear b12 own T12 HT11 RC
      go_wp2_with fail
      refine SC.out.mono ?_
      rintro e w13 ⟨rfl, b13⟩
      have HT13 := Lib.hid (And.intro (HT12.out.1.later b13) (HT12.out.2.later b13))
      clear b13 HT12 SC
      go_wp2_with fail
      go_loopw [14] (fun iv wr => ∃ k : Nat, k ≤ m ∧ iv = .int .i64 k ∧ Hid (TwoAt w pa pb A B [(.slice An m cn, dd keyC pre2)] wr ∧ St w.heap.size pj J [] wr)) (fun iv _ => m - (intOf iv).toNat)
      case atStart =>
        obtain ⟨⟨t1, t2, t3, t4⟩, t5⟩ := HT13.out
        exact ⟨0, by omega, rfl, Lib.hid ⟨⟨t1, t2, fun x hx => t3 x (by simp at hx; simp [hx]), t4⟩, t5⟩⟩
      case round =>
        obtain ⟨k, hk, rfl, HI⟩ := hrel
        by_cases hkn : k < m
        · obtain ⟨A0, c0, e0, hc1, hc2, hrow⟩ := HI.out.1.2.2.1 _ List.mem_cons_self
          simp only [Value.slice.injEq] at e0
          obtain ⟨rfl, -, rfl⟩ := e0
          obtain ⟨b, o, rfl, row⟩ := hrow (by rw [HMN.out]; omega)
          have hzs := row.cells (i := k) (by rw [HMN.out]; exact hkn)
          have hcm : (dd keyC pre2).getD k Ce.zero ∈ dd keyC pre2 := by
            have : k < (dd keyC pre2).length := by rw [HMN.out]; exact hkn
            rw [show (dd keyC pre2).getD k Ce.zero = (dd keyC pre2)[k] by simp [List.getD, this]]
            exact List.getElem_mem _
          obtain ⟨c, hc⟩ : ∃ c, (dd keyC pre2).getD k Ce.zero = c := ⟨_, rfl⟩
          rw [hc] at hzs hcm
          have hfc := merged_find HMG.out hcm
          rw [HJE.out] at hfc
          have hfk := HN.out.2 c (dd_mem_sub hcm)
          have cg := HI.out.2.get (by omega) c.k (by have := hfk.1; omega)
          rw [hfc] at cg
          simp only [ceV, ceVal] at cg
          have CG := Lib.hid cg
          obtain ⟨z0, z1, z2⟩ := hzs
          have hbl := row.1
          have hki : (k : Int) < (m : Int) := by omega
          clear cg hfc hfk hcm hc hrow row hc1 hc2
          go_wp2_with (go_at_call 13; refine CG.out.mono ?_; rintro e w14 ⟨rfl, b14⟩; obtain ⟨q, hq⟩ : ∃ q, w14.heap.size = q := ⟨_, rfl⟩; obtain ⟨w15, hw15, hq15, nb15, x0, x1, x2, xf0, xf1, xf2⟩ := new_cell w14 q hq)
          have hs3 := set3 (a' := .string ⟨c.k.toArray⟩) (b' := .int .i64 c.q) (c' := .string ⟨c.v.toArray⟩) hq15
          have nb3 : Below wr.heap.size wr (((w15.setCell ⟨q, 0, none⟩ (.string ⟨c.k.toArray⟩)).setCell ⟨q, 1, none⟩ (.int .i64 c.q)).setCell ⟨q, 2, none⟩ (.string ⟨c.v.toArray⟩)) := b14.trans ((below_set (below_set (below_set nb15 (by omega) 0 _) (by omega) 1 _) (by omega) 2 _).mono b14.size)
          obtain ⟨W3, hW3⟩ : ∃ W3, ((w15.setCell ⟨q, 0, none⟩ (.string ⟨c.k.toArray⟩)).setCell ⟨q, 1, none⟩ (.int .i64 c.q)).setCell ⟨q, 2, none⟩ (.string ⟨c.v.toArray⟩) = W3 := ⟨_, rfl⟩
          rw [hW3] at hs3 nb3
          have HS0 := Lib.hid (show (W3.drew.cell? ⟨q, 0, none⟩ = some (.string ⟨c.k.toArray⟩) ∧ W3.drew.cell? ⟨q, 1, none⟩ = some (.int .i64 c.q) ∧ W3.drew.cell? ⟨q, 2, none⟩ = some (.string ⟨c.v.toArray⟩) ∧ (W3.drew.cell? ⟨b, o + k * 3, none⟩ = some (.string ⟨c.k.toArray⟩) ∧ W3.drew.cell? ⟨b, o + k * 3 + 1, none⟩ = some (.int .i64 c.q) ∧ W3.drew.cell? ⟨b, o + k * 3 + 2, none⟩ = some (.string ⟨c.v.toArray⟩))) from by
            exact ⟨by show W3.cell? _ = _; rw [cell_of_row W3 q _ _ _ _ hs3]; rfl, by show W3.cell? _ = _; rw [cell_of_row W3 q _ _ _ _ hs3]; rfl, by show W3.cell? _ = _; rw [cell_of_row W3 q _ _ _ _ hs3]; rfl, (nb3.cell (p := ⟨b, o + k * 3, none⟩) hbl).trans z0, (nb3.cell (p := ⟨b, o + k * 3 + 1, none⟩) hbl).trans z1, (nb3.cell (p := ⟨b, o + k * 3 + 2, none⟩) hbl).trans z2⟩)
          have HE := Lib.hid (And.intro (HI.out.1.later nb3) (HI.out.2.later nb3))
          try rw [hW3]
          clear hs3 nb3 nb15 hq15 x0 x1 x2 xf0 xf1 xf2 b14 z0 z1 z2 hW3 hw15
          refine (wpIn_wide (n := 5)).1 ?_
          refine wpIn_region_lit_late (fun W' => W'.cell? ⟨q, 0, none⟩ = some (.string ⟨c.k.toArray⟩) ∧ W'.cell? ⟨q, 1, none⟩ = some (.int .i64 c.q) ∧ W'.cell? ⟨q, 2, none⟩ = some (.string ⟨c.v.toArray⟩) ∧ (W'.cell? ⟨b, o + k * 3, none⟩ = some (.string ⟨c.k.toArray⟩) ∧ W'.cell? ⟨b, o + k * 3 + 1, none⟩ = some (.int .i64 c.q) ∧ W'.cell? ⟨b, o + k * 3 + 2, none⟩ = some (.string ⟨c.v.toArray⟩))) (fun _ => false) (k := 10) (listed := #[false, false, false, false, false, false, false, false, false, false]) (by kernel_rfl) (by kernel_rfl) (by kernel_rfl) ?_
          have hS : W3.drew.cell? ⟨q, 0, none⟩ = some (.string ⟨c.k.toArray⟩) ∧ W3.drew.cell? ⟨q, 1, none⟩ = some (.int .i64 c.q) ∧ W3.drew.cell? ⟨q, 2, none⟩ = some (.string ⟨c.v.toArray⟩) ∧ (W3.drew.cell? ⟨b, o + k * 3, none⟩ = some (.string ⟨c.k.toArray⟩) ∧ W3.drew.cell? ⟨b, o + k * 3 + 1, none⟩ = some (.int .i64 c.q) ∧ W3.drew.cell? ⟨b, o + k * 3 + 2, none⟩ = some (.string ⟨c.v.toArray⟩)) := HS0.out
          refine AnyS.get (i := 0) (some 120) ?_ rfl rfl (by kernel_rfl) (by kernel_rfl) (by kernel_rfl) (by kernel_rfl) (fun _ _ _ h => h) (Reads.yes (by kernel_rfl) ?_ (fun _ => rfl)) hS ?_
          rotate_left
          · intro w' hw'
            obtain ⟨h0, h1, h2, h3, h4, h5⟩ := hw'
            go_simp
            with_reducible rfl
          simp only [Act.put, List.setIfInBounds_toArray, List.set_cons_succ, List.set_cons_zero]
          refine AnyS.get (i := 1) (some 121) ?_ rfl rfl (by kernel_rfl) (by kernel_rfl) (by kernel_rfl) (by kernel_rfl) (fun _ _ _ h => h) (Reads.yes (by kernel_rfl) ?_ (fun _ => rfl)) hS ?_
          rotate_left
          · intro w' hw'
            obtain ⟨h0, h1, h2, h3, h4, h5⟩ := hw'
            go_simp
            with_reducible rfl
          simp only [Act.put, List.setIfInBounds_toArray, List.set_cons_succ, List.set_cons_zero]
          refine AnyS.get (i := 2) (some 122) ?_ rfl rfl (by kernel_rfl) (by kernel_rfl) (by kernel_rfl) (by kernel_rfl) (fun _ _ _ h => h) (Reads.yes (by kernel_rfl) ?_ (fun _ => rfl)) hS ?_
          rotate_left
          · intro w' hw'
            obtain ⟨h0, h1, h2, h3, h4, h5⟩ := hw'
            go_simp
            with_reducible rfl
          simp only [Act.put, List.setIfInBounds_toArray, List.set_cons_succ, List.set_cons_zero]
          refine AnyS.get (i := 3) (some 123) ?_ rfl rfl (by kernel_rfl) (by kernel_rfl) (by kernel_rfl) (by kernel_rfl) (fun _ _ _ h => h) (Reads.yes (by kernel_rfl) ?_ (fun _ => rfl)) hS ?_
          rotate_left
          · intro w' hw'
            obtain ⟨h0, h1, h2, h3, h4, h5⟩ := hw'
            go_simp
            with_reducible rfl
          simp only [Act.put, List.setIfInBounds_toArray, List.set_cons_succ, List.set_cons_zero]
          refine AnyS.get (i := 4) (some 124) ?_ rfl rfl (by kernel_rfl) (by kernel_rfl) (by kernel_rfl) (by kernel_rfl) (fun _ _ _ h => h) (Reads.yes (by kernel_rfl) ?_ (fun _ => rfl)) hS ?_
          rotate_left
          · intro w' hw'
            obtain ⟨h0, h1, h2, h3, h4, h5⟩ := hw'
            go_simp
            with_reducible rfl
          simp only [Act.put, List.setIfInBounds_toArray, List.set_cons_succ, List.set_cons_zero]
          refine AnyS.get (i := 5) (some 125) ?_ rfl rfl (by kernel_rfl) (by kernel_rfl) (by kernel_rfl) (by kernel_rfl) (fun _ _ _ h => h) (Reads.yes (by kernel_rfl) ?_ (fun _ => rfl)) hS ?_
          rotate_left
          · intro w' hw'
            obtain ⟨h0, h1, h2, h3, h4, h5⟩ := hw'
            go_simp
            with_reducible rfl
          simp only [Act.put, List.setIfInBounds_toArray, List.set_cons_succ, List.set_cons_zero]
          refine AnyS.get (i := 6) (some 126) ?_ rfl rfl (by kernel_rfl) (by kernel_rfl) (by kernel_rfl) (by kernel_rfl) (fun _ _ _ h => h) (Reads.yes (by kernel_rfl) ?_ (fun _ => rfl)) hS ?_
          rotate_left
          · intro w' hw'
            obtain ⟨h0, h1, h2, h3, h4, h5⟩ := hw'
            go_simp
            with_reducible rfl
          simp only [Act.put, List.setIfInBounds_toArray, List.set_cons_succ, List.set_cons_zero]
          refine AnyS.get (i := 7) (some 127) ?_ rfl rfl (by kernel_rfl) (by kernel_rfl) (by kernel_rfl) (by kernel_rfl) (fun _ _ _ h => h) (Reads.yes (by kernel_rfl) ?_ (fun _ => rfl)) hS ?_
          rotate_left
          · intro w' hw'
            obtain ⟨h0, h1, h2, h3, h4, h5⟩ := hw'
            go_simp
            with_reducible rfl
          simp only [Act.put, List.setIfInBounds_toArray, List.set_cons_succ, List.set_cons_zero]
          refine AnyS.get (i := 8) (some 128) ?_ rfl rfl (by kernel_rfl) (by kernel_rfl) (by kernel_rfl) (by kernel_rfl) (fun _ _ _ h => h) (Reads.yes (by kernel_rfl) ?_ (fun _ => rfl)) hS ?_
          rotate_left
          · intro w' hw'
            obtain ⟨h0, h1, h2, h3, h4, h5⟩ := hw'
            go_simp
            with_reducible rfl
          simp only [Act.put, List.setIfInBounds_toArray, List.set_cons_succ, List.set_cons_zero]
          refine AnyS.get (i := 9) (some 129) ?_ rfl rfl (by kernel_rfl) (by kernel_rfl) (by kernel_rfl) (by kernel_rfl) (fun _ _ _ h => h) (Reads.yes (by kernel_rfl) ?_ (fun _ => rfl)) hS ?_
          rotate_left
          · intro w' hw'
            obtain ⟨h0, h1, h2, h3, h4, h5⟩ := hw'
            go_simp
            with_reducible rfl
          simp only [Act.put, List.setIfInBounds_toArray, List.set_cons_succ, List.set_cons_zero]
          clear hS
          refine AnyS.done (by kernel_rfl) ?_ _
          go_wp2_with fail
          go_roundw
          case rel =>
            obtain ⟨⟨t1, t2, t3, t4⟩, t5⟩ := HE.out
            have nd : Below W3.heap.size W3 W3.drew := Below.drew (Below.refl _ _)
            exact ⟨k + 1, by omega, by simp <;> omega, Lib.hid ⟨TwoAt.later HE.out.1 nd, HE.out.2.later nd⟩⟩
          case measure => simp [intOf]; omega
        · have B := HI.out.1.2.2.2
          have HB := Lib.hid B
          clear B HI HT13
          go_wp2_with fail
          refine (mdoes_true _).mono ?_
          rintro e w14 ⟨rfl, b14⟩
          have B := btP HB.out b14
          clear b14
          go_wp2_with fail
          go_ret
          exact ⟨rfl, B⟩
end Go.Proofs.Ytpcapifjbhaeeaa
namespace Go.Proofs.Ytpcapifjbhaeeaa
set_option maxRecDepth 16000
open Go.RowKit Spoor
set_option linter.unusedVariables false

theorem memoryMerges_law (w : World) (v : Value) (l : List Ce) (u : Value) (more : List Ce) (hs : SlAt v l w) (hn : v = .slice none 0 0 ∨ ∃ ad n c, v = .slice (some ad) n c) (hw : ∀ c ∈ l, WfC c)
    (hs2 : SlAt u more w) (hn2 : u = .slice none 0 0 ∨ ∃ ad n c, u = .slice (some ad) n c) (hw2 : ∀ c ∈ more, WfC c) :
    Calls Try.prog 7 #[v, u] w fun e w' => e = .returned (.bool true) ∧ Below w.heap.size w w' := by
  by_cases hall : greatL l 100 = false ∧ greatL more 100 = false
  · exact memoryMerges_yes w v u l more hs hs2 hw hw2 hall.1 hall.2
  · have cg := greatL_any v l 100 w hs hw (by omega)
    have cg2 := fun W (hb : Below w.heap.size w W) => greatL_any u more 100 W (hs2.later hb) hw2 (by omega)
    have hgo : ∀ g g2 : Bool, greatL l 100 = g → greatL more 100 = g2 → (g || g2) = true := by
      intro g g2 h0 h1
      cases g <;> cases g2 <;> simp_all
    have HGO := Lib.hid hgo
    obtain ⟨g, hg⟩ : ∃ g, greatL l 100 = g := ⟨_, rfl⟩
    obtain ⟨g2, hg2⟩ : ∃ g2, greatL more 100 = g2 := ⟨_, rfl⟩
    have HG := Lib.hid (And.intro hg hg2)
    rw [hg] at cg
    rw [hg2] at cg2
    have CG := Lib.hid cg
    have CG2 := Lib.hid cg2
    clear cg cg2 hw hw2 hs hs2 hn hn2 hgo hall hg hg2
    go_enter Try.func7, Try.ntmps7
    cases g2 <;> cases g <;>
      first
      | (exfalso; have := HGO.out _ _ HG.out.1 HG.out.2; simp at this; done)
      | (go_wp2_with fail
         refine CG.out.mono ?_
         rintro e w1 ⟨rfl, b1⟩
         have CGB := Lib.hid (CG2.out w1 b1)
         have HB1 := Lib.hid b1
         clear CG CG2 b1
         go_wp2_with fail
         refine CGB.out.mono ?_
         rintro e w2 ⟨rfl, b2⟩
         have B2 := btP HB1.out b2
         clear CGB b2 HB1
         go_wp2_with fail
         go_ret
         exact ⟨rfl, B2⟩)
      | (go_wp2_with fail
         refine CG.out.mono ?_
         rintro e w1 ⟨rfl, b1⟩
         clear CG CG2
         go_wp2_with fail
         go_ret
         exact ⟨rfl, b1⟩)
end Go.Proofs.Ytpcapifjbhaeeaa
