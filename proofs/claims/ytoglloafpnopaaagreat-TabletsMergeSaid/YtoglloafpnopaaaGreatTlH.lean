/- The laws' beyond. -/
import Derived.Test.YtoglloafpnopaaaGreatTlG
set_option linter.unusedSimpArgs false
set_option linter.unusedVariables false
namespace Go.Proofs.YtoglloafpnopaaaGreat
set_option maxRecDepth 16000
open Go.RowKit Spoor
set_option linter.unusedVariables false
set_option linter.unusedSimpArgs false

/-- is it more than is looked at? -/
def beyD (F T : List UInt8) (lm : List Ce) (Tl : List (List Ce)) : Bool := decide ((100 : Int) < F.length) || decide ((100 : Int) < T.length) || beyL lm 40 || decide (5 < Tl.length) || Tl.any fun l => beyL l 40
theorem beyL_no {l : List Ce} {m : Nat} (h : beyL l m = false) (hw : ∀ c ∈ l, WfC c) : l.length ≤ m ∧ ∀ c ∈ l, FitsC c := by
 unfold beyL at h
 rw [Bool.or_eq_false_iff, decide_eq_false_iff_not, List.any_eq_false] at h
 refine ⟨by omega, fun c hc => ?_⟩
 have := h.2 c hc
 unfold beyC at this
 simp only [Bool.or_eq_true, decide_eq_true_eq, not_or] at this
 exact ⟨by omega, by omega, (hw c hc).2.2⟩
theorem beyD_no {F T : List UInt8} {lm : List Ce} {Tl : List (List Ce)} (h : beyD F T lm Tl = false) (hm : ∀ c ∈ lm, WfC c) (hT : ∀ l ∈ Tl, ∀ c ∈ l, WfC c) : F.length ≤ 100 ∧ T.length ≤ 100 ∧ DataOk lm Tl := by
 unfold beyD at h
 simp only [Bool.or_eq_false_iff, decide_eq_false_iff_not, List.any_eq_false] at h
 obtain ⟨⟨⟨⟨h1, h2⟩, h3⟩, h4⟩, h5⟩ := h
 refine ⟨by omega, by omega, beyL_no h3 hm, by omega, fun l hl => beyL_no (by have := h5 l hl; simpa using this) (hT l hl)⟩
set_option maxRecDepth 100000 in
set_option maxHeartbeats 4000000 in
theorem beyD_any (F T : List UInt8) (MA : Option Addr) (nm cm : Nat) (TA : Option Addr) (nt ct : Nat) (lm : List Ce) (Tl : List (List Ce)) (w : World) (hM : SlAt (.slice MA nm cm) lm w) (hT : RowsIn (.slice TA nt ct) Tl w) (wm : ∀ c ∈ lm, WfC c) (wT : ∀ l ∈ Tl, ∀ c ∈ l, WfC c) :
 Calls Tryz.prog 9 #[dataVal F T MA nm cm TA nt ct] w fun e w' => e = .returned (.bool (beyD F T lm Tl)) ∧ Below w.heap.size w w' := by
 have hntl : Tl.length = nt := by obtain ⟨A, c, e, -⟩ := hT; simp only [Value.slice.injEq] at e; exact e.2.1.symm
 have hntb : nt ≤ 9223372036854775807 := by obtain ⟨A, c, e, h1, h2, -⟩ := hT; unfold maxLen at h2; omega
 obtain ⟨xb, hxb⟩ : ∃ xb, w.heap.size = xb := ⟨_, rfl⟩
 have hx0 := heap_alloc_new w (.cells #[.string ⟨F.toArray⟩, .string ⟨T.toArray⟩, .slice MA nm cm, .slice TA nt ct] 25)
 have nb0 := (Below.refl w.heap.size w).alloc (Nat.le_refl _) (.cells #[.string ⟨F.toArray⟩, .string ⟨T.toArray⟩, .slice MA nm cm, .slice TA nt ct] 25)
 obtain ⟨W0, hW0⟩ : ∃ W0, w.alloc (.cells #[.string ⟨F.toArray⟩, .string ⟨T.toArray⟩, .slice MA nm cm, .slice TA nt ct] 25) = W0 := ⟨_, rfl⟩
 rw [hW0] at hx0 nb0
 rw [hxb] at hx0
 have x0 : W0.cell? ⟨xb, 0, none⟩ = some (.string ⟨F.toArray⟩) := by rw [cell_of_row W0 xb _ _ _ _ hx0]; rfl
 have x1 : W0.cell? ⟨xb, 1, none⟩ = some (.string ⟨T.toArray⟩) := by rw [cell_of_row W0 xb _ _ _ _ hx0]; rfl
 have x2 : W0.cell? ⟨xb, 2, none⟩ = some (.slice MA nm cm) := by rw [cell_of_row W0 xb _ _ _ _ hx0]; rfl
 have CB := Lib.hid (beyL_any (.slice MA nm cm) lm 40 W0 (hM.later nb0) wm (by omega))
 obtain ⟨R, hR⟩ : ∃ R, beyD F T lm Tl = R := ⟨_, rfl⟩
 rw [hR]
 unfold beyD at hR
 have HH := Lib.hid (And.intro hx0 (And.intro nb0 (And.intro hT (And.intro wT hntl))))
 unfold dataVal
 clear hM hT wm wT hx0 nb0
 by_cases h1 : (100 : Int) < (F.length : Int)
 · have : R = true := by rw [← hR]; simp [h1]
   subst this
   clear hR
   go_enter Tryz.func9, Tryz.ntmps9
   go_wp2_with fail
   go_ret
   exact ⟨rfl, by first | exact HH.out.2.1 | (rw [← hxb]; exact HH.out.2.1)⟩
 · by_cases h2 : (100 : Int) < (T.length : Int)
   · have : R = true := by rw [← hR]; simp [h2]
     subst this
     clear hR
     go_enter Tryz.func9, Tryz.ntmps9
     go_wp2_with fail
     go_ret
     exact ⟨rfl, by first | exact HH.out.2.1 | (rw [← hxb]; exact HH.out.2.1)⟩
   · have e1 : decide ((100 : Int) < (F.length : Int)) = false := decide_eq_false h1
     have e2 : decide ((100 : Int) < (T.length : Int)) = false := decide_eq_false h2
     rw [e1, e2] at hR
     simp only [Bool.false_or] at hR
     clear e1 e2
     cases hg : beyL lm 40 with
     | true =>
       rw [hg] at hR CB
       have : R = true := by rw [← hR]; simp
       subst this
       clear hR hg
       go_enter Tryz.func9, Tryz.ntmps9
       go_wp2_with fail
       refine CB.out.mono ?_
       rintro e w1 ⟨rfl, b1⟩
       have HB := Lib.hid (btP HH.out.2.1 b1)
       clear b1 CB
       go_wp2_with fail
       go_ret
       exact ⟨rfl, HB.out⟩
     | false =>
       rw [hg] at hR CB
       simp only [Bool.false_or] at hR
       rw [hntl] at hR
       have HR := Lib.hid hR
       clear hR hg hntl
       go_enter Tryz.func9, Tryz.ntmps9
       go_wp2_with fail
       refine CB.out.mono ?_
       rintro e w1 ⟨rfl, b1⟩
       have hx1 := (b1.block xb (Array.getElem?_eq_some_iff.1 HH.out.1).1).trans HH.out.1
       have y3 : w1.cell? ⟨xb, 3, none⟩ = some (.slice TA nt ct) := by rw [cell_of_row w1 xb _ _ _ _ hx1]; rfl
       have H1 := Lib.hid (And.intro b1 (btP HH.out.2.1 b1))
       clear b1 CB hx1
       by_cases h5 : 5 < nt
       · have : R = true := by rw [← HR.out]; simp [h5]
         subst this
         have h5i : (5 : Int) < (nt : Int) := by omega
         go_wp2_with fail
         go_ret
         exact ⟨rfl, H1.out.2⟩
       · have h5i : ¬ (5 : Int) < (nt : Int) := by omega
         have hRR : R = Tl.any fun l => beyL l 40 := by rw [← HR.out]; simp [h5]
         have HRR := Lib.hid hRR
         clear hRR HR
         go_wp2_with fail
         go_loopw [3] (fun iv wr => ∃ k : Nat, k ≤ nt ∧ iv = .int .i64 k ∧ Hid (((Tl.take k).any fun l => beyL l 40) = false ∧ Below W0.heap.size W0 wr)) (fun iv _ => nt - (intOf iv).toNat)
         case atStart => exact ⟨0, by omega, rfl, Lib.hid ⟨rfl, H1.out.1⟩⟩
         case round =>
          obtain ⟨k, hk, rfl, HI⟩ := hrel
          have z3 : wr.cell? ⟨xb, 3, none⟩ = some (.slice TA nt ct) := by rw [cell_of_row wr xb _ _ _ _ ((HI.out.2.block xb (Array.getElem?_eq_some_iff.1 HH.out.1).1).trans HH.out.1)]; rfl
          by_cases hkn : k < nt
          · obtain ⟨Ab, cb, e0, hc1, hc2, hrow⟩ := (HH.out.2.2.1.later HH.out.2.1).later HI.out.2
            obtain ⟨rb, o, vk, rfl, hrb, hcell, hsl⟩ := hrow k (by rw [HH.out.2.2.2.2]; exact hkn)
            simp only [Value.slice.injEq] at e0
            obtain ⟨rfl, -, rfl⟩ := e0
            obtain ⟨lk, hlk⟩ : ∃ lk, Tl.getD k [] = lk := ⟨_, rfl⟩
            have hkl : k < Tl.length := by rw [HH.out.2.2.2.2]; exact hkn
            have hge : Tl[k] = lk := by rw [← hlk]; simp [List.getD, hkl]
            have hlm : lk ∈ Tl := by rw [← hge]; exact List.getElem_mem _
            rw [hlk] at hsl
            have CK := beyL_any vk lk 40 wr hsl (HH.out.2.2.2.1 lk hlm) (by omega)
            obtain ⟨g, hgk⟩ : ∃ g, beyL lk 40 = g := ⟨_, rfl⟩
            rw [hgk] at CK
            have hst : ((Tl.take (k + 1)).any fun l => beyL l 40) = g := by
             rw [List.take_add_one, List.any_append, HI.out.1]
             simp [hkl, hge, hgk]
            have CKH := Lib.hid CK
            obtain ⟨Av, cv, rfl⟩ : ∃ A c, vk = .slice A lk.length c := by obtain ⟨A, c, e, -⟩ := hsl; exact ⟨A, c, e⟩
            have hki : (k : Int) < (nt : Int) := by omega
            have HST := Lib.hid (And.intro hst (show g = true → R = true from fun e => by
             rw [HRR.out, ← List.take_append_drop (k + 1) Tl, List.any_append, hst, e]; rfl))
            clear hrow hsl hlm CK hst hgk hge hlk hc1 hc2
            cases g with
            | true =>
              obtain rfl := HST.out.2 rfl
              go_wp2_with fail
              refine CKH.out.mono ?_
              rintro e w2 ⟨rfl, b2⟩
              have HB := Lib.hid (btP HH.out.2.1 (btP HI.out.2 b2))
              clear b2
              go_wp2_with fail
              go_ret
              exact ⟨rfl, HB.out⟩
            | false =>
              go_wp2_with fail
              refine CKH.out.mono ?_
              rintro e w2 ⟨rfl, b2⟩
              have HB := Lib.hid (btP HI.out.2 b2)
              clear b2
              go_wp2_with fail
              go_roundw
              case rel => exact ⟨k + 1, by omega, by simp <;> omega, Lib.hid ⟨HST.out.1, HB.out⟩⟩
              case measure => simp [intOf]; omega
          · obtain rfl : k = nt := by omega
            have hno : R = false := by
             rw [HRR.out]
             have := HI.out.1
             rwa [List.take_of_length_le (by rw [HH.out.2.2.2.2]; exact Nat.le_refl _)] at this
            subst hno
            have HB := Lib.hid (btP HH.out.2.1 HI.out.2)
            go_wp2_with fail
            go_ret
            exact ⟨rfl, HB.out⟩
end Go.Proofs.YtoglloafpnopaaaGreat
