/- law18's SameCells and Beyond. The laws' beyond. tablets' Merge, nothing dropped. -/
import Derived.Test.YtoglloafpnopaaaGreatTlF
set_option linter.unusedSimpArgs false
set_option linter.unusedVariables false
namespace Go.Proofs.YtoglloafpnopaaaGreat
set_option maxRecDepth 16000
open Go.RowKit Spoor
set_option maxHeartbeats 4000000 in
theorem sameT_any (s t : Value) (l m : List Ce) (w : World) (hs : SlAt s l w) (ht : SlAt t m w) :
 Calls Tryz.prog 16 #[s, t] w fun e w' => e = .returned (.bool (decide (l = m))) ∧ Below w.heap.size w w' := by
 obtain ⟨A, cap, rfl, h1, h2, h3⟩ := hs
 obtain ⟨A2, cap2, rfl, k1, k2, k3⟩ := ht
 unfold maxLen at h2 k2
 obtain ⟨R, hR⟩ : ∃ R, decide (l = m) = R := ⟨_, rfl⟩
 rw [hR]
 have HR := Lib.hid hR
 clear hR
 by_cases hlm : l.length = m.length
 · have H3 := Lib.hid h3
   have K3 := Lib.hid k3
   obtain ⟨n, hn⟩ : ∃ n, l.length = n := ⟨_, rfl⟩
   have HN := Lib.hid hn
   have HM := Lib.hid (hlm.symm.trans hn)
   rw [← hlm, hn] at k1 ⊢
   rw [hn] at h1
   clear h3 k3 hn hlm
   go_enter Tryz.func16, Tryz.ntmps16
   go_wp2_with fail
   go_loopw [5] (fun i wr => ∃ k : Nat, k ≤ n ∧ i = .int .i64 k ∧ l.take k = m.take k ∧ Below w.heap.size w wr) (fun i _ => n - (intOf i).toNat)
   case atStart => exact ⟨0, by omega, rfl, by simp, Below.refl _ _⟩
   case round =>
    obtain ⟨k, hk, rfl, htk, hb⟩ := hrel
    have HT := Lib.hid htk
    clear htk
    by_cases hlt : k < n
    · obtain ⟨b, o, rfl, hrow⟩ := H3.out (by rw [HN.out]; omega)
      obtain ⟨b2, o2, rfl, hrow2⟩ := K3.out (by rw [HM.out]; omega)
      have hrow := hrow.later hb hrow.1
      have hrow2 := hrow2.later hb hrow2.1
      obtain ⟨x0, x1, x2⟩ := hrow.cells (i := k) (by rw [HN.out]; exact hlt)
      obtain ⟨y0, y1, y2⟩ := hrow2.cells (i := k) (by rw [HM.out]; exact hlt)
      have hst := same_take (l := l) (m := m) (by rw [HN.out, HM.out]) (k := k) (by rw [HN.out]; exact hlt) HT.out
      have HS := Lib.hid hst
      have ne := fun W => neq_ce (l.getD k Ce.zero) (m.getD k Ce.zero) W
      have lt1 := hrow.1
      have lt2 := hrow2.1
      clear hst hrow hrow2
      by_cases he : l.getD k Ce.zero = m.getD k Ce.zero
      · rw [decide_eq_true he] at ne
        have HY := Lib.hid (HS.out.2 he)
        clear he HS
        generalize l.getD k Ce.zero = c at *
        generalize m.getD k Ce.zero = d at *
        unfold ceVal at ne
        go_wp2_with fail
        go_quiet (fail)
        go_wp2_with fail
        go_roundw
        case rel => exact ⟨k + 1, by omega, by go_num, HY.out, _root_.Go.below_drewN hb _⟩
        case measure => simp [intOf]; omega
      · rw [decide_eq_false he] at ne
        have hno : R = false := by rw [← HR.out]; exact decide_eq_false (fun e => he (by rw [e]))
        clear he HS
        generalize l.getD k Ce.zero = c at *
        generalize m.getD k Ce.zero = d at *
        unfold ceVal at ne
        subst hno
        go_wp2_with fail
        go_quiet (fail)
        go_wp2_with fail
        go_ret
        exact ⟨rfl, _root_.Go.below_drewN hb _⟩
    · obtain rfl : k = n := by omega
      have hyes : R = true := by
       rw [← HR.out]
       refine decide_eq_true ?_
       have h := HT.out
       rwa [List.take_of_length_le (by rw [HN.out]; exact Nat.le_refl _), List.take_of_length_le (by rw [HM.out]; exact Nat.le_refl _)] at h
      subst hyes
      go_wp2_with fail
      go_ret
      exact ⟨rfl, hb⟩
 · have hno : R = false := by rw [← HR.out]; exact decide_eq_false (fun e => hlm (by rw [e]))
   subst hno
   have hne : ((l.length : Int) != (m.length : Int)) = true := by simp; omega
   go_enter Tryz.func16, Tryz.ntmps16
   go_wp2_with fail
   go_ret
   exact ⟨rfl, Below.refl _ _⟩
def beyC (c : Ce) : Bool := decide ((300 : Int) < c.k.length) || decide ((300 : Int) < c.v.length)
def beyL (l : List Ce) (most : Nat) : Bool := decide (most < l.length) || l.any beyC
theorem beyT_take (l : List Ce) (k : Nat) (h : k < l.length) : (l.take (k + 1)).any beyC = ((l.take k).any beyC || beyC (l.getD k Ce.zero)) := by
 rw [take_ce l k h, List.any_append]
 simp
theorem beyT_yes (l : List Ce) (k : Nat) (h : (l.take k).any beyC = true) : l.any beyC = true := by
 rw [← List.take_append_drop k l, List.any_append, h, Bool.true_or]
set_option maxHeartbeats 4000000 in
theorem beyL_any (s : Value) (l : List Ce) (most : Nat) (w : World) (hs : SlAt s l w) (hf : ∀ c ∈ l, WfC c) (hm : most ≤ 100000) :
 Calls Tryz.prog 26 #[s, .int .i64 most] w fun e w' => e = .returned (.bool (beyL l most)) ∧ Below w.heap.size w w' := by
 obtain ⟨A, cap, rfl, h1, h2, h3⟩ := hs
 unfold maxLen at h2
 obtain ⟨R, hR⟩ : ∃ R, beyL l most = R := ⟨_, rfl⟩
 rw [hR]
 have HR := Lib.hid hR
 clear hR
 have H3 := Lib.hid h3
 have HF := Lib.hid hf
 obtain ⟨n, hn⟩ : ∃ n, l.length = n := ⟨_, rfl⟩
 have HN := Lib.hid hn
 rw [hn] at h1 ⊢
 clear h3 hn hf
 by_cases hmn : (most : Int) < (n : Int)
 · have hyes : R = true := by
    rw [← HR.out, beyL, HN.out, decide_eq_true (by omega), Bool.true_or]
   subst hyes
   go_enter Tryz.func26, Tryz.ntmps26
   go_wp2_with fail
   go_ret
   exact ⟨rfl, Below.refl _ _⟩
 · have hR2 : R = l.any beyC := by rw [← HR.out, beyL, HN.out, decide_eq_false (by omega), Bool.false_or]
   have HR2 := Lib.hid hR2
   clear hR2
   go_enter Tryz.func26, Tryz.ntmps26
   go_wp2_with fail
   go_loopw [5] (fun i wr => ∃ k : Nat, k ≤ n ∧ i = .int .i64 k ∧ (l.take k).any beyC = false ∧ Below w.heap.size w wr) (fun i _ => n - (intOf i).toNat)
   case atStart => exact ⟨0, by omega, rfl, by simp, Below.refl _ _⟩
   case round =>
    obtain ⟨k, hk, rfl, htk, hb⟩ := hrel
    by_cases hlt : k < n
    · have hkl : k < l.length := by rw [HN.out]; exact hlt
      obtain ⟨b, o, rfl, hrow⟩ := H3.out (by rw [HN.out]; omega)
      have hrow := hrow.later hb hrow.1
      obtain ⟨x0, x1, x2⟩ := hrow.cells hkl
      obtain ⟨f1, f2, f3⟩ := getD_lt HF.out hkl
      unfold maxLen at f1 f2
      have hst := beyT_take l k hkl
      rw [htk, Bool.false_or] at hst
      have HS := Lib.hid hst
      clear hst htk hrow
      by_cases g1 : (300 : Int) < ((l.getD k Ce.zero).k.length : Int)
      · have hyes : R = true := by
         rw [HR2.out]; exact beyT_yes l (k + 1) (by rw [HS.out, beyC, decide_eq_true g1, Bool.true_or])
        clear HS
        generalize l.getD k Ce.zero = c at *
        subst hyes
        go_wp2_with fail
        go_ret
        exact ⟨rfl, hb⟩
      · by_cases g2 : (300 : Int) < ((l.getD k Ce.zero).v.length : Int)
        · have hyes : R = true := by
           rw [HR2.out]; exact beyT_yes l (k + 1) (by rw [HS.out, beyC, decide_eq_true g2, Bool.or_true])
          have e1 := decide_eq_false g1
          clear HS
          generalize l.getD k Ce.zero = c at *
          subst hyes
          go_wp2_with fail
          go_ret
          exact ⟨rfl, hb⟩
        · have hno : (l.take (k + 1)).any beyC = false := by rw [HS.out, beyC, decide_eq_false g1, decide_eq_false g2, Bool.or_false]
          have HNO := Lib.hid hno
          have e1 := decide_eq_false g1
          have e2 := decide_eq_false g2
          clear HS hno
          generalize l.getD k Ce.zero = c at *
          go_wp2_with fail
          go_roundw
          case rel => exact ⟨k + 1, by omega, by go_num, HNO.out, hb⟩
          case measure => simp [intOf]; omega
    · obtain rfl : k = n := by omega
      have hno : R = false := by rw [HR2.out]; rwa [List.take_of_length_le (by rw [HN.out]; exact Nat.le_refl _)] at htk
      clear htk
      subst hno
      go_wp2_with fail
      go_ret
      exact ⟨rfl, hb⟩
def beyD (F T : List UInt8) (lm : List Ce) (Tl : List (List Ce)) : Bool := decide ((100 : Int) < F.length) || decide ((100 : Int) < T.length) || beyL lm 40 || decide (5 < Tl.length) || Tl.any fun l => beyL l 40
theorem beyL_no {l : List Ce} {m : Nat} (h : beyL l m = false) (hw : ∀ c ∈ l, WfC c) : l.length ≤ m ∧ ∀ c ∈ l, FitsC c := by
 unfold beyL at h
 rw [Bool.or_eq_false_iff, decide_eq_false_iff_not, List.any_eq_false] at h
 refine ⟨by omega, fun c hc => ?_⟩
 have := h.2 c hc
 unfold beyC at this
 simp only [Bool.or_eq_true, decide_eq_true_eq, not_or] at this
 exact ⟨by omega, by omega, (hw c hc).2.2⟩
theorem beyD_no {F T : List UInt8} {lm : List Ce} {Tl : List (List Ce)} (h : beyD F T lm Tl = false) (hm : ∀ c ∈ lm, WfC c) (hT : ∀ l ∈ Tl, ∀ c ∈ l, WfC c) : F.length ≤ 100 ∧ T.length ≤ 100 ∧ DataOk lm Tl := by
 unfold beyD at h
 simp only [Bool.or_eq_false_iff, decide_eq_false_iff_not, List.any_eq_false] at h
 obtain ⟨⟨⟨⟨h1, h2⟩, h3⟩, h4⟩, h5⟩ := h
 refine ⟨by omega, by omega, beyL_no h3 hm, by omega, fun l hl => beyL_no (by have := h5 l hl; simpa using this) (hT l hl)⟩
set_option maxRecDepth 100000 in
set_option maxHeartbeats 4000000 in
theorem beyD_any (F T : List UInt8) (MA : Option Addr) (nm cm : Nat) (TA : Option Addr) (nt ct : Nat) (lm : List Ce) (Tl : List (List Ce)) (w : World) (hM : SlAt (.slice MA nm cm) lm w) (hT : RowsIn (.slice TA nt ct) Tl w) (wm : ∀ c ∈ lm, WfC c) (wT : ∀ l ∈ Tl, ∀ c ∈ l, WfC c) :
 Calls Tryz.prog 9 #[dataVal F T MA nm cm TA nt ct] w fun e w' => e = .returned (.bool (beyD F T lm Tl)) ∧ Below w.heap.size w w' := by
 have hntl : Tl.length = nt := by obtain ⟨A, c, e, -⟩ := hT; simp only [Value.slice.injEq] at e; exact e.2.1.symm
 have hntb : nt ≤ 9223372036854775807 := by obtain ⟨A, c, e, h1, h2, -⟩ := hT; unfold maxLen at h2; omega
 obtain ⟨xb, hxb⟩ : ∃ xb, w.heap.size = xb := ⟨_, rfl⟩
 have hx0 := heap_alloc_new w (.cells #[.string ⟨F.toArray⟩, .string ⟨T.toArray⟩, .slice MA nm cm, .slice TA nt ct] 25)
 have nb0 := (Below.refl w.heap.size w).alloc (Nat.le_refl _) (.cells #[.string ⟨F.toArray⟩, .string ⟨T.toArray⟩, .slice MA nm cm, .slice TA nt ct] 25)
 obtain ⟨W0, hW0⟩ : ∃ W0, w.alloc (.cells #[.string ⟨F.toArray⟩, .string ⟨T.toArray⟩, .slice MA nm cm, .slice TA nt ct] 25) = W0 := ⟨_, rfl⟩
 rw [hW0] at hx0 nb0
 rw [hxb] at hx0
 have x0 : W0.cell? ⟨xb, 0, none⟩ = some (.string ⟨F.toArray⟩) := by rw [cell_of_row W0 xb _ _ _ _ hx0]; rfl
 have x1 : W0.cell? ⟨xb, 1, none⟩ = some (.string ⟨T.toArray⟩) := by rw [cell_of_row W0 xb _ _ _ _ hx0]; rfl
 have x2 : W0.cell? ⟨xb, 2, none⟩ = some (.slice MA nm cm) := by rw [cell_of_row W0 xb _ _ _ _ hx0]; rfl
 have CB := Lib.hid (beyL_any (.slice MA nm cm) lm 40 W0 (hM.later nb0) wm (by omega))
 obtain ⟨R, hR⟩ : ∃ R, beyD F T lm Tl = R := ⟨_, rfl⟩
 rw [hR]
 unfold beyD at hR
 have HH := Lib.hid (And.intro hx0 (And.intro nb0 (And.intro hT (And.intro wT hntl))))
 unfold dataVal
 clear hM hT wm wT hx0 nb0
 by_cases h1 : (100 : Int) < (F.length : Int)
 · have : R = true := by rw [← hR]; simp [h1]
   subst this
   clear hR
   go_enter Tryz.func9, Tryz.ntmps9
   go_wp2_with fail
   go_ret
   exact ⟨rfl, by first | exact HH.out.2.1 | (rw [← hxb]; exact HH.out.2.1)⟩
 · by_cases h2 : (100 : Int) < (T.length : Int)
   · have : R = true := by rw [← hR]; simp [h2]
     subst this
     clear hR
     go_enter Tryz.func9, Tryz.ntmps9
     go_wp2_with fail
     go_ret
     exact ⟨rfl, by first | exact HH.out.2.1 | (rw [← hxb]; exact HH.out.2.1)⟩
   · have e1 : decide ((100 : Int) < (F.length : Int)) = false := decide_eq_false h1
     have e2 : decide ((100 : Int) < (T.length : Int)) = false := decide_eq_false h2
     rw [e1, e2] at hR
     simp only [Bool.false_or] at hR
     clear e1 e2
     cases hg : beyL lm 40 with
     | true =>
       rw [hg] at hR CB
       have : R = true := by rw [← hR]; simp
       subst this
       clear hR hg
       go_enter Tryz.func9, Tryz.ntmps9
       go_wp2_with fail
       refine CB.out.mono ?_
       rintro e w1 ⟨rfl, b1⟩
       have HB := Lib.hid (btP HH.out.2.1 b1)
       clear b1 CB
       go_wp2_with fail
       go_ret
       exact ⟨rfl, HB.out⟩
     | false =>
       rw [hg] at hR CB
       simp only [Bool.false_or] at hR
       rw [hntl] at hR
       have HR := Lib.hid hR
       clear hR hg hntl
       go_enter Tryz.func9, Tryz.ntmps9
       go_wp2_with fail
       refine CB.out.mono ?_
       rintro e w1 ⟨rfl, b1⟩
       have hx1 := (b1.block xb (Go.ltA HH.out.1)).trans HH.out.1
       have y3 : w1.cell? ⟨xb, 3, none⟩ = some (.slice TA nt ct) := by rw [cell_of_row w1 xb _ _ _ _ hx1]; rfl
       have H1 := Lib.hid (And.intro b1 (btP HH.out.2.1 b1))
       clear b1 CB hx1
       by_cases h5 : 5 < nt
       · have : R = true := by rw [← HR.out]; simp [h5]
         subst this
         have h5i : (5 : Int) < (nt : Int) := by omega
         go_wp2_with fail
         go_ret
         exact ⟨rfl, H1.out.2⟩
       · have h5i : ¬ (5 : Int) < (nt : Int) := by omega
         have hRR : R = Tl.any fun l => beyL l 40 := by rw [← HR.out]; simp [h5]
         have HRR := Lib.hid hRR
         clear hRR HR
         go_wp2_with fail
         go_loopw [3] (fun iv wr => ∃ k : Nat, k ≤ nt ∧ iv = .int .i64 k ∧ Hid (((Tl.take k).any fun l => beyL l 40) = false ∧ Below W0.heap.size W0 wr)) (fun iv _ => nt - (intOf iv).toNat)
         case atStart => exact ⟨0, by omega, rfl, Lib.hid ⟨rfl, H1.out.1⟩⟩
         case round =>
          obtain ⟨k, hk, rfl, HI⟩ := hrel
          have z3 : wr.cell? ⟨xb, 3, none⟩ = some (.slice TA nt ct) := by rw [cell_of_row wr xb _ _ _ _ ((HI.out.2.block xb (Go.ltA HH.out.1)).trans HH.out.1)]; rfl
          by_cases hkn : k < nt
          · obtain ⟨Ab, cb, e0, hc1, hc2, hrow⟩ := (HH.out.2.2.1.later HH.out.2.1).later HI.out.2
            obtain ⟨rb, o, vk, rfl, hrb, hcell, hsl⟩ := hrow k (by rw [HH.out.2.2.2.2]; exact hkn)
            simp only [Value.slice.injEq] at e0
            obtain ⟨rfl, -, rfl⟩ := e0
            obtain ⟨lk, hlk⟩ : ∃ lk, Tl.getD k [] = lk := ⟨_, rfl⟩
            have hkl : k < Tl.length := by rw [HH.out.2.2.2.2]; exact hkn
            have hge : Tl[k] = lk := by rw [← hlk]; simp [List.getD, hkl]
            have hlm : lk ∈ Tl := by rw [← hge]; exact List.getElem_mem _
            rw [hlk] at hsl
            have CK := beyL_any vk lk 40 wr hsl (HH.out.2.2.2.1 lk hlm) (by omega)
            obtain ⟨g, hgk⟩ : ∃ g, beyL lk 40 = g := ⟨_, rfl⟩
            rw [hgk] at CK
            have hst : ((Tl.take (k + 1)).any fun l => beyL l 40) = g := by
             rw [List.take_add_one, List.any_append, HI.out.1]
             simp [hkl, hge, hgk]
            have CKH := Lib.hid CK
            obtain ⟨Av, cv, rfl⟩ : ∃ A c, vk = .slice A lk.length c := by obtain ⟨A, c, e, -⟩ := hsl; exact ⟨A, c, e⟩
            have hki : (k : Int) < (nt : Int) := by omega
            have HST := Lib.hid (And.intro hst (show g = true → R = true from fun e => by
             rw [HRR.out, ← List.take_append_drop (k + 1) Tl, List.any_append, hst, e]; rfl))
            clear hrow hsl hlm CK hst hgk hge hlk hc1 hc2
            cases g with
            | true =>
              obtain rfl := HST.out.2 rfl
              go_wp2_with fail
              refine CKH.out.mono ?_
              rintro e w2 ⟨rfl, b2⟩
              have HB := Lib.hid (btP HH.out.2.1 (btP HI.out.2 b2))
              clear b2
              go_wp2_with fail
              go_ret
              exact ⟨rfl, HB.out⟩
            | false =>
              go_wp2_with fail
              refine CKH.out.mono ?_
              rintro e w2 ⟨rfl, b2⟩
              have HB := Lib.hid (btP HI.out.2 b2)
              clear b2
              go_wp2_with fail
              go_roundw
              case rel => exact ⟨k + 1, by omega, by simp <;> omega, Lib.hid ⟨HST.out.1, HB.out⟩⟩
              case measure => simp [intOf]; omega
          · obtain rfl : k = nt := by omega
            have hno : R = false := by
             rw [HRR.out]
             have := HI.out.1
             rwa [List.take_of_length_le (by rw [HH.out.2.2.2.2]; exact Nat.le_refl _)] at this
            subst hno
            have HB := Lib.hid (btP HH.out.2.1 HI.out.2)
            go_wp2_with fail
            go_ret
            exact ⟨rfl, HB.out⟩
theorem tabR_full (F T : List UInt8) (R : List (List Ce)) : tabR F T R F T = tabR F T R [] [] := by
 unfold tabR
 congr 1
 funext c
 rw [within_all]
 cases within F T c <;> rfl
theorem tab_nomem (F T : List UInt8) (M TA : Option Addr) (n cap : Nat) (w : World) : ∃ W q W1, w.alloc (.cells #[.string ⟨F.toArray⟩, .string ⟨T.toArray⟩, .pointer M, .slice TA n cap] 31) = W ∧ w.heap.size = q ∧ W.cell? ⟨q, 2, none⟩ = some (.pointer M) ∧ W.frozen? ⟨q, 2, none⟩ = false ∧ W.setCell ⟨q, 2, none⟩ (.pointer none) = W1 ∧
 W1.cell? ⟨q, 0, none⟩ = some (.string ⟨F.toArray⟩) ∧ W1.cell? ⟨q, 1, none⟩ = some (.string ⟨T.toArray⟩) ∧ W1.cell? ⟨q, 2, none⟩ = some (.pointer none) ∧ W1.cell? ⟨q, 3, none⟩ = some (.slice TA n cap) ∧ Below w.heap.size w W1 := by
 obtain ⟨W, q, hW, hq, hqb, nb, c0, c1, c2, c3, cf⟩ := tab_box F T M TA n cap w
 have h1 : (W.setCell ⟨q, 2, none⟩ (.pointer none)).heap[q]? = some (.cells #[.string ⟨F.toArray⟩, .string ⟨T.toArray⟩, .pointer none, .slice TA n cap] 31 (0, 0)) := by rw [heap_setCell_same W q 2 _ _ _ hqb]; rfl
 refine ⟨W, q, _, hW, hq, c2, cf, rfl, ?_, ?_, ?_, ?_, below_set nb (by omega) 2 _⟩ <;> (rw [cell_of_row _ q _ _ _ _ h1]; rfl)
theorem nil_nil (W : World) : (binOp .eql 42 Value.nilFunc Value.nilFunc).run Tryz.prog W = .ok (.bool true) W := by rfl
set_option maxRecDepth 100000 in
set_option maxHeartbeats 4000000 in
theorem tabMergeNil (F T : List UInt8) (M TA : Option Addr) (n cap : Nat) (Ts : List (List Ce)) (w : World) (hT : TabsAt TA n cap Ts w) (hn : n ≤ 10) (hR : ∀ r ∈ Ts, RowOk r) :
 Calls Tryz.prog 13 #[tabVal F T M TA n cap, Value.nilFunc] w fun e w' => Below w.heap.size w w' ∧ ∃ u, e = .returned (.tuple #[u, .int .i64 0]) ∧ w'.ownsRow w.heap.size 38 3 u (tabR F T ([] :: Ts) [] []).length (rowOf (tabR F T ([] :: Ts) [] [])) := by
 obtain ⟨W, q, W1, hW, hq, c2, cf, hW1, d0, d1, d2, d3, B1⟩ := tab_nomem F T M TA n cap w
 have CR := tabRange F T F T none TA n cap [] Ts W1 (.inl ⟨rfl, rfl⟩) (hT.later B1) hn (fun r hr => by
  rcases List.mem_cons.1 hr with rfl | hr
  · exact RowOk.nil
  · exact hR r hr)
 rw [tabR_full] at CR
 have CRH := Lib.hid CR
 have HB := Lib.hid B1
 have hnl := nil_nil
 obtain ⟨res, hres⟩ : ∃ res, tabR F T ([] :: Ts) [] [] = res := ⟨_, rfl⟩
 rw [hres] at CRH ⊢
 unfold tabVal at CRH ⊢
 clear CR hT hR B1 hres
 go_enter Tryz.func13, Tryz.ntmps13
 go_wp2_with fail
 refine CRH.out.mono ?_
 rintro e w2 ⟨b2, u, rfl, own⟩
 have HE := Lib.hid (And.intro (HB.out.trans (b2.mono HB.out.size)) (own.mono HB.out.size))
 obtain ⟨A, c, rfl⟩ := own_slice own
 clear b2 own
 go_wp2_with fail
 refine bodyPost_ret (v := .tuple #[.slice A res.length c, .int .i64 0]) (by simp [results, Tryz.results13, go_sem, *]) rfl ?_
 exact ⟨HE.out.1, _, rfl, HE.out.2⟩
end Go.Proofs.YtoglloafpnopaaaGreat
