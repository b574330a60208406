/- The law TabletsMerge: its walk. -/
import Derived.Test.YtoglloafpnopaaaGreatTlU
import Derived.Test.YtoglloafpnopaaaGreatTlV
set_option linter.unusedSimpArgs false
set_option linter.unusedVariables false
namespace Go.Proofs.YtoglloafpnopaaaGreat
set_option maxRecDepth 16000
open Go.RowKit Spoor
set_option linter.unusedVariables false
set_option linter.unusedSimpArgs false

/-- what the law keeps -/
def keptC (odd : Bool) (l : List Ce) : List Ce := l.filter fun c => oddC c != odd
theorem kept_snoc {odd : Bool} {l : List Ce} {j : Nat} (hj : j < l.length) : keptC odd (l.take (j + 1)) = keptC odd (l.take j) ++ (if oddC (l.getD j Ce.zero) != odd then [l.getD j Ce.zero] else []) := notE_snoc hj
/-- all rows but the first one -/
theorem rows_tail {A : Option Addr} {n c : Nat} {L : List Ce} {Ts : List (List Ce)} {W : World} (h : RowsIn (.slice A n c) (L :: Ts) W) : ∃ b o, A = some ⟨b, o, none⟩ ∧ n = Ts.length + 1 ∧ n ≤ c ∧ c ≤ maxLen ∧ RowsIn (.slice (if c = 1 then some ⟨b, o, none⟩ else some ⟨b, o + 1, none⟩) (n - 1) (c - 1)) Ts W := by
 obtain ⟨Ab, cb, e0, hc1, hc2, hrow⟩ := h
 simp only [Value.slice.injEq] at e0
 obtain ⟨rfl, rfl, rfl⟩ := e0
 rw [List.length_cons] at hc1 ⊢
 obtain ⟨b, o, v, rfl, -, -, -⟩ := hrow 0 (by simp)
 refine ⟨b, o, rfl, rfl, hc1, hc2, _, c - 1, rfl, by omega, by omega, fun k hk => ?_⟩
 obtain ⟨b', o', v', e, h1, h2, h3⟩ := hrow (k + 1) (by rw [List.length_cons]; omega)
 simp only [Option.some.injEq, Addr.mk.injEq, and_true] at e
 obtain ⟨rfl, rfl⟩ := e
 refine ⟨b, o + 1, v', by rw [if_neg (by omega)], h1, by rw [show o + 1 + k = o + (k + 1) by omega]; exact h2, h3⟩
/-- the reference's rows stored -/
theorem ref_set2 {F T : List UInt8} {M A A2 A' : Option Addr} {n c n2 c2 n' c' q g : Nat} {w W : World} (hm : W.heap[q]? = some (.cells #[.string ⟨F.toArray⟩, .string ⟨T.toArray⟩, .pointer M, .slice A n c] 31 (0, 0)))
 (hr : W.heap[g]? = some (.cells #[.string ⟨F.toArray⟩, .string ⟨T.toArray⟩, .slice A2 n2 c2] 33 (0, 0))) (hb : Below w.heap.size w W) (hq : q ≠ g) (hg : w.heap.size ≤ g) :
 ∃ V, W.setCell ⟨g, 2, none⟩ (.slice A' n' c') = V ∧ V.heap[q]? = some (.cells #[.string ⟨F.toArray⟩, .string ⟨T.toArray⟩, .pointer M, .slice A n c] 31 (0, 0)) ∧
  V.heap[g]? = some (.cells #[.string ⟨F.toArray⟩, .string ⟨T.toArray⟩, .slice A' n' c'] 33 (0, 0)) ∧ Below w.heap.size w V :=
 ⟨_, rfl, (Below.heap_setCell _ ⟨g, 2, none⟩ _ q hq).trans hm, by rw [heap_setCell_same W g 2 _ _ _ hr]; rfl, below_set hb hg 2 _⟩
set_option maxRecDepth 100000 in
set_option maxHeartbeats 4000000 in
theorem tabletsMerge_law (w : World) (F T : List UInt8) (MA : Option Addr) (nm cm : Nat) (TA : Option Addr) (nt ct : Nat) (lm : List Ce) (Tl : List (List Ce)) (odd : Bool) (hM : SlAt (.slice MA nm cm) lm w) (hT : RowsIn (.slice TA nt ct) Tl w) (wm : ∀ c ∈ lm, WfC c) (wT : ∀ l ∈ Tl, ∀ c ∈ l, WfC c) :
 Calls Tryz.prog 3 #[dataVal F T MA nm cm TA nt ct, .bool odd] w fun e w' => e = .returned (.bool true) ∧ Below w.heap.size w w' := by
 obtain ⟨xb, W0, hxb, hW0, hx0, nb0, sz0⟩ := new_data F T MA TA nm cm nt ct w
 obtain ⟨x0, x1, x2, x3⟩ := data_cells hx0
 have CB := Lib.hid (beyD_any F T MA nm cm TA nt ct lm Tl W0 (hM.later nb0) (hT.later nb0) wm wT)
 obtain ⟨R, hR⟩ : ∃ R, beyD F T lm Tl = R := ⟨_, rfl⟩
 rw [hR] at CB
 have HR := Lib.hid hR
 have HD := Lib.hid (And.intro (hM.later nb0) (And.intro (hT.later nb0) (And.intro wm (And.intro wT (And.intro hx0 nb0)))))
 clear hM hT wm wT hx0 nb0 hR
 unfold dataVal at CB ⊢
 cases R with
 | true =>
   go_enter Tryz.func3, Tryz.ntmps3
   go_wp2_with fail
   refine CB.out.mono ?_
   rintro e w1 ⟨rfl, b1⟩
   have HB := Lib.hid (btP HD.out.2.2.2.2.2 b1)
   clear b1 CB
   go_wp2_with fail
   refine (lives_true _).mono ?_
   rintro e w2 ⟨rfl, b2⟩
   have HB2 := Lib.hid (btP HB.out b2)
   clear b2
   go_wp2_with fail
   go_ret
   exact ⟨rfl, HB2.out⟩
 | false =>
   go_enter Tryz.func3, Tryz.ntmps3
   go_wp2_with fail
   refine CB.out.mono ?_
   rintro e w1 ⟨rfl, b1⟩
   have hx1 := (b1.block xb (Array.getElem?_eq_some_iff.1 HD.out.2.2.2.2.1).1).trans HD.out.2.2.2.2.1
   obtain ⟨y0, y1, y2, y3⟩ := data_cells hx1
   have hNo := beyD_no HR.out HD.out.2.2.1 HD.out.2.2.2.1
   have CM := Lib.hid (made_any F T MA nm cm TA nt ct lm Tl w1 (HD.out.1.later b1) (HD.out.2.1.later b1) hNo.2.2)
   obtain ⟨L, hL⟩ : ∃ L, putsC [] lm = L := ⟨_, rfl⟩
   obtain ⟨Ts, hTs⟩ : ∃ Ts, Tl.map (putsC []) = Ts := ⟨_, rfl⟩
   have hRw := data_rows hNo.2.2
   rw [hL, hTs] at CM hRw
   have HW := Lib.hid (And.intro (fun r (hr : r ∈ L :: Ts) => (hRw.1 r hr).1) (And.intro (fun r (hr : r ∈ Ts) => hRw.1 r (List.mem_cons_of_mem _ hr)) (And.intro hRw.2 (And.intro hNo.1 hNo.2.1))))
   have HB := Lib.hid (btP HD.out.2.2.2.2.2 b1)
   have HX1 := Lib.hid hx1
   unfold dataVal tabVal rvVal at CM
   clear b1 CB hx1 hNo hL hTs hRw
   go_wp2_with fail
   refine CM.out.mono ?_
   rintro e w2 ⟨p, fs, A, n, c, A2, n2, c2, rfl, hMm, hTt, hRr, b2⟩
   obtain ⟨b1, W5, W6, W7, W8, hb1, hW5, sz5, hW6, ⟨z0, z1, z2, z3⟩, zf, hW7, ⟨o0, o1, o2⟩, of, hW8, q8, r8, nb8, sz8⟩ := boxes2 F T (some ⟨p, 0, none⟩) A A2 n c n2 c2 w2
   obtain ⟨t0, t1, t2, t3⟩ := tab_cells q8
   have HX8 := Lib.hid (nb8.block xb (Nat.lt_of_lt_of_le (Array.getElem?_eq_some_iff.1 HX1.out).1 b2.size))
   have HT := Lib.hid (And.intro hTt (And.intro hRr (And.intro (btP HB.out b2) (And.intro (show n ≤ 10 by have := hTt.1; have := HW.out.2.2.1; omega) (And.intro q8 (And.intro r8 nb8))))))
   clear hMm hTt hRr b2 nb8 q8 r8 CM HX1 HX8
   obtain ⟨rb, ro, hA2, hn2, hc2, hcm, hRT⟩ := rows_tail HT.out.2.1
   subst hA2
   have h1n : 1 ≤ n2 := by omega
   have h1i : (1 : Int) ≤ (n2 : Int) := by omega
   have hic2 : (n2 : Int) ≤ (c2 : Int) := by omega
   have h1c : (1 : Int) ≤ (c2 : Int) := by omega
   clear hn2
   obtain ⟨A9, hA9⟩ : ∃ A9 : Option Addr, (if c2 = 1 then some ⟨rb, ro, none⟩ else some ⟨rb, ro + 1, none⟩) = A9 := ⟨_, rfl⟩
   rw [hA9] at hRT
   obtain ⟨W9, hW9, m9, r9, nb9⟩ := ref_set2 (A' := A9) (n' := n2 - 1) (c' := c2 - 1) HT.out.2.2.2.2.1 HT.out.2.2.2.2.2.1 HT.out.2.2.2.2.2.2 (show b1 ≠ b1 + 1 by omega) (show w2.heap.size ≤ b1 + 1 by omega)
   have hrf : W8.frozen? ⟨b1 + 1, 2, none⟩ = false := by simp [World.frozen?, HT.out.2.2.2.2.2.1]
   obtain ⟨s0, s1, s2⟩ := ref_cells HT.out.2.2.2.2.2.1
   obtain ⟨t90, t91, t92⟩ := ref_cells r9
   have H9 := Lib.hid (And.intro m9 (And.intro nb9 (hRT.later nb9)))
   have hfl : Ts.flatten.length ≤ 50000 := by
    have h3 := sum_le (R := Ts) (m := 40) fun r hr => (HW.out.2.1 r hr).2
    rw [List.length_flatten]
    have := HW.out.2.2.1
    exact Nat.le_trans h3 (by omega)
   have CR := refRange19_any F T [] [] A9 (n2 - 1) (c2 - 1) Ts W9 H9.out.2.2 hfl
   have hone : tabR F T ([] :: Ts) [] [] = tabR F T Ts [] [] := rfl
   obtain ⟨all, hall⟩ : ∃ all, tabR F T Ts [] [] = all := ⟨_, rfl⟩
   rw [hall] at CR
   have hal : all.length ≤ 50000 := by
    have h1 := tabR_length F T Ts [] []
    rw [hall, ← List.length_flatten] at h1
    omega
   have HAL := Lib.hid (show tabR F T ([] :: Ts) [] [] = all ∧ all.length ≤ 50000 ∧ (tabR F T ([] :: Ts) [] []).length ≤ 100000 from ⟨hone.trans hall, hal, by rw [hone, hall]; omega⟩)
   have HCR := Lib.hid CR
   unfold rvVal at HCR
   clear hRT m9 r9 nb9 hfl CR hone hall hal
   unfold maxLen at hcm
   go_upto_region 7 with fail
   clear z0 z1 z2 z3 zf o0 o1 o2 of hW5 hW6 hW7 hW8 sz5 hb1 x0 x1 x2 x3 y0 y1 y2 y3 hxb hW0 sz0
   clear t0 t1 t2 t3 hrf s0 s1 s2 hA9 hW9
   go_wp2_with fail
   refine HCR.out.mono ?_
   rintro e v2 ⟨k2, u2, rfl, own2⟩
   have s2 := slAt_own own2
   obtain ⟨Aa, ca, rfl⟩ := own_slice own2
   have m2 := (k2.block _ (Array.getElem?_eq_some_iff.1 H9.out.1).1).trans H9.out.1
   have HS2 := Lib.hid (And.intro s2 (And.intro m2 (H9.out.2.1.trans (k2.mono H9.out.2.1.size))))
   obtain ⟨N, hN⟩ : ∃ N, all.length = N := ⟨_, rfl⟩
   have HN := Lib.hid hN
   have hNb : N ≤ 50000 := by rw [← hN]; exact HAL.out.2.1
   rw [hN]
   clear own2 s2 k2 m2 HCR hN t90 t91 t92
   go_wp2_with fail
   go_loopw [9, 10] (fun sv iv wr => ∃ k : Nat, k ≤ N ∧ iv = .int .i64 k ∧ (∃ An cn, sv = .slice An (keptC odd (all.take k)).length cn) ∧ Hid (wr.ownsRow v2.heap.size 38 3 sv (keptC odd (all.take k)).length (rowOf (keptC odd (all.take k))) ∧ Below v2.heap.size v2 wr)) (fun _ iv _ => N - (intOf iv).toNat)
   case atStart => exact ⟨0, by omega, rfl, ⟨none, 0, rfl⟩, Lib.hid ⟨World.ownsRow_nil _ _ _ _, Below.refl _ _⟩⟩
   case round =>
    obtain ⟨k, hk, rfl, ⟨An, cn, rfl⟩, HI⟩ := hrel
    by_cases hkn : k < N
    · have hkl : k < all.length := by rw [HN.out]; exact hkn
      have hst := kept_snoc (odd := odd) hkl
      obtain ⟨Ab, cb, e0, hc1, hc2', hrow⟩ := HS2.out.1
      simp only [Value.slice.injEq] at e0
      obtain ⟨rfl, -, rfl⟩ := e0
      obtain ⟨bb, o, rfl, hrw⟩ := hrow (by omega)
      have hrw := hrw.later HI.out.2 hrw.1
      obtain ⟨x0, x1, x2⟩ := hrw.cells hkl
      obtain ⟨cc, hcc⟩ : ∃ cc, all.getD k Ce.zero = cc := ⟨_, rfl⟩
      rw [hcc] at hst x0 x1 x2
      obtain ⟨mm, hmm⟩ : ∃ mm, (keptC odd (all.take k)) = mm := ⟨_, rfl⟩
      rw [hmm] at hst HI ⊢
      have hml : mm.length ≤ 50000 := by rw [← hmm]; unfold keptC; refine Nat.le_trans (List.length_filter_le _ _) (Nat.le_trans (List.length_take_le _ _) ?_); omega
      have HST : True := trivial
      have hki : (k : Int) < (N : Int) := by omega
      have hbl : bb < wr.heap.size := hrw.1
      clear hrow hrw hcc hmm hc1 hc2'
      by_cases hq : cc.q.tmod 2 = 0
      · have ho : oddC cc = false := by simp [oddC, hq]
        have e1 : (cc.q.tmod 2 != 0) = false := by simp [hq]
        have e3 : (cc.q.tmod 2 == 0) = true := by simp [hq]
        rw [ho] at hst
        cases odd with
        | true =>
          simp only [Bool.false_bne, if_true] at hst
          have nbx := (Below.refl wr.heap.size wr).alloc (Nat.le_refl _) (.cells (rowOf [cc]).toArray 38)
          have sx := new_sl [cc] wr (by simp)
          have hb2 := HI.out.2.size
          obtain ⟨v7, w7, run7, own7, b7⟩ := run_append_sl (l := mm) (m := [cc]) (own_lat HI.out.1 nbx) (Nat.le_trans hb2 nbx.size) sx (by simp; omega)
          rw [← hst] at own7
          have B7 := HI.out.2.trans ((nbx.mono hb2).trans b7)
          obtain ⟨A7, c7, rfl⟩ := own_slice own7
          have HF := Lib.hid (And.intro own7 B7)
          have R7 := Lib.hid run7
          clear hst nbx sx run7 own7 B7 b7 HST
          unfold rowOf ceRow at R7
          simp only [List.flatMap_cons, List.flatMap_nil, List.append_nil, List.length_singleton] at R7
          go_wp2_with (at_builtin; refine wpList_append_runE _ rfl _ _ 22 22 rfl _ _ rfl rfl R7.out ?_)
          go_roundw
          case rel => exact ⟨k + 1, by omega, by simp <;> omega, ⟨A7, c7, rfl⟩, Lib.hid HF.out⟩
          case measure => simp [intOf]; omega
        | false =>
          simp only [bne_self_eq_false, Bool.false_eq_true, if_false, List.append_nil] at hst
          have HF := Lib.hid hst
          clear hst HST
          go_wp2_with fail
          go_roundw
          case rel => exact ⟨k + 1, by omega, by simp <;> omega, ⟨An, cn, by rw [HF.out]⟩, Lib.hid (by rw [HF.out]; exact HI.out)⟩
          case measure => simp [intOf]; omega
      · have ho : oddC cc = true := by simp [oddC, hq]
        have e1 : (cc.q.tmod 2 != 0) = true := by simp [hq]
        have e3 : (cc.q.tmod 2 == 0) = false := by simp [hq]
        rw [ho] at hst
        cases odd with
        | true =>
          simp only [bne_self_eq_false, Bool.false_eq_true, if_false, List.append_nil] at hst
          have HF := Lib.hid hst
          clear hst HST
          go_wp2_with fail
          go_roundw
          case rel => exact ⟨k + 1, by omega, by simp <;> omega, ⟨An, cn, by rw [HF.out]⟩, Lib.hid (by rw [HF.out]; exact HI.out)⟩
          case measure => simp [intOf]; omega
        | false =>
          simp only [Bool.true_bne, Bool.not_false, if_true] at hst
          have nbx := (Below.refl wr.heap.size wr).alloc (Nat.le_refl _) (.cells (rowOf [cc]).toArray 38)
          have sx := new_sl [cc] wr (by simp)
          have hb2 := HI.out.2.size
          obtain ⟨v7, w7, run7, own7, b7⟩ := run_append_sl (l := mm) (m := [cc]) (own_lat HI.out.1 nbx) (Nat.le_trans hb2 nbx.size) sx (by simp; omega)
          rw [← hst] at own7
          have B7 := HI.out.2.trans ((nbx.mono hb2).trans b7)
          obtain ⟨A7, c7, rfl⟩ := own_slice own7
          have HF := Lib.hid (And.intro own7 B7)
          have R7 := Lib.hid run7
          clear hst nbx sx run7 own7 B7 b7 HST
          unfold rowOf ceRow at R7
          simp only [List.flatMap_cons, List.flatMap_nil, List.append_nil, List.length_singleton] at R7
          go_wp2_with (at_builtin; refine wpList_append_runE _ rfl _ _ 22 22 rfl _ _ rfl rfl R7.out ?_)
          go_roundw
          case rel => exact ⟨k + 1, by omega, by simp <;> omega, ⟨A7, c7, rfl⟩, Lib.hid HF.out⟩
          case measure => simp [intOf]; omega
    · obtain rfl : k = N := by omega
      obtain ⟨V0, rfl⟩ : ∃ V0, V0 = wr := ⟨_, rfl⟩
      have own := HI.out.1
      have htk : all.take k = all := List.take_of_length_le (by rw [HN.out]; exact Nat.le_refl _)
      rw [htk] at own ⊢
      have sw := slAt_own own
      have hb2 := HI.out.2
      have mW := (hb2.block _ (Array.getElem?_eq_some_iff.1 HS2.out.2.1).1).trans HS2.out.2.1
      obtain ⟨t0, t1, t2, t3⟩ := tab_cells mW
      have hki : ¬ (k : Int) < (k : Int) := by omega
      have B8 := HS2.out.2.2.trans (hb2.mono HS2.out.2.2.size)
      have CM := tabMergeNil F T (some ⟨p, 0, none⟩) A n c Ts V0 (HT.out.1.later B8) HT.out.2.2.2.1 (fun r hr => (HW.out.2.1 r hr).1)
      rw [HAL.out.1] at CM
      have HCM := Lib.hid CM
      have hsa := HS2.out.1
      rw [HN.out] at HCM
      have HV := Lib.hid (And.intro (hsa.later hb2) (And.intro sw (And.intro mW B8)))
      unfold tabVal at HCM
      clear own sw hb2 mW B8 CM HI htk hsa
      go_upto_region 15 with (go_at_call 13; refine HCM.out.mono ?_; rintro e y1 ⟨k1, u1, rfl, own1⟩)
      have s1 := slAt_own (by rw [HN.out]; exact own1)
      obtain ⟨A4, c4, rfl⟩ := own_slice own1
      have m1 := (k1.block _ (Array.getElem?_eq_some_iff.1 HV.out.2.2.1).1).trans HV.out.2.2.1
      obtain ⟨i0, i1, i2, i3⟩ := tab_cells m1
      have HY := Lib.hid (And.intro s1 (And.intro (HV.out.1.later k1) (And.intro (HV.out.2.1.later k1) (And.intro m1 (HV.out.2.2.2.trans (k1.mono HV.out.2.2.2.size))))))
      clear t0 t1 t2 t3 s1 own1 m1 k1 HCM
      cases odd with
      | true =>
        have e9 : keptC true all = all.filter fun c => !oddC c := by
         unfold keptC
         congr 1
         funext c
         cases h : oddC c <;> simp [h]
        have E9 := Lib.hid e9
        clear e9
        go_wp2_with fail
        have CD := tabMergeOdd F T (some ⟨p, 0, none⟩) A n c Ts y1 (HT.out.1.later HY.out.2.2.2.2) HT.out.2.2.2.1 (fun r hr => (HW.out.2.1 r hr).1) HAL.out.2.2
        rw [HAL.out.1] at CD
        have HCD := Lib.hid CD
        unfold tabVal at HCD
        clear CD
        go_wp2_with (go_at_call 13; refine HCD.out.mono ?_; rintro e y2 ⟨k2, u2, rfl, s2⟩; obtain ⟨A5, c5, rfl⟩ : ∃ A c, u2 = .slice A (all.filter fun c => !oddC c).length c := (by obtain ⟨A, c, e, -⟩ := s2; exact ⟨A, c, e⟩); have S1 := Lib.hid (And.intro (HY.out.1.later k2) (And.intro (HY.out.2.1.later k2) (And.intro s2 (And.intro (HY.out.2.2.1.later k2) (HY.out.2.2.2.2.trans (k2.mono HY.out.2.2.2.2.size)))))); clear k2 s2 HCD)
        have CS := sameT_any _ _ all all y2 S1.out.1 S1.out.2.1
        rw [decide_eq_true rfl, HN.out] at CS
        have HCS := Lib.hid CS
        clear CS
        go_wp2_with fail
        refine HCS.out.mono ?_
        rintro e y3 ⟨rfl, k3⟩
        have CS := sameT_any _ _ _ _ y3 (S1.out.2.2.1.later k3) (S1.out.2.2.2.1.later k3)
        rw [decide_eq_true E9.out.symm] at CS
        have HCS2 := Lib.hid CS
        have HB3 := Lib.hid (S1.out.2.2.2.2.trans (k3.mono S1.out.2.2.2.2.size))
        clear CS k3 HCS E9
        go_wp2_with fail
        refine HCS2.out.mono ?_
        rintro e y4 ⟨rfl, k4⟩
        have HB4 := Lib.hid (btP HT.out.2.2.1 (HB3.out.trans (k4.mono HB3.out.size)))
        clear k4 HCS2
        go_wp2_with fail
        refine (lives_true _).mono ?_
        rintro e y5 ⟨rfl, k5⟩
        have HB5 := Lib.hid (btP HB4.out k5)
        clear k5
        go_wp2_with fail
        go_ret
        exact ⟨rfl, HB5.out⟩
      | false =>
        have e9 : keptC false all = all.filter fun c => !evenC c := by
         unfold keptC
         congr 1
         funext c
         cases h : oddC c <;> simp [evenC, h]
        have E9 := Lib.hid e9
        clear e9
        go_wp2_with fail
        have CD := tabMergeEven F T (some ⟨p, 0, none⟩) A n c Ts y1 (HT.out.1.later HY.out.2.2.2.2) HT.out.2.2.2.1 (fun r hr => (HW.out.2.1 r hr).1) HAL.out.2.2
        rw [HAL.out.1] at CD
        have HCD := Lib.hid CD
        unfold tabVal at HCD
        clear CD
        go_wp2_with (go_at_call 13; refine HCD.out.mono ?_; rintro e y2 ⟨k2, u2, rfl, s2⟩; obtain ⟨A5, c5, rfl⟩ : ∃ A c, u2 = .slice A (all.filter fun c => !evenC c).length c := (by obtain ⟨A, c, e, -⟩ := s2; exact ⟨A, c, e⟩); have S1 := Lib.hid (And.intro (HY.out.1.later k2) (And.intro (HY.out.2.1.later k2) (And.intro s2 (And.intro (HY.out.2.2.1.later k2) (HY.out.2.2.2.2.trans (k2.mono HY.out.2.2.2.2.size)))))); clear k2 s2 HCD)
        have CS := sameT_any _ _ all all y2 S1.out.1 S1.out.2.1
        rw [decide_eq_true rfl, HN.out] at CS
        have HCS := Lib.hid CS
        clear CS
        go_wp2_with fail
        refine HCS.out.mono ?_
        rintro e y3 ⟨rfl, k3⟩
        have CS := sameT_any _ _ _ _ y3 (S1.out.2.2.1.later k3) (S1.out.2.2.2.1.later k3)
        rw [decide_eq_true E9.out.symm] at CS
        have HCS2 := Lib.hid CS
        have HB3 := Lib.hid (S1.out.2.2.2.2.trans (k3.mono S1.out.2.2.2.2.size))
        clear CS k3 HCS E9
        go_wp2_with fail
        refine HCS2.out.mono ?_
        rintro e y4 ⟨rfl, k4⟩
        have HB4 := Lib.hid (btP HT.out.2.2.1 (HB3.out.trans (k4.mono HB3.out.size)))
        clear k4 HCS2
        go_wp2_with fail
        refine (lives_true _).mono ?_
        rintro e y5 ⟨rfl, k5⟩
        have HB5 := Lib.hid (btP HB4.out k5)
        clear k5
        go_wp2_with fail
        go_ret
        exact ⟨rfl, HB5.out⟩
end Go.Proofs.YtoglloafpnopaaaGreat
