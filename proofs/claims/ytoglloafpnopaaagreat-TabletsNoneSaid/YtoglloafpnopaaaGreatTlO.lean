/- The law TabletsNone: its walk. -/
import Derived.Test.YtoglloafpnopaaaGreatMgA
import Derived.Test.YtoglloafpnopaaaGreatTlL
set_option linter.unusedSimpArgs false
set_option linter.unusedVariables false
namespace Go.Proofs.YtoglloafpnopaaaGreat
set_option maxRecDepth 16000
open Go.RowKit Spoor
set_option linter.unusedVariables false
set_option linter.unusedSimpArgs false

theorem tabR_empty {F T x y : List UInt8} {R : List (List Ce)} (h : ∀ r ∈ R, r = []) : tabR F T R x y = [] := by
  have hf : R.flatten = [] := List.flatten_eq_nil_iff.2 h
  unfold tabR newR keysR
  rw [hf]
  rfl
theorem getT_empty {F T key : List UInt8} {R : List (List Ce)} (h : ∀ r ∈ R, r = []) : getT F T R key = none := by
  have hf : R.flatten = [] := List.flatten_eq_nil_iff.2 h
  unfold getT bestR
  rw [hf]
  simp [bestF]
theorem compactNil (w : World) : Calls Tryz.prog 57 #[.slice none 0 0] w fun e w' => e = .returned (.slice none 0 0) ∧ w = w' := by
  go_enter Tryz.func57, Tryz.ntmps57
  go_wp2_with fail
  go_ret
  exact ⟨rfl, rfl⟩
set_option maxRecDepth 100000 in
set_option maxHeartbeats 4000000 in
theorem middleNil (F T : List UInt8) (M TA : Option Addr) (n cap : Nat) (L : List Ce) (Ts : List (List Ce)) (w : World) (hM : MemPtr M L w) (hT : TabsAt TA n cap Ts w) (hn : n ≤ 10) (hR : ∀ r ∈ L :: Ts, RowOk r) (h0 : tabR F T (L :: Ts) F T = []) :
    Calls Tryz.prog 23 #[tabVal F T M TA n cap] w fun e w' => e = .returned (.tuple #[.string ⟨#[]⟩, .bool false]) ∧ Below w.heap.size w w' := by
  obtain ⟨W, q, hW, hq, hqb, nb, c0, c1, c2, c3, cf⟩ := tab_box F T M TA n cap w
  have CR := tabRange F T F T M TA n cap L Ts W (hM.later nb) (hT.later nb) hn hR
  rw [h0] at CR
  have CRH := Lib.hid CR
  have HB := Lib.hid nb
  unfold tabVal at CRH ⊢
  clear CR hT hM hR h0 nb hn
  go_enter Tryz.func23, Tryz.ntmps23
  go_wp2_with fail
  refine CRH.out.mono ?_
  rintro e w2 ⟨b2, u, rfl, own⟩
  have HB2 := Lib.hid (btP HB.out b2)
  obtain ⟨A, c, rfl⟩ := own_slice own
  simp only [List.length_nil]
  clear b2 own CRH
  go_wp2_with fail
  go_loopw [6, 24] (fun sv iv wr => sv = .slice none 0 0 ∧ iv = .int .i64 0 ∧ w2 = wr) (fun _ _ _ => 0)
  case atStart => exact ⟨rfl, rfl, rfl⟩
  case round =>
    obtain ⟨rfl, rfl, rfl⟩ := hrel
    go_wp2_with fail
    refine (compactNil _).mono ?_
    rintro e w3 ⟨rfl, rfl⟩
    go_wp2_with fail
    refine bodyPost_ret (v := .tuple #[.string ⟨#[]⟩, .bool false]) (by simp [results, Tryz.results23, go_sem, *]) rfl ?_
    exact ⟨rfl, HB2.out⟩
theorem zero_neq (W : World) : (binOp .neq 38 (.agg #[.string ⟨#[]⟩, .int .i64 0, .string ⟨#[]⟩]) (.agg #[.string ⟨#[]⟩, .int .i64 0, .string ⟨#[]⟩])).run Tryz.prog W = .ok (.bool false) W := neq_ce Ce.zero Ce.zero W
theorem tab_new (F T : List UInt8) (w : World) : ∃ tb Wa Wb, w.heap.size = tb ∧ w.alloc (.cells #[.string ⟨#[]⟩, .string ⟨#[]⟩, .pointer none, .slice none 0 0] 31) = Wa ∧
    (Wa.cell? ⟨tb, 0, none⟩ = some (.string ⟨#[]⟩) ∧ Wa.cell? ⟨tb, 1, none⟩ = some (.string ⟨#[]⟩) ∧ Wa.cell? ⟨tb, 2, none⟩ = some (.pointer none) ∧ Wa.cell? ⟨tb, 3, none⟩ = some (.slice none 0 0)) ∧ (∀ j, Wa.frozen? ⟨tb, j, none⟩ = false) ∧
    (((Wa.setCell ⟨tb, 0, none⟩ (.string ⟨F.toArray⟩)).setCell ⟨tb, 1, none⟩ (.string ⟨T.toArray⟩)).setCell ⟨tb, 2, none⟩ (.pointer none)).setCell ⟨tb, 3, none⟩ (.slice none 0 0) = Wb ∧
    Wb.heap[tb]? = some (.cells #[.string ⟨F.toArray⟩, .string ⟨T.toArray⟩, .pointer none, .slice none 0 0] 31 (0, 0)) ∧ Below w.heap.size w Wb ∧ Wb.heap.size = tb + 1 := by
  obtain ⟨tb, htb⟩ : ∃ tb, w.heap.size = tb := ⟨_, rfl⟩
  obtain ⟨Wa, hWa, h5, nb5, sz5, -⟩ := new_tab w tb htb
  have q6 := set4 (a' := .string ⟨F.toArray⟩) (b' := .string ⟨T.toArray⟩) (c' := .pointer none) (d' := .slice none 0 0) h5
  refine ⟨tb, Wa, _, htb, hWa, tab_cells0 h5, fun j => by simp [World.frozen?, h5], rfl, q6, below_set (below_set (below_set (below_set nb5 (by omega) 0 _) (by omega) 1 _) (by omega) 2 _) (by omega) 3 _, ?_⟩
  simp only [World.size_setCell]
  exact sz5
theorem tab_fill (F T : List UInt8) (tb p : Nat) (fs : List Nat) (w : World) (h : w.heap[tb]? = some (.cells #[.string ⟨F.toArray⟩, .string ⟨T.toArray⟩, .pointer none, .slice none 0 0] 31 (0, 0))) (hm : Mem p [] fs w) : ∃ Vc sb Vd Ve,
    w.cell? ⟨tb, 2, none⟩ = some (.pointer none) ∧ w.frozen? ⟨tb, 2, none⟩ = false ∧ w.setCell ⟨tb, 2, none⟩ (.pointer (some ⟨p, 0, none⟩)) = Vc ∧ Vc.heap.size = sb ∧ Vc.alloc (.cells #[.pointer none, .pointer none] 47) = Vd ∧
    Vd.cell? ⟨tb, 3, none⟩ = some (.slice none 0 0) ∧ Vd.frozen? ⟨tb, 3, none⟩ = false ∧ Vd.setCell ⟨tb, 3, none⟩ (.slice (some ⟨sb, 0, none⟩) 2 2) = Ve ∧
    Ve.heap[tb]? = some (.cells #[.string ⟨F.toArray⟩, .string ⟨T.toArray⟩, .pointer (some ⟨p, 0, none⟩), .slice (some ⟨sb, 0, none⟩) 2 2] 31 (0, 0)) ∧ MemPtr (some ⟨p, 0, none⟩) [] Ve ∧ TabsAt (some ⟨sb, 0, none⟩) 2 2 [[], []] Ve ∧ (∀ W0 : World, W0.heap.size ≤ tb → Below W0.heap.size W0 w → Below W0.heap.size W0 Ve) := by
  have k1 : ∀ k, k ≠ tb → (w.setCell ⟨tb, 2, none⟩ (.pointer (some ⟨p, 0, none⟩))).heap[k]? = w.heap[k]? := fun k hk => Below.heap_setCell _ ⟨tb, 2, none⟩ _ k hk
  have h1 : (w.setCell ⟨tb, 2, none⟩ (.pointer (some ⟨p, 0, none⟩))).heap[tb]? = some (.cells #[.string ⟨F.toArray⟩, .string ⟨T.toArray⟩, .pointer (some ⟨p, 0, none⟩), .slice none 0 0] 31 (0, 0)) := by rw [heap_setCell_same w tb 2 _ _ _ h]; rfl
  have s1 : (w.setCell ⟨tb, 2, none⟩ (.pointer (some ⟨p, 0, none⟩))).heap.size = w.heap.size := by simp only [World.size_setCell]
  have a1 : Aside tb w := ⟨_, _, h, .inr (.inr (.inl rfl)), fun x A n c e => by cases e.2⟩
  have hm1 := hm.asf (W' := w.setCell ⟨tb, 2, none⟩ (.pointer (some ⟨p, 0, none⟩))) ⟨by omega, fun k hk hn => k1 k fun e => hn (e ▸ a1)⟩
  obtain ⟨Vc, hVc⟩ : ∃ Vc, w.setCell ⟨tb, 2, none⟩ (.pointer (some ⟨p, 0, none⟩)) = Vc := ⟨_, rfl⟩
  have bc : ∀ W0 : World, W0.heap.size ≤ tb → Below W0.heap.size W0 w → Below W0.heap.size W0 Vc := fun W0 l b => hVc ▸ below_set b l 2 _
  rw [hVc] at k1 h1 s1 hm1
  have hx := heap_alloc_new Vc (.cells #[.pointer none, .pointer none] 47)
  have nbX := (Below.refl Vc.heap.size Vc).alloc (Nat.le_refl _) (.cells #[.pointer none, .pointer none] 47)
  have szX : (Vc.alloc (.cells #[.pointer none, .pointer none] 47)).heap.size = Vc.heap.size + 1 := World.size_alloc _ _
  obtain ⟨Vd, hVd⟩ : ∃ Vd, Vc.alloc (.cells #[.pointer none, .pointer none] 47) = Vd := ⟨_, rfl⟩
  rw [hVd] at hx nbX szX
  obtain ⟨sb, hsb⟩ : ∃ sb, Vc.heap.size = sb := ⟨_, rfl⟩
  rw [hsb] at hx szX
  have lt1 := (Array.getElem?_eq_some_iff.1 h1).1
  have h2 := (nbX.block tb lt1).trans h1
  have k3 : ∀ k, k ≠ tb → (Vd.setCell ⟨tb, 3, none⟩ (.slice (some ⟨sb, 0, none⟩) 2 2)).heap[k]? = Vd.heap[k]? := fun k hk => Below.heap_setCell _ ⟨tb, 3, none⟩ _ k hk
  have h3 : (Vd.setCell ⟨tb, 3, none⟩ (.slice (some ⟨sb, 0, none⟩) 2 2)).heap[tb]? = some (.cells #[.string ⟨F.toArray⟩, .string ⟨T.toArray⟩, .pointer (some ⟨p, 0, none⟩), .slice (some ⟨sb, 0, none⟩) 2 2] 31 (0, 0)) := by rw [heap_setCell_same Vd tb 3 _ _ _ h2]; rfl
  have s3 : (Vd.setCell ⟨tb, 3, none⟩ (.slice (some ⟨sb, 0, none⟩) 2 2)).heap.size = Vd.heap.size := by simp only [World.size_setCell]
  have a2 : Aside tb Vd := ⟨_, _, h2, .inr (.inr (.inl rfl)), fun x A n c e => by cases e.2⟩
  have hs := (k3 sb (by omega)).trans hx
  refine ⟨Vc, sb, Vd, _, (tab_cells h).2.2.1, by simp [World.frozen?, h], hVc, hsb, hVd, (tab_cells h2).2.2.2, by simp [World.frozen?, h2], rfl, h3, .inr ⟨p, fs, rfl, (hm1.later nbX).asf ⟨by omega, fun k hk hn => k3 k fun e => hn (e ▸ a2)⟩⟩, ⟨rfl, Nat.le_refl _, by unfold maxLen; omega, fun k hk => ?_⟩, fun W0 l b => below_set (btP (bc W0 l b) nbX) l 3 _⟩
  refine ⟨sb, 0, none, rfl, (Array.getElem?_eq_some_iff.1 hs).1, ?_, ?_⟩
  · rw [cell_of_row _ sb _ _ _ _ hs]
    match k, hk with
    | 0, _ => rfl
    | 1, _ => rfl
  · match k, hk with
    | 0, _ => exact .inl ⟨rfl, rfl⟩
    | 1, _ => exact .inl ⟨rfl, rfl⟩
set_option maxRecDepth 100000 in
set_option maxHeartbeats 4000000 in
theorem tabletsNone_law (from' to' key : ByteArray) (hf : from'.size ≤ 140737488351232) (ht : to'.size ≤ 140737488351232) (hkey : key.size ≤ 140737488351232) (w : World) :
    Calls Tryz.prog 8 #[.string from', .string to', .string key] w fun e w' => e = .returned (.bool true) ∧ Below w.heap.size w w' := by
  have es : key = ⟨key.data.toList.toArray⟩ := by cases key; simp
  rw [es] at hkey ⊢
  rw [size_of] at hkey
  generalize key.data.toList = ky at *
  clear es
  have es : from' = ⟨from'.data.toList.toArray⟩ := by cases from'; simp
  rw [es] at hf ⊢
  rw [size_of] at hf
  generalize from'.data.toList = F at *
  clear es
  have es : to' = ⟨to'.data.toList.toArray⟩ := by cases to'; simp
  rw [es] at ht ⊢
  rw [size_of] at ht
  generalize to'.data.toList = T at *
  clear es
  by_cases h1 : (100 : Int) < (F.length : Int)
  · by_cases h2 : (100 : Int) < (T.length : Int)
    · by_cases h3 : (100 : Int) < (ky.length : Int)
      · go_enter Tryz.func8, Tryz.ntmps8
        go_wp2_with fail
        refine (lives_true _).mono ?_
        rintro e w2 ⟨rfl, b2⟩
        have HB2 := Lib.hid b2
        clear b2
        go_wp2_with fail
        go_ret
        exact ⟨rfl, HB2.out⟩
      · go_enter Tryz.func8, Tryz.ntmps8
        go_wp2_with fail
        refine (lives_true _).mono ?_
        rintro e w2 ⟨rfl, b2⟩
        have HB2 := Lib.hid b2
        clear b2
        go_wp2_with fail
        go_ret
        exact ⟨rfl, HB2.out⟩
    · by_cases h3 : (100 : Int) < (ky.length : Int)
      · go_enter Tryz.func8, Tryz.ntmps8
        go_wp2_with fail
        refine (lives_true _).mono ?_
        rintro e w2 ⟨rfl, b2⟩
        have HB2 := Lib.hid b2
        clear b2
        go_wp2_with fail
        go_ret
        exact ⟨rfl, HB2.out⟩
      · go_enter Tryz.func8, Tryz.ntmps8
        go_wp2_with fail
        refine (lives_true _).mono ?_
        rintro e w2 ⟨rfl, b2⟩
        have HB2 := Lib.hid b2
        clear b2
        go_wp2_with fail
        go_ret
        exact ⟨rfl, HB2.out⟩
  · by_cases h2 : (100 : Int) < (T.length : Int)
    · by_cases h3 : (100 : Int) < (ky.length : Int)
      · go_enter Tryz.func8, Tryz.ntmps8
        go_wp2_with fail
        refine (lives_true _).mono ?_
        rintro e w2 ⟨rfl, b2⟩
        have HB2 := Lib.hid b2
        clear b2
        go_wp2_with fail
        go_ret
        exact ⟨rfl, HB2.out⟩
      · go_enter Tryz.func8, Tryz.ntmps8
        go_wp2_with fail
        refine (lives_true _).mono ?_
        rintro e w2 ⟨rfl, b2⟩
        have HB2 := Lib.hid b2
        clear b2
        go_wp2_with fail
        go_ret
        exact ⟨rfl, HB2.out⟩
    · by_cases h3 : (100 : Int) < (ky.length : Int)
      · go_enter Tryz.func8, Tryz.ntmps8
        go_wp2_with fail
        refine (lives_true _).mono ?_
        rintro e w2 ⟨rfl, b2⟩
        have HB2 := Lib.hid b2
        clear b2
        go_wp2_with fail
        go_ret
        exact ⟨rfl, HB2.out⟩
      · have hkl : ky.length ≤ 100 := by omega
        go_enter Tryz.func8, Tryz.ntmps8
        go_wp2_with fail
        go_loopw [7] (fun iv wr => ∃ k : Nat, k ≤ 2 ∧ iv = .int .i64 k ∧ Hid (Below w.heap.size w wr)) (fun iv _ => 2 - (intOf iv).toNat)
        case atStart => exact ⟨0, by omega, rfl, Lib.hid (Below.refl _ _)⟩
        case round =>
          obtain ⟨k, hk, rfl, HB⟩ := hrel
          match k, hk with
          | 0, _ =>
            obtain ⟨tb, Wa, Wb, htb, hWa, ⟨b0, b1, b2, b3⟩, bf, hWb, qb, nbb, szb⟩ := tab_new F T wr
            have HQ := Lib.hid (And.intro qb (And.intro (show MemPtr none [] Wb from .inl ⟨rfl, rfl⟩) (And.intro (TabsAt.none' Wb) nbb)))
            clear qb nbb
            have hE : ∀ r ∈ ([] : List Ce) :: [], r = [] := by simp
            have hRk : ∀ r ∈ ([] : List Ce) :: [], RowOk r := fun r hr => by rw [hE r hr]; exact RowOk.nil
            obtain ⟨i0, i1, i2, i3⟩ := tab_cells HQ.out.1
            have GG := tabGet F T ky none none 0 0 [] ([]) Wb HQ.out.2.1 HQ.out.2.2.1 (by omega) hRk (by omega)
            rw [getT_empty hE] at GG
            have CG := Lib.hid GG
            simp only [ceV, ceVal, Ce.zero] at CG
            unfold tabVal at CG
            clear GG
            go_wp2_with fail
            refine CG.out.mono ?_
            rintro e v1 ⟨rfl, k1⟩
            obtain ⟨g1, U1, V1, hg1, hU1, ⟨a0, a1, a2⟩, ⟨af0, af1, af2⟩, hV1, zz1, nn1, sz1⟩ := cell_put v1 Ce.zero
            have K1 := btP k1 nn1
            have m1 := (K1.block _ (Array.getElem?_eq_some_iff.1 HQ.out.1).1).trans HQ.out.1
            obtain ⟨j0, j1, j2, j3⟩ := tab_cells m1
            have CR := tabRange F T [] [] none none 0 0 [] ([]) V1 (HQ.out.2.1.later K1) (HQ.out.2.2.1.later K1) (by omega) hRk
            rw [tabR_empty hE] at CR
            have HCR := Lib.hid CR
            unfold tabVal at HCR
            have H1 := Lib.hid (And.intro m1 (And.intro zz1 K1))
            simp only [Ce.zero] at hV1
            clear k1 zz1 nn1 K1 m1 CG CR i0 i1 i2 i3
            go_wp2_with fail
            refine HCR.out.mono ?_
            rintro e v2 ⟨k2, u2, rfl, own2⟩
            obtain ⟨A2, c2, rfl⟩ := own_slice own2
            simp only [List.length_nil]
            have m2 := (k2.block _ (Array.getElem?_eq_some_iff.1 H1.out.1).1).trans H1.out.1
            obtain ⟨l0, l1, l2, l3⟩ := tab_cells m2
            have K2 := H1.out.2.2.trans (k2.mono H1.out.2.2.size)
            have CM := tabMergeNil F T none none 0 0 ([]) v2 (HQ.out.2.2.1.later K2) (by omega) (fun r hr => hRk r (List.mem_cons_of_mem _ hr))
            rw [tabR_empty hE] at CM
            have HCM := Lib.hid CM
            unfold tabVal at HCM
            have H2 := Lib.hid (And.intro m2 (And.intro K2 k2))
            clear k2 own2 K2 m2 HCR CM a0 a1 a2 af0 af1 af2 hU1 hV1 j0 j1 j2 j3
            go_wp2_with fail
            refine HCM.out.mono ?_
            rintro e v3 ⟨k3, u3, rfl, own3⟩
            obtain ⟨A3, c3, rfl⟩ := own_slice own3
            simp only [List.length_nil]
            have m3 := (k3.block _ (Array.getElem?_eq_some_iff.1 H2.out.1).1).trans H2.out.1
            obtain ⟨d0, d1, d2, d3⟩ := tab_cells m3
            have K3 := H2.out.2.1.trans (k3.mono H2.out.2.1.size)
            have CI := middleNil F T none none 0 0 [] ([]) v3 (HQ.out.2.1.later K3) (HQ.out.2.2.1.later K3) (by omega) hRk (tabR_empty hE)
            have HCI := Lib.hid CI
            unfold tabVal at HCI
            have H3 := Lib.hid (And.intro K3 (btP H2.out.2.2 k3))
            clear k3 own3 K3 m3 HCM CI l0 l1 l2 l3
            go_wp2_with fail
            refine HCI.out.mono ?_
            rintro e v4 ⟨rfl, k4⟩
            have z4 := ((btP H3.out.2 k4).block _ (Array.getElem?_eq_some_iff.1 H1.out.2.1).1).trans H1.out.2.1
            obtain ⟨z40, z41, z42⟩ := cells3 z4
            simp only [Ce.zero] at z40 z41 z42
            have nz := zero_neq
            have H4 := Lib.hid (HQ.out.2.2.2.trans ((H3.out.1.trans (k4.mono H3.out.1.size)).mono HQ.out.2.2.2.size))
            clear k4 z4 HCI d0 d1 d2 d3
            go_wp2_with fail
            go_roundw
            case rel => exact ⟨0 + 1, by omega, by simp <;> omega, Lib.hid (btP HB.out H4.out)⟩
            case measure => simp [intOf]
          | 1, _ =>
            obtain ⟨tb, Wa, Wb, htb, hWa, ⟨b0, b1, b2, b3⟩, bf, hWb, qb, nbb, szb⟩ := tab_new F T wr
            have HT0 := Lib.hid (And.intro qb nbb)
            clear qb nbb
            go_wp2_with fail
            refine (newM_any _).mono ?_
            rintro e w5 ⟨rfl, hm5, b5⟩
            rw [szb] at hm5
            have q5 := (b5.block _ (Array.getElem?_eq_some_iff.1 HT0.out.1).1).trans HT0.out.1
            obtain ⟨Vc, sb, Vd, Ve, e2, ef2, hVc, hsb, hVd, e3, ef3, hVe, qe, hme, hte, be⟩ := tab_fill F T tb (tb + 1) _ w5 q5 hm5
            have HQ := Lib.hid (And.intro qe (And.intro hme (And.intro hte (be wr (by omega) (btP HT0.out.2 b5)))))
            clear q5 qe hme hte be b5 hm5
            have hE : ∀ r ∈ ([] : List Ce) :: [[], []], r = [] := by simp
            have hRk : ∀ r ∈ ([] : List Ce) :: [[], []], RowOk r := fun r hr => by rw [hE r hr]; exact RowOk.nil
            obtain ⟨i0, i1, i2, i3⟩ := tab_cells HQ.out.1
            have GG := tabGet F T ky (some ⟨tb + 1, 0, none⟩) (some ⟨sb, 0, none⟩) 2 2 [] ([[], []]) Ve HQ.out.2.1 HQ.out.2.2.1 (by omega) hRk (by omega)
            rw [getT_empty hE] at GG
            have CG := Lib.hid GG
            simp only [ceV, ceVal, Ce.zero] at CG
            unfold tabVal at CG
            clear GG
            go_wp2_with fail
            refine CG.out.mono ?_
            rintro e v1 ⟨rfl, k1⟩
            obtain ⟨g1, U1, V1, hg1, hU1, ⟨a0, a1, a2⟩, ⟨af0, af1, af2⟩, hV1, zz1, nn1, sz1⟩ := cell_put v1 Ce.zero
            have K1 := btP k1 nn1
            have m1 := (K1.block _ (Array.getElem?_eq_some_iff.1 HQ.out.1).1).trans HQ.out.1
            obtain ⟨j0, j1, j2, j3⟩ := tab_cells m1
            have CR := tabRange F T [] [] (some ⟨tb + 1, 0, none⟩) (some ⟨sb, 0, none⟩) 2 2 [] ([[], []]) V1 (HQ.out.2.1.later K1) (HQ.out.2.2.1.later K1) (by omega) hRk
            rw [tabR_empty hE] at CR
            have HCR := Lib.hid CR
            unfold tabVal at HCR
            have H1 := Lib.hid (And.intro m1 (And.intro zz1 K1))
            simp only [Ce.zero] at hV1
            clear k1 zz1 nn1 K1 m1 CG CR i0 i1 i2 i3
            go_wp2_with fail
            refine HCR.out.mono ?_
            rintro e v2 ⟨k2, u2, rfl, own2⟩
            obtain ⟨A2, c2, rfl⟩ := own_slice own2
            simp only [List.length_nil]
            have m2 := (k2.block _ (Array.getElem?_eq_some_iff.1 H1.out.1).1).trans H1.out.1
            obtain ⟨l0, l1, l2, l3⟩ := tab_cells m2
            have K2 := H1.out.2.2.trans (k2.mono H1.out.2.2.size)
            have CM := tabMergeNil F T (some ⟨tb + 1, 0, none⟩) (some ⟨sb, 0, none⟩) 2 2 ([[], []]) v2 (HQ.out.2.2.1.later K2) (by omega) (fun r hr => hRk r (List.mem_cons_of_mem _ hr))
            rw [tabR_empty hE] at CM
            have HCM := Lib.hid CM
            unfold tabVal at HCM
            have H2 := Lib.hid (And.intro m2 (And.intro K2 k2))
            clear k2 own2 K2 m2 HCR CM a0 a1 a2 af0 af1 af2 hU1 hV1 j0 j1 j2 j3
            go_wp2_with fail
            refine HCM.out.mono ?_
            rintro e v3 ⟨k3, u3, rfl, own3⟩
            obtain ⟨A3, c3, rfl⟩ := own_slice own3
            simp only [List.length_nil]
            have m3 := (k3.block _ (Array.getElem?_eq_some_iff.1 H2.out.1).1).trans H2.out.1
            obtain ⟨d0, d1, d2, d3⟩ := tab_cells m3
            have K3 := H2.out.2.1.trans (k3.mono H2.out.2.1.size)
            have CI := middleNil F T (some ⟨tb + 1, 0, none⟩) (some ⟨sb, 0, none⟩) 2 2 [] ([[], []]) v3 (HQ.out.2.1.later K3) (HQ.out.2.2.1.later K3) (by omega) hRk (tabR_empty hE)
            have HCI := Lib.hid CI
            unfold tabVal at HCI
            have H3 := Lib.hid (And.intro K3 (btP H2.out.2.2 k3))
            clear k3 own3 K3 m3 HCM CI l0 l1 l2 l3
            go_wp2_with fail
            refine HCI.out.mono ?_
            rintro e v4 ⟨rfl, k4⟩
            have z4 := ((btP H3.out.2 k4).block _ (Array.getElem?_eq_some_iff.1 H1.out.2.1).1).trans H1.out.2.1
            obtain ⟨z40, z41, z42⟩ := cells3 z4
            simp only [Ce.zero] at z40 z41 z42
            have nz := zero_neq
            have H4 := Lib.hid (HQ.out.2.2.2.trans ((H3.out.1.trans (k4.mono H3.out.1.size)).mono HQ.out.2.2.2.size))
            clear k4 z4 HCI d0 d1 d2 d3
            go_wp2_with fail
            go_roundw
            case rel => exact ⟨1 + 1, by omega, by simp <;> omega, Lib.hid (btP HB.out H4.out)⟩
            case measure => simp [intOf]
          | 2, _ =>
            go_wp2_with fail
            refine (lives_true _).mono ?_
            rintro e w2 ⟨rfl, b2⟩
            have HB2 := Lib.hid (btP HB.out b2)
            clear b2
            go_wp2_with fail
            go_ret
            exact ⟨rfl, HB2.out⟩
end Go.Proofs.YtoglloafpnopaaaGreat
