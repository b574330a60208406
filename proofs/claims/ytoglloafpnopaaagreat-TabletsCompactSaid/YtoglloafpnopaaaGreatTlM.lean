/- The law TabletsCompact: its walk. -/
import Derived.Test.YtoglloafpnopaaaGreatTlL
set_option linter.unusedSimpArgs false
set_option linter.unusedVariables false
namespace Go.Proofs.YtoglloafpnopaaaGreat
set_option maxRecDepth 16000
open Go.RowKit Spoor
set_option linter.unusedVariables false
set_option linter.unusedSimpArgs false

theorem eql_bb (b : Bool) (W : World) : (binOp .eql 4 (.bool b) (.bool b)).run Tryz.prog W = .ok (.bool true) W := by cases b <;> rfl
/-- a tablet's copy, without tables -/
theorem tab_none (F T : List UInt8) (M A : Option Addr) (n c : Nat) (w : World) : ∃ nb Wa Wb Wc, w.heap.size = nb ∧
    w.alloc (.cells #[.string ⟨#[]⟩, .string ⟨#[]⟩, .pointer none, .slice none 0 0] 31) = Wa ∧
    (Wa.cell? ⟨nb, 0, none⟩ = some (.string ⟨#[]⟩) ∧ Wa.cell? ⟨nb, 1, none⟩ = some (.string ⟨#[]⟩) ∧ Wa.cell? ⟨nb, 2, none⟩ = some (.pointer none) ∧ Wa.cell? ⟨nb, 3, none⟩ = some (.slice none 0 0)) ∧ (∀ j, Wa.frozen? ⟨nb, j, none⟩ = false) ∧
    (((Wa.setCell ⟨nb, 0, none⟩ (.string ⟨F.toArray⟩)).setCell ⟨nb, 1, none⟩ (.string ⟨T.toArray⟩)).setCell ⟨nb, 2, none⟩ (.pointer M)).setCell ⟨nb, 3, none⟩ (.slice A n c) = Wb ∧
    Wb.cell? ⟨nb, 3, none⟩ = some (.slice A n c) ∧ (∀ j, Wb.frozen? ⟨nb, j, none⟩ = false) ∧ Wb.setCell ⟨nb, 3, none⟩ (.slice none 0 0) = Wc ∧
    Wc.heap[nb]? = some (.cells #[.string ⟨F.toArray⟩, .string ⟨T.toArray⟩, .pointer M, .slice none 0 0] 31 (0, 0)) ∧ Below w.heap.size w Wc ∧ Wc.heap.size = nb + 1 := by
  obtain ⟨nb, hnb⟩ : ∃ nb, w.heap.size = nb := ⟨_, rfl⟩
  obtain ⟨Wa, hWa, h5, nb5, sz5, -⟩ := new_tab w nb hnb
  have q6 := set4 (a' := .string ⟨F.toArray⟩) (b' := .string ⟨T.toArray⟩) (c' := .pointer M) (d' := .slice A n c) h5
  have B6 := below_set (below_set (below_set (below_set nb5 (by omega : w.heap.size ≤ nb) 0 (.string ⟨F.toArray⟩)) (by omega : w.heap.size ≤ nb) 1 (.string ⟨T.toArray⟩)) (by omega : w.heap.size ≤ nb) 2 (.pointer M)) (by omega : w.heap.size ≤ nb) 3 (.slice A n c)
  have s6 : ((((Wa.setCell ⟨nb, 0, none⟩ (.string ⟨F.toArray⟩)).setCell ⟨nb, 1, none⟩ (.string ⟨T.toArray⟩)).setCell ⟨nb, 2, none⟩ (.pointer M)).setCell ⟨nb, 3, none⟩ (.slice A n c)).heap.size = nb + 1 := by simp only [World.size_setCell]; exact sz5
  obtain ⟨Wb, hWb⟩ : ∃ Wb, ((((Wa.setCell ⟨nb, 0, none⟩ (.string ⟨F.toArray⟩)).setCell ⟨nb, 1, none⟩ (.string ⟨T.toArray⟩)).setCell ⟨nb, 2, none⟩ (.pointer M)).setCell ⟨nb, 3, none⟩ (.slice A n c)) = Wb := ⟨_, rfl⟩
  rw [hWb] at q6 B6 s6
  have q7 : (Wb.setCell ⟨nb, 3, none⟩ (.slice none 0 0)).heap[nb]? = some (.cells #[.string ⟨F.toArray⟩, .string ⟨T.toArray⟩, .pointer M, .slice none 0 0] 31 (0, 0)) := by rw [heap_setCell_same Wb nb 3 _ _ _ q6]; rfl
  refine ⟨nb, Wa, Wb, _, hnb, hWa, tab_cells0 h5, fun j => by simp [World.frozen?, h5], hWb, (tab_cells q6).2.2.2, fun j => by simp [World.frozen?, q6], rfl, q7, below_set B6 (by omega) 3 _, ?_⟩
  simp only [World.size_setCell]
  exact s6
/-- one table more -/
theorem tab_one (F T : List UInt8) (M A : Option Addr) (n c : Nat) (P : Option Addr) (N : List Ce) (b1 nb : Nat) (w : World) (hne : b1 ≠ nb)
    (hm : w.heap[b1]? = some (.cells #[.string ⟨F.toArray⟩, .string ⟨T.toArray⟩, .pointer M, .slice A n c] 31 (0, 0)))
    (hn : w.heap[nb]? = some (.cells #[.string ⟨F.toArray⟩, .string ⟨T.toArray⟩, .pointer M, .slice none 0 0] 31 (0, 0))) (hP : TabPtr P N w) : ∃ sb Xa Xb, w.heap.size = sb ∧
    w.alloc (.cells #[.pointer P] 47) = Xa ∧ Xa.cell? ⟨nb, 3, none⟩ = some (.slice none 0 0) ∧ (∀ j, Xa.frozen? ⟨nb, j, none⟩ = false) ∧ Xa.setCell ⟨nb, 3, none⟩ (.slice (some ⟨sb, 0, none⟩) 1 1) = Xb ∧
    Xb.heap[b1]? = some (.cells #[.string ⟨F.toArray⟩, .string ⟨T.toArray⟩, .pointer M, .slice A n c] 31 (0, 0)) ∧
    Xb.heap[nb]? = some (.cells #[.string ⟨F.toArray⟩, .string ⟨T.toArray⟩, .pointer M, .slice (some ⟨sb, 0, none⟩) 1 1] 31 (0, 0)) ∧
    TabsAt (some ⟨sb, 0, none⟩) 1 1 [N] Xb ∧ (∀ W0 : World, W0.heap.size ≤ nb → Below W0.heap.size W0 w → Below W0.heap.size W0 Xb) := by
  obtain ⟨sb, hsb⟩ : ∃ sb, w.heap.size = sb := ⟨_, rfl⟩
  have hx := heap_alloc_new w (.cells #[.pointer P] 47)
  have nbX := (Below.refl w.heap.size w).alloc (Nat.le_refl _) (.cells #[.pointer P] 47)
  have szX : (w.alloc (.cells #[.pointer P] 47)).heap.size = w.heap.size + 1 := World.size_alloc _ _
  obtain ⟨Xa, hXa⟩ : ∃ Xa, w.alloc (.cells #[.pointer P] 47) = Xa := ⟨_, rfl⟩
  rw [hXa] at hx nbX szX
  rw [hsb] at hx szX
  have lt1 := (Array.getElem?_eq_some_iff.1 hm).1
  have lt2 := (Array.getElem?_eq_some_iff.1 hn).1
  have hn' := (nbX.block nb lt2).trans hn
  have hm' := (nbX.block b1 lt1).trans hm
  have qn : (Xa.setCell ⟨nb, 3, none⟩ (.slice (some ⟨sb, 0, none⟩) 1 1)).heap[nb]? = some (.cells #[.string ⟨F.toArray⟩, .string ⟨T.toArray⟩, .pointer M, .slice (some ⟨sb, 0, none⟩) 1 1] 31 (0, 0)) := by rw [heap_setCell_same Xa nb 3 _ _ _ hn']; rfl
  have kk : ∀ k, k ≠ nb → (Xa.setCell ⟨nb, 3, none⟩ (.slice (some ⟨sb, 0, none⟩) 1 1)).heap[k]? = Xa.heap[k]? := fun k hk => Below.heap_setCell _ ⟨nb, 3, none⟩ _ k hk
  have szb : (Xa.setCell ⟨nb, 3, none⟩ (.slice (some ⟨sb, 0, none⟩) 1 1)).heap.size = Xa.heap.size := by simp only [World.size_setCell]
  refine ⟨sb, Xa, _, hsb, hXa, (tab_cells hn').2.2.2, fun j => by simp [World.frozen?, hn'], rfl, (kk b1 hne).trans hm', qn, ?_, fun W0 h1 h2 => below_set (btP h2 nbX) h1 3 _⟩
  have ha : Aside nb Xa := ⟨_, _, hn', .inr (.inr (.inl rfl)), fun x A n c e => by cases e.2⟩
  have f : AsF Xa (Xa.setCell ⟨nb, 3, none⟩ (.slice (some ⟨sb, 0, none⟩) 1 1)) := ⟨by omega, fun k hk hno => kk k fun e => hno (e ▸ ha)⟩
  have hs := (kk sb (by omega)).trans hx
  refine TabsAt.one (P := P) (by rw [cell_of_row _ sb _ _ _ _ hs]; rfl) (Array.getElem?_eq_some_iff.1 hs).1 ?_
  rcases hP.later nbX with h | ⟨t, gs, e, h, h2⟩
  · exact .inl h
  · exact .inr ⟨t, gs, e, h.asf f, h2⟩
set_option maxRecDepth 100000 in
set_option maxHeartbeats 4000000 in
theorem tabletsCompact_law (w : World) (F T : List UInt8) (MA : Option Addr) (nm cm : Nat) (TA : Option Addr) (nt ct : Nat) (lm : List Ce) (Tl : List (List Ce)) (key : ByteArray) (hM : SlAt (.slice MA nm cm) lm w) (hT : RowsIn (.slice TA nt ct) Tl w) (wm : ∀ c ∈ lm, WfC c) (wT : ∀ l ∈ Tl, ∀ c ∈ l, WfC c) (hkey : key.size ≤ 140737488351232) :
    Calls Tryz.prog 4 #[dataVal F T MA nm cm TA nt ct, .string key] w fun e w' => e = .returned (.bool true) ∧ Below w.heap.size w w' := by
  have es : key = ⟨key.data.toList.toArray⟩ := by cases key; simp
  rw [es] at hkey ⊢
  rw [size_of] at hkey
  generalize key.data.toList = ky at *
  clear es
  obtain ⟨xb, W0, hxb, hW0, hx0, nb0, sz0⟩ := new_data F T MA TA nm cm nt ct w
  obtain ⟨x0, x1, x2, x3⟩ := data_cells hx0
  have CB := Lib.hid (beyD_any F T MA nm cm TA nt ct lm Tl W0 (hM.later nb0) (hT.later nb0) wm wT)
  obtain ⟨R, hR⟩ : ∃ R, beyD F T lm Tl = R := ⟨_, rfl⟩
  rw [hR] at CB
  have HR := Lib.hid hR
  have HD := Lib.hid (And.intro (hM.later nb0) (And.intro (hT.later nb0) (And.intro wm (And.intro wT (And.intro hx0 nb0)))))
  clear hM hT wm wT hx0 nb0 hR
  unfold dataVal at CB ⊢
  by_cases hk : (100 : Int) < (ky.length : Int)
  · cases R with
    | true =>
      go_enter Tryz.func4, Tryz.ntmps4
      go_wp2_with fail
      refine CB.out.mono ?_
      rintro e w1 ⟨rfl, b1⟩
      have HB := Lib.hid (btP HD.out.2.2.2.2.2 b1)
      clear b1 CB
      go_wp2_with fail
      refine (lives_true _).mono ?_
      rintro e w2 ⟨rfl, b2⟩
      have HB2 := Lib.hid (btP HB.out b2)
      clear b2
      go_wp2_with fail
      go_ret
      exact ⟨rfl, HB2.out⟩
    | false =>
      go_enter Tryz.func4, Tryz.ntmps4
      go_wp2_with fail
      refine CB.out.mono ?_
      rintro e w1 ⟨rfl, b1⟩
      have HB := Lib.hid (btP HD.out.2.2.2.2.2 b1)
      clear b1 CB
      go_wp2_with fail
      refine (lives_true _).mono ?_
      rintro e w2 ⟨rfl, b2⟩
      have HB2 := Lib.hid (btP HB.out b2)
      clear b2
      go_wp2_with fail
      go_ret
      exact ⟨rfl, HB2.out⟩
  · cases R with
    | true =>
      go_enter Tryz.func4, Tryz.ntmps4
      go_wp2_with fail
      refine CB.out.mono ?_
      rintro e w1 ⟨rfl, b1⟩
      have HB := Lib.hid (btP HD.out.2.2.2.2.2 b1)
      clear b1 CB
      go_wp2_with fail
      refine (lives_true _).mono ?_
      rintro e w2 ⟨rfl, b2⟩
      have HB2 := Lib.hid (btP HB.out b2)
      clear b2
      go_wp2_with fail
      go_ret
      exact ⟨rfl, HB2.out⟩
    | false =>
      go_enter Tryz.func4, Tryz.ntmps4
      go_wp2_with fail
      refine CB.out.mono ?_
      rintro e w1 ⟨rfl, b1⟩
      have hx1 := (b1.block xb (Array.getElem?_eq_some_iff.1 HD.out.2.2.2.2.1).1).trans HD.out.2.2.2.2.1
      obtain ⟨y0, y1, y2, y3⟩ := data_cells hx1
      have hNo := beyD_no HR.out HD.out.2.2.1 HD.out.2.2.2.1
      have CM := Lib.hid (made_any F T MA nm cm TA nt ct lm Tl w1 (HD.out.1.later b1) (HD.out.2.1.later b1) hNo.2.2)
      obtain ⟨L, hL⟩ : ∃ L, putsC [] lm = L := ⟨_, rfl⟩
      obtain ⟨Ts, hTs⟩ : ∃ Ts, Tl.map (putsC []) = Ts := ⟨_, rfl⟩
      have hRw := data_rows hNo.2.2
      rw [hL, hTs] at CM hRw
      have HW := Lib.hid (And.intro (fun r (hr : r ∈ L :: Ts) => (hRw.1 r hr).1) (And.intro (fun r (hr : r ∈ Ts) => hRw.1 r (List.mem_cons_of_mem _ hr)) (And.intro hRw.2 (And.intro hNo.1 hNo.2.1))))
      have HB := Lib.hid (btP HD.out.2.2.2.2.2 b1)
      have HX1 := Lib.hid hx1
      unfold dataVal tabVal rvVal at CM
      clear b1 CB hx1 hNo hL hTs hRw
      go_wp2_with fail
      refine CM.out.mono ?_
      rintro e w2 ⟨p, fs, A, n, c, A2, n2, c2, rfl, hMm, hTt, hRr, b2⟩
      obtain ⟨b1, W5, W6, W7, W8, hb1, hW5, sz5, hW6, ⟨z0, z1, z2, z3⟩, zf, hW7, ⟨o0, o1, o2⟩, of, hW8, q8, r8, nb8, sz8⟩ := boxes2 F T (some ⟨p, 0, none⟩) A A2 n c n2 c2 w2
      obtain ⟨t0, t1, t2, t3⟩ := tab_cells q8
      have HX8 := Lib.hid ((nb8.block xb (Nat.lt_of_lt_of_le (Array.getElem?_eq_some_iff.1 HX1.out).1 b2.size)).trans ((b2.block xb (Array.getElem?_eq_some_iff.1 HX1.out).1).trans HX1.out))
      have HT := Lib.hid (And.intro (show MemPtr (some ⟨p, 0, none⟩) L W8 from .inr ⟨p, fs, rfl, hMm.later nb8⟩) (And.intro (hTt.later nb8) (And.intro (hRr.later nb8) (And.intro (btP HB.out (btP b2 nb8)) (And.intro (show n ≤ 10 by have := hTt.1; have := HW.out.2.2.1; omega) (And.intro (hMm.later nb8) (And.intro q8 r8)))))))
      clear hMm hTt hRr b2 nb8 q8 r8 CM HX1
      have CMM := tabMergeNil F T (some ⟨p, 0, none⟩) A n c Ts W8 HT.out.2.1 HT.out.2.2.2.2.1 (fun r hr => (HW.out.2.1 r hr).1)
      obtain ⟨N, hN⟩ : ∃ N, oneT F T Ts = N := ⟨_, rfl⟩
      rw [show tabR F T ([] :: Ts) [] [] = N from hN] at CMM
      have hrs : ∀ r ∈ Ts, Rise r := fun r hr => (HW.out.2.1 r hr).1.rise
      have hLr : Rise L := (HW.out.1 L List.mem_cons_self).rise
      have hNo := oneT_ok (F := F) (T := T) HW.out.2.1 HW.out.2.2.1
      have hNr := compact_range (F := F) (T := T) hLr hrs [] []
      have hNg := compact_get (F := F) (T := T) hLr hrs ky
      rw [hN] at hNo hNr hNg
      have HNF := Lib.hid (And.intro hNo (And.intro hNr hNg))
      have HCM := Lib.hid CMM
      unfold tabVal at HCM
      have hkl : ky.length ≤ 100 := by omega
      clear CMM hN hrs hLr hNo hNr hNg
      go_wp2_with fail
      refine HCM.out.mono ?_
      rintro e w3 ⟨b3, u, rfl, own⟩
      have sN := slAt_own own
      obtain ⟨Au, cu, rfl⟩ := own_slice own
      have m3 := (b3.block _ (Array.getElem?_eq_some_iff.1 HT.out.2.2.2.2.2.2.1).1).trans HT.out.2.2.2.2.2.2.1
      obtain ⟨g0, g1, g2, g3⟩ := tab_cells m3
      obtain ⟨nb, Wa, Wb, Wc, hnb, hWa, ⟨na0, na1, na2, na3⟩, naf, hWb, nd3, ndf, hWc, qc, nbc, szc⟩ := tab_none F T (some ⟨p, 0, none⟩) A n c w3
      have m4 := (nbc.block _ (Array.getElem?_eq_some_iff.1 m3).1).trans m3
      have HC := Lib.hid (And.intro (sN.later nbc) (And.intro m4 (And.intro qc (And.intro (btP b3 nbc) (show W8.heap.size ≤ nb by have := b3.size; omega)))))
      clear z0 z1 z2 z3 zf o0 o1 o2 of hW5 hW6 hW7 hW8 sz5 hb1 x0 x1 x2 x3 y0 y1 y2 y3 hxb hW0 sz0
      clear own sN b3 m3 m4 HCM nbc qc t0 t1 t2 t3
      by_cases h0 : N.length = 0
      · have hz : ¬ (0 : Int) < (N.length : Int) := by omega
        have HN : Hid (TabsAt none 0 0 [] Wc ∧ 0 ≤ 10 ∧ (∀ r ∈ L :: [], RowOk r) ∧ tabR F T (L :: []) [] [] = tabR F T (L :: Ts) [] [] ∧ getT F T (L :: []) ky = getT F T (L :: Ts) ky) := by
          have hN0 : N = [] := List.length_eq_zero_iff.1 h0
          have h1 := HNF.out.2
          rw [hN0] at h1
          refine Lib.hid ⟨TabsAt.none' _, by omega, fun r hr => HW.out.1 r (by rw [List.mem_singleton.1 hr]; exact List.mem_cons_self), ?_, ?_⟩
          · rw [← h1.1, tabR_nil1]
          · rw [← h1.2, getT_nil1]
        have HQ := Lib.hid (show _ ∧ _ ∧ Below W8.heap.size W8 Wc from ⟨HC.out.2.1, HC.out.2.2.1, HC.out.2.2.2.1⟩)
        clear HC
        obtain ⟨i0, i1, i2, i3⟩ := tab_cells HQ.out.1
        obtain ⟨j0, j1, j2, j3⟩ := tab_cells HQ.out.2.1
        have CA := tabRange F T [] [] (some ⟨p, 0, none⟩) A n c L Ts Wc (HT.out.1.later HQ.out.2.2) (HT.out.2.1.later HQ.out.2.2) HT.out.2.2.2.2.1 HW.out.1
        obtain ⟨res, hres⟩ : ∃ res, tabR F T (L :: Ts) [] [] = res := ⟨_, rfl⟩
        obtain ⟨ob, hob⟩ : ∃ ob, getT F T (L :: Ts) ky = ob := ⟨_, rfl⟩
        obtain ⟨cc, hcc⟩ : ∃ cc, getC ob = cc := ⟨_, rfl⟩
        obtain ⟨oo, hoo⟩ : ∃ oo, okC ob = oo := ⟨_, rfl⟩
        have GR : ∀ W, Below Wc.heap.size Wc W → Calls Tryz.prog 19 #[tabVal F T (some ⟨p, 0, none⟩) none 0 0, .string ⟨([] : List UInt8).toArray⟩, .string ⟨([] : List UInt8).toArray⟩] W fun e w' => Below W.heap.size W w' ∧ ∃ u, e = .returned (.tuple #[u, .int .i64 0]) ∧ SlAt u res w' := fun W hb =>
          (tabRange F T [] [] (some ⟨p, 0, none⟩) none 0 0 L [] W ((HT.out.1.later HQ.out.2.2).later hb) (HN.out.1.later hb) HN.out.2.1 HN.out.2.2.1).mono fun e w' ⟨h1, u, h2, h3⟩ => ⟨h1, u, h2, by have := slAt_own h3; rw [HN.out.2.2.2.1, hres] at this; exact this⟩
        have GG : ∀ W, Below Wc.heap.size Wc W → Calls Tryz.prog 20 #[tabVal F T (some ⟨p, 0, none⟩) A n c, .string ⟨ky.toArray⟩] W fun e w' => e = .returned (ceV ob) ∧ Below W.heap.size W w' := fun W hb => by
          have := tabGet F T ky (some ⟨p, 0, none⟩) A n c L Ts W ((HT.out.1.later HQ.out.2.2).later hb) ((HT.out.2.1.later HQ.out.2.2).later hb) HT.out.2.2.2.2.1 HW.out.1 (by omega)
          rwa [hob] at this
        have GH : ∀ W, Below Wc.heap.size Wc W → Calls Tryz.prog 20 #[tabVal F T (some ⟨p, 0, none⟩) none 0 0, .string ⟨ky.toArray⟩] W fun e w' => e = .returned (ceV ob) ∧ Below W.heap.size W w' := fun W hb => by
          have := tabGet F T ky (some ⟨p, 0, none⟩) none 0 0 L [] W ((HT.out.1.later HQ.out.2.2).later hb) (HN.out.1.later hb) HN.out.2.1 HN.out.2.2.1 (by omega)
          rwa [HN.out.2.2.2.2, hob] at this
        rw [hres] at CA
        rw [ceV_eq, hcc, hoo] at GG GH
        have HCA := Lib.hid CA
        unfold tabVal at HCA GR GG GH
        have HG := Lib.hid (And.intro GR (And.intro GG GH))
        clear CA GR GG GH hres hob hcc hoo
        go_wp2_with fail
        refine HCA.out.mono ?_
        rintro e v1 ⟨k1, u1, rfl, own1⟩
        have s1 := slAt_own own1
        obtain ⟨A1, c1, rfl⟩ := own_slice own1
        have HS1 := Lib.hid (And.intro s1 k1)
        have CN := Lib.hid (HG.out.1 v1 k1)
        have m1 := (k1.block _ (Array.getElem?_eq_some_iff.1 HQ.out.1).1).trans HQ.out.1
        have n1 := (k1.block _ (Array.getElem?_eq_some_iff.1 HQ.out.2.1).1).trans HQ.out.2.1
        obtain ⟨e0, e1, e2, e3⟩ := tab_cells n1
        have HQ1 := Lib.hid (And.intro m1 n1)
        clear k1 own1 s1 HCA m1 n1
        go_wp2_with fail
        refine CN.out.mono ?_
        rintro e v2 ⟨k2, u2, rfl, s2⟩
        have K2 := HS1.out.2.trans (k2.mono HS1.out.2.size)
        have m2 := (k2.block _ (Array.getElem?_eq_some_iff.1 HQ1.out.1).1).trans HQ1.out.1
        have n2 := (k2.block _ (Array.getElem?_eq_some_iff.1 HQ1.out.2).1).trans HQ1.out.2
        obtain ⟨f0, f1, f2, f3⟩ := tab_cells m2
        have CG := Lib.hid (HG.out.2.1 v2 K2)
        have CS := sameT_any _ u2 res res v2 (HS1.out.1.later k2) s2
        have HS2 := Lib.hid (And.intro (HS1.out.1.later k2) (And.intro s2 (And.intro K2 (And.intro m2 n2))))
        obtain ⟨Au2, cu2, rfl⟩ : ∃ A c, u2 = .slice A res.length c := by obtain ⟨A, c, e, -⟩ := s2; exact ⟨A, c, e⟩
        clear k2 K2 s2 m2 n2 CN CS
        go_wp2_with fail
        refine CG.out.mono ?_
        rintro e v3 ⟨rfl, k3⟩
        obtain ⟨g3, u3, V3, hg3, hu3, ⟨a0, a1, a2⟩, ⟨af0, af1, af2⟩, hV3, zz3, nn3, sz3⟩ := cell_put v3 cc
        have K3 := btP k3 nn3
        have m3 := (K3.block _ (Array.getElem?_eq_some_iff.1 HS2.out.2.2.2.1).1).trans HS2.out.2.2.2.1
        have n3 := (K3.block _ (Array.getElem?_eq_some_iff.1 HS2.out.2.2.2.2).1).trans HS2.out.2.2.2.2
        obtain ⟨l0, l1, l2, l3⟩ := tab_cells n3
        have CH := Lib.hid (HG.out.2.2 V3 (HS2.out.2.2.1.trans (K3.mono HS2.out.2.2.1.size)))
        have HS3 := Lib.hid (And.intro (HS2.out.1.later K3) (And.intro (HS2.out.2.1.later K3) (And.intro (HS2.out.2.2.1.trans (K3.mono HS2.out.2.2.1.size)) zz3)))
        clear k3 zz3 nn3 K3 m3 n3 CG
        go_wp2_with fail
        refine CH.out.mono ?_
        rintro e v4 ⟨rfl, k4⟩
        obtain ⟨g4, u4, V4, hg4, hu4, ⟨d0, d1, d2⟩, ⟨df0, df1, df2⟩, hV4, zz4, nn4, sz4⟩ := cell_put v4 cc
        have K4 := btP k4 nn4
        have m4 := (K4.block _ (Array.getElem?_eq_some_iff.1 HS3.out.2.2.2).1).trans HS3.out.2.2.2
        have CS := sameT_any _ _ res res V4 (HS3.out.1.later K4) (HS3.out.2.1.later K4)
        rw [decide_eq_true rfl] at CS
        have HCS := Lib.hid CS
        have HE := Lib.hid (And.intro (HS3.out.2.2.1.trans (K4.mono HS3.out.2.2.1.size)) (And.intro m4 zz4))
        clear k4 zz4 nn4 K4 m4 CH CS a0 a1 a2 af0 af1 af2
        go_wp2_with fail
        refine HCS.out.mono ?_
        rintro e v5 ⟨rfl, k5⟩
        have m5 := (k5.block _ (Array.getElem?_eq_some_iff.1 HE.out.2.1).1).trans HE.out.2.1
        have n5 := (k5.block _ (Array.getElem?_eq_some_iff.1 HE.out.2.2).1).trans HE.out.2.2
        obtain ⟨m50, m51, m52⟩ := cells3 m5
        obtain ⟨n50, n51, n52⟩ := cells3 n5
        have ee := fun W => eql_ce cc cc W
        rw [decide_eq_true rfl] at ee
        unfold ceVal at ee
        have eb := fun W => eql_bb oo W
        have HE5 := Lib.hid (btP HT.out.2.2.2.1 (HQ.out.2.2.trans ((HE.out.1.trans (k5.mono HE.out.1.size)).mono HQ.out.2.2.size)))
        clear k5 m5 n5 HCS d0 d1 d2 df0 df1 df2
        go_wp2_with fail
        refine (lives_true _).mono ?_
        rintro e v6 ⟨rfl, k6⟩
        have HE6 := Lib.hid (btP HE5.out k6)
        clear k6
        go_wp2_with fail
        go_ret
        exact ⟨rfl, HE6.out⟩
      · have hz : (0 : Int) < (N.length : Int) := by omega
        have hNs : sortedB N = true := HNF.out.1.1.2.2
        have hNf := HNF.out.1.1.2.1
        have hNl := HNF.out.1.2
        have BC := buildT_any _ N Wc HC.out.1 hNf (by omega)
        rw [show buildV N = .tuple #[.string ⟨(tableB N).toArray⟩, .int .i64 0] by unfold buildV; rw [if_pos hNs, if_neg (by omega)]] at BC
        have hob := open_build hNs (by omega) fun c hc => (hNf c hc).2.2
        have htl := tableB_short hNs (fun c hc => (hNf c hc).2.2) (by omega)
        have hff := fours_facts hNs (by omega)
        have HBC := Lib.hid BC
        have HOB := Lib.hid (And.intro hob (And.intro htl hff))
        clear hNs hNf hNl BC hob htl hff
        go_wp2_with fail
        refine HBC.out.mono ?_
        rintro e w4 ⟨rfl, b4⟩
        have OC := Lib.hid (openT_some HOB.out.1 w4 HOB.out.2.1)
        have H4 := Lib.hid b4
        clear b4 HBC
        go_wp2_with fail
        refine OC.out.mono ?_
        rintro e w5 ⟨b5, tp, rfl, htp⟩
        have B5 := btP H4.out b5
        have hP : TabPtr (some ⟨tp, 0, none⟩) N w5 := .inr ⟨tp, fours N, rfl, htp, fours_flat N, HOB.out.2.2.2.1, HOB.out.2.2.2.2.1⟩
        have m5 := (B5.block _ (Array.getElem?_eq_some_iff.1 HC.out.2.1).1).trans HC.out.2.1
        have n5 := (B5.block _ (Array.getElem?_eq_some_iff.1 HC.out.2.2.1).1).trans HC.out.2.2.1
        obtain ⟨sb, Xa, Xb, hsb, hXa, hx3, hxf, hXb, qm, qn, hTb, BX⟩ := tab_one F T (some ⟨p, 0, none⟩) A n c (some ⟨tp, 0, none⟩) N b1 nb w5 (by have := HC.out.2.2.2.2; omega) m5 n5 hP
        have HN : Hid (TabsAt (some ⟨sb, 0, none⟩) 1 1 [N] Xb ∧ 1 ≤ 10 ∧ (∀ r ∈ L :: [N], RowOk r) ∧ tabR F T (L :: [N]) [] [] = tabR F T (L :: Ts) [] [] ∧ getT F T (L :: [N]) ky = getT F T (L :: Ts) ky) :=
          Lib.hid ⟨hTb, by omega, fun r hr => by
            rcases List.mem_cons.1 hr with rfl | hr
            · exact HW.out.1 _ List.mem_cons_self
            · rw [List.mem_singleton.1 hr]; exact HNF.out.1.1, HNF.out.2.1, HNF.out.2.2⟩
        have HQ := Lib.hid (And.intro qm (And.intro qn (BX W8 HC.out.2.2.2.2 (btP HC.out.2.2.2.1 B5))))
        clear b5 B5 htp hP m5 n5 qm qn hTb BX OC H4
        obtain ⟨i0, i1, i2, i3⟩ := tab_cells HQ.out.1
        obtain ⟨j0, j1, j2, j3⟩ := tab_cells HQ.out.2.1
        have CA := tabRange F T [] [] (some ⟨p, 0, none⟩) A n c L Ts Xb (HT.out.1.later HQ.out.2.2) (HT.out.2.1.later HQ.out.2.2) HT.out.2.2.2.2.1 HW.out.1
        obtain ⟨res, hres⟩ : ∃ res, tabR F T (L :: Ts) [] [] = res := ⟨_, rfl⟩
        obtain ⟨ob, hob⟩ : ∃ ob, getT F T (L :: Ts) ky = ob := ⟨_, rfl⟩
        obtain ⟨cc, hcc⟩ : ∃ cc, getC ob = cc := ⟨_, rfl⟩
        obtain ⟨oo, hoo⟩ : ∃ oo, okC ob = oo := ⟨_, rfl⟩
        have GR : ∀ W, Below Xb.heap.size Xb W → Calls Tryz.prog 19 #[tabVal F T (some ⟨p, 0, none⟩) (some ⟨sb, 0, none⟩) 1 1, .string ⟨([] : List UInt8).toArray⟩, .string ⟨([] : List UInt8).toArray⟩] W fun e w' => Below W.heap.size W w' ∧ ∃ u, e = .returned (.tuple #[u, .int .i64 0]) ∧ SlAt u res w' := fun W hb =>
          (tabRange F T [] [] (some ⟨p, 0, none⟩) (some ⟨sb, 0, none⟩) 1 1 L [N] W ((HT.out.1.later HQ.out.2.2).later hb) (HN.out.1.later hb) HN.out.2.1 HN.out.2.2.1).mono fun e w' ⟨h1, u, h2, h3⟩ => ⟨h1, u, h2, by have := slAt_own h3; rw [HN.out.2.2.2.1, hres] at this; exact this⟩
        have GG : ∀ W, Below Xb.heap.size Xb W → Calls Tryz.prog 20 #[tabVal F T (some ⟨p, 0, none⟩) A n c, .string ⟨ky.toArray⟩] W fun e w' => e = .returned (ceV ob) ∧ Below W.heap.size W w' := fun W hb => by
          have := tabGet F T ky (some ⟨p, 0, none⟩) A n c L Ts W ((HT.out.1.later HQ.out.2.2).later hb) ((HT.out.2.1.later HQ.out.2.2).later hb) HT.out.2.2.2.2.1 HW.out.1 (by omega)
          rwa [hob] at this
        have GH : ∀ W, Below Xb.heap.size Xb W → Calls Tryz.prog 20 #[tabVal F T (some ⟨p, 0, none⟩) (some ⟨sb, 0, none⟩) 1 1, .string ⟨ky.toArray⟩] W fun e w' => e = .returned (ceV ob) ∧ Below W.heap.size W w' := fun W hb => by
          have := tabGet F T ky (some ⟨p, 0, none⟩) (some ⟨sb, 0, none⟩) 1 1 L [N] W ((HT.out.1.later HQ.out.2.2).later hb) (HN.out.1.later hb) HN.out.2.1 HN.out.2.2.1 (by omega)
          rwa [HN.out.2.2.2.2, hob] at this
        rw [hres] at CA
        rw [ceV_eq, hcc, hoo] at GG GH
        have HCA := Lib.hid CA
        unfold tabVal at HCA GR GG GH
        have HG := Lib.hid (And.intro GR (And.intro GG GH))
        clear CA GR GG GH hres hob hcc hoo
        go_wp2_with fail
        refine HCA.out.mono ?_
        rintro e v1 ⟨k1, u1, rfl, own1⟩
        have s1 := slAt_own own1
        obtain ⟨A1, c1, rfl⟩ := own_slice own1
        have HS1 := Lib.hid (And.intro s1 k1)
        have CN := Lib.hid (HG.out.1 v1 k1)
        have m1 := (k1.block _ (Array.getElem?_eq_some_iff.1 HQ.out.1).1).trans HQ.out.1
        have n1 := (k1.block _ (Array.getElem?_eq_some_iff.1 HQ.out.2.1).1).trans HQ.out.2.1
        obtain ⟨e0, e1, e2, e3⟩ := tab_cells n1
        have HQ1 := Lib.hid (And.intro m1 n1)
        clear k1 own1 s1 HCA m1 n1
        go_wp2_with fail
        refine CN.out.mono ?_
        rintro e v2 ⟨k2, u2, rfl, s2⟩
        have K2 := HS1.out.2.trans (k2.mono HS1.out.2.size)
        have m2 := (k2.block _ (Array.getElem?_eq_some_iff.1 HQ1.out.1).1).trans HQ1.out.1
        have n2 := (k2.block _ (Array.getElem?_eq_some_iff.1 HQ1.out.2).1).trans HQ1.out.2
        obtain ⟨f0, f1, f2, f3⟩ := tab_cells m2
        have CG := Lib.hid (HG.out.2.1 v2 K2)
        have CS := sameT_any _ u2 res res v2 (HS1.out.1.later k2) s2
        have HS2 := Lib.hid (And.intro (HS1.out.1.later k2) (And.intro s2 (And.intro K2 (And.intro m2 n2))))
        obtain ⟨Au2, cu2, rfl⟩ : ∃ A c, u2 = .slice A res.length c := by obtain ⟨A, c, e, -⟩ := s2; exact ⟨A, c, e⟩
        clear k2 K2 s2 m2 n2 CN CS
        go_wp2_with fail
        refine CG.out.mono ?_
        rintro e v3 ⟨rfl, k3⟩
        obtain ⟨g3, u3, V3, hg3, hu3, ⟨a0, a1, a2⟩, ⟨af0, af1, af2⟩, hV3, zz3, nn3, sz3⟩ := cell_put v3 cc
        have K3 := btP k3 nn3
        have m3 := (K3.block _ (Array.getElem?_eq_some_iff.1 HS2.out.2.2.2.1).1).trans HS2.out.2.2.2.1
        have n3 := (K3.block _ (Array.getElem?_eq_some_iff.1 HS2.out.2.2.2.2).1).trans HS2.out.2.2.2.2
        obtain ⟨l0, l1, l2, l3⟩ := tab_cells n3
        have CH := Lib.hid (HG.out.2.2 V3 (HS2.out.2.2.1.trans (K3.mono HS2.out.2.2.1.size)))
        have HS3 := Lib.hid (And.intro (HS2.out.1.later K3) (And.intro (HS2.out.2.1.later K3) (And.intro (HS2.out.2.2.1.trans (K3.mono HS2.out.2.2.1.size)) zz3)))
        clear k3 zz3 nn3 K3 m3 n3 CG
        go_wp2_with fail
        refine CH.out.mono ?_
        rintro e v4 ⟨rfl, k4⟩
        obtain ⟨g4, u4, V4, hg4, hu4, ⟨d0, d1, d2⟩, ⟨df0, df1, df2⟩, hV4, zz4, nn4, sz4⟩ := cell_put v4 cc
        have K4 := btP k4 nn4
        have m4 := (K4.block _ (Array.getElem?_eq_some_iff.1 HS3.out.2.2.2).1).trans HS3.out.2.2.2
        have CS := sameT_any _ _ res res V4 (HS3.out.1.later K4) (HS3.out.2.1.later K4)
        rw [decide_eq_true rfl] at CS
        have HCS := Lib.hid CS
        have HE := Lib.hid (And.intro (HS3.out.2.2.1.trans (K4.mono HS3.out.2.2.1.size)) (And.intro m4 zz4))
        clear k4 zz4 nn4 K4 m4 CH CS a0 a1 a2 af0 af1 af2
        go_wp2_with fail
        refine HCS.out.mono ?_
        rintro e v5 ⟨rfl, k5⟩
        have m5 := (k5.block _ (Array.getElem?_eq_some_iff.1 HE.out.2.1).1).trans HE.out.2.1
        have n5 := (k5.block _ (Array.getElem?_eq_some_iff.1 HE.out.2.2).1).trans HE.out.2.2
        obtain ⟨m50, m51, m52⟩ := cells3 m5
        obtain ⟨n50, n51, n52⟩ := cells3 n5
        have ee := fun W => eql_ce cc cc W
        rw [decide_eq_true rfl] at ee
        unfold ceVal at ee
        have eb := fun W => eql_bb oo W
        have HE5 := Lib.hid (btP HT.out.2.2.2.1 (HQ.out.2.2.trans ((HE.out.1.trans (k5.mono HE.out.1.size)).mono HQ.out.2.2.size)))
        clear k5 m5 n5 HCS d0 d1 d2 df0 df1 df2
        go_wp2_with fail
        refine (lives_true _).mono ?_
        rintro e v6 ⟨rfl, k6⟩
        have HE6 := Lib.hid (btP HE5.out k6)
        clear k6
        go_wp2_with fail
        go_ret
        exact ⟨rfl, HE6.out⟩
end Go.Proofs.YtoglloafpnopaaaGreat
