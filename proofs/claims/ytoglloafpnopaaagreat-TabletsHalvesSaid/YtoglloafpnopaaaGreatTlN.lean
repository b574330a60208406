/- The law TabletsHalves: its walk. -/
import Derived.Test.YtoglloafpnopaaaGreatMgA
import Derived.Test.YtoglloafpnopaaaGreatTlL
set_option linter.unusedSimpArgs false
set_option linter.unusedVariables false
namespace Go.Proofs.YtoglloafpnopaaaGreat
set_option maxRecDepth 16000
open Go.RowKit Spoor
set_option linter.unusedVariables false
set_option linter.unusedSimpArgs false

/-- two copies of a tablet get their ends -/
theorem cut_boxes (F T kt : List UInt8) (M A : Option Addr) (n c qa qb : Nat) (W : World) (hne : qa ≠ qb) (ha : W.heap[qa]? = some (.cells #[.string ⟨F.toArray⟩, .string ⟨T.toArray⟩, .pointer M, .slice A n c] 31 (0, 0))) (hb : W.heap[qb]? = some (.cells #[.string ⟨F.toArray⟩, .string ⟨T.toArray⟩, .pointer M, .slice A n c] 31 (0, 0))) : ∃ Wd We,
    W.cell? ⟨qa, 1, none⟩ = some (.string ⟨T.toArray⟩) ∧ W.frozen? ⟨qa, 1, none⟩ = false ∧ W.setCell ⟨qa, 1, none⟩ (.string ⟨kt.toArray⟩) = Wd ∧
    Wd.cell? ⟨qb, 0, none⟩ = some (.string ⟨F.toArray⟩) ∧ Wd.frozen? ⟨qb, 0, none⟩ = false ∧ Wd.setCell ⟨qb, 0, none⟩ (.string ⟨kt.toArray⟩) = We ∧
    We.heap[qa]? = some (.cells #[.string ⟨F.toArray⟩, .string ⟨kt.toArray⟩, .pointer M, .slice A n c] 31 (0, 0)) ∧ We.heap[qb]? = some (.cells #[.string ⟨kt.toArray⟩, .string ⟨T.toArray⟩, .pointer M, .slice A n c] 31 (0, 0)) ∧ (∀ W0 : World, W0.heap.size ≤ qa → W0.heap.size ≤ qb → Below W0.heap.size W0 W → Below W0.heap.size W0 We) := by
  have k1 : ∀ k, k ≠ qa → (W.setCell ⟨qa, 1, none⟩ (.string ⟨kt.toArray⟩)).heap[k]? = W.heap[k]? := fun k hk => Below.heap_setCell _ ⟨qa, 1, none⟩ _ k hk
  have h1 : (W.setCell ⟨qa, 1, none⟩ (.string ⟨kt.toArray⟩)).heap[qa]? = some (.cells #[.string ⟨F.toArray⟩, .string ⟨kt.toArray⟩, .pointer M, .slice A n c] 31 (0, 0)) := by rw [heap_setCell_same W qa 1 _ _ _ ha]; rfl
  have h2 := (k1 qb hne.symm).trans hb
  have k2 : ∀ k, k ≠ qb → ((W.setCell ⟨qa, 1, none⟩ (.string ⟨kt.toArray⟩)).setCell ⟨qb, 0, none⟩ (.string ⟨kt.toArray⟩)).heap[k]? = (W.setCell ⟨qa, 1, none⟩ (.string ⟨kt.toArray⟩)).heap[k]? := fun k hk => Below.heap_setCell _ ⟨qb, 0, none⟩ _ k hk
  have h3 : ((W.setCell ⟨qa, 1, none⟩ (.string ⟨kt.toArray⟩)).setCell ⟨qb, 0, none⟩ (.string ⟨kt.toArray⟩)).heap[qb]? = some (.cells #[.string ⟨kt.toArray⟩, .string ⟨T.toArray⟩, .pointer M, .slice A n c] 31 (0, 0)) := by rw [heap_setCell_same _ qb 0 _ _ _ h2]; rfl
  exact ⟨_, _, (tab_cells ha).2.1, by simp [World.frozen?, ha], rfl, (tab_cells h2).1, by simp [World.frozen?, h2], rfl, (k2 qa hne).trans h1, h3, fun W0 l1 l2 b => below_set (below_set b l1 1 _) l2 0 _⟩
/-- and their memories -/
theorem mem_boxes (F T kt : List UInt8) (M Pa Pb A : Option Addr) (n c qa qb : Nat) (W : World) (hne : qa ≠ qb) (ha : W.heap[qa]? = some (.cells #[.string ⟨F.toArray⟩, .string ⟨kt.toArray⟩, .pointer M, .slice A n c] 31 (0, 0))) (hb : W.heap[qb]? = some (.cells #[.string ⟨kt.toArray⟩, .string ⟨T.toArray⟩, .pointer M, .slice A n c] 31 (0, 0))) : ∃ Wd We,
    W.cell? ⟨qa, 2, none⟩ = some (.pointer M) ∧ W.frozen? ⟨qa, 2, none⟩ = false ∧ W.setCell ⟨qa, 2, none⟩ (.pointer Pa) = Wd ∧
    Wd.cell? ⟨qb, 2, none⟩ = some (.pointer M) ∧ Wd.frozen? ⟨qb, 2, none⟩ = false ∧ Wd.setCell ⟨qb, 2, none⟩ (.pointer Pb) = We ∧
    We.heap[qa]? = some (.cells #[.string ⟨F.toArray⟩, .string ⟨kt.toArray⟩, .pointer Pa, .slice A n c] 31 (0, 0)) ∧ We.heap[qb]? = some (.cells #[.string ⟨kt.toArray⟩, .string ⟨T.toArray⟩, .pointer Pb, .slice A n c] 31 (0, 0)) ∧ AsF W We ∧ (∀ W0 : World, W0.heap.size ≤ qa → W0.heap.size ≤ qb → Below W0.heap.size W0 W → Below W0.heap.size W0 We) := by
  have k1 : ∀ k, k ≠ qa → (W.setCell ⟨qa, 2, none⟩ (.pointer Pa)).heap[k]? = W.heap[k]? := fun k hk => Below.heap_setCell _ ⟨qa, 2, none⟩ _ k hk
  have h1 : (W.setCell ⟨qa, 2, none⟩ (.pointer Pa)).heap[qa]? = some (.cells #[.string ⟨F.toArray⟩, .string ⟨kt.toArray⟩, .pointer Pa, .slice A n c] 31 (0, 0)) := by rw [heap_setCell_same W qa 2 _ _ _ ha]; rfl
  have h2 := (k1 qb hne.symm).trans hb
  have k2 : ∀ k, k ≠ qb → ((W.setCell ⟨qa, 2, none⟩ (.pointer Pa)).setCell ⟨qb, 2, none⟩ (.pointer Pb)).heap[k]? = (W.setCell ⟨qa, 2, none⟩ (.pointer Pa)).heap[k]? := fun k hk => Below.heap_setCell _ ⟨qb, 2, none⟩ _ k hk
  have h3 : ((W.setCell ⟨qa, 2, none⟩ (.pointer Pa)).setCell ⟨qb, 2, none⟩ (.pointer Pb)).heap[qb]? = some (.cells #[.string ⟨kt.toArray⟩, .string ⟨T.toArray⟩, .pointer Pb, .slice A n c] 31 (0, 0)) := by rw [heap_setCell_same _ qb 2 _ _ _ h2]; rfl
  have sz : ((W.setCell ⟨qa, 2, none⟩ (.pointer Pa)).setCell ⟨qb, 2, none⟩ (.pointer Pb)).heap.size = W.heap.size := by simp only [World.size_setCell]
  have aa : Aside qa W := ⟨_, _, ha, .inr (.inr (.inl rfl)), fun x A n c e => by cases e.2⟩
  have ab : Aside qb W := ⟨_, _, hb, .inr (.inr (.inl rfl)), fun x A n c e => by cases e.2⟩
  exact ⟨_, _, (tab_cells ha).2.2.1, by simp [World.frozen?, ha], rfl, (tab_cells h2).2.2.1, by simp [World.frozen?, h2], rfl, (k2 qa hne).trans h1, h3, ⟨by omega, fun k hk hn => (k2 k fun e => hn (e ▸ ab)).trans (k1 k fun e => hn (e ▸ aa))⟩, fun W0 l1 l2 b => below_set (below_set b l1 2 _) l2 2 _⟩
/-- a tablet stored -/
theorem tab_set4 {F T : List UInt8} {M A : Option Addr} {n c q : Nat} {W : World} {a b d e : Value} (h : W.heap[q]? = some (.cells #[a, b, d, e] 31 (0, 0))) : ∃ V,
    (((W.setCell ⟨q, 0, none⟩ (.string ⟨F.toArray⟩)).setCell ⟨q, 1, none⟩ (.string ⟨T.toArray⟩)).setCell ⟨q, 2, none⟩ (.pointer M)).setCell ⟨q, 3, none⟩ (.slice A n c) = V ∧
    V.heap[q]? = some (.cells #[.string ⟨F.toArray⟩, .string ⟨T.toArray⟩, .pointer M, .slice A n c] 31 (0, 0)) ∧ (∀ k, k ≠ q → V.heap[k]? = W.heap[k]?) ∧ V.heap.size = W.heap.size ∧ (∀ W0 : World, W0.heap.size ≤ q → Below W0.heap.size W0 W → Below W0.heap.size W0 V) :=
  ⟨_, rfl, set4 h, fun k hk => (Below.heap_setCell _ ⟨q, 3, none⟩ _ k hk).trans ((Below.heap_setCell _ ⟨q, 2, none⟩ _ k hk).trans ((Below.heap_setCell _ ⟨q, 1, none⟩ _ k hk).trans (Below.heap_setCell _ ⟨q, 0, none⟩ _ k hk))), by simp only [World.size_setCell], fun W0 l b => below_set (below_set (below_set (below_set b l 0 _) l 1 _) l 2 _) l 3 _⟩
/-- a cell laid in a box once more -/
theorem cell_reput {v : World} {g : Nat} {a b d : Value} (x : Ce) (h : v.heap[g]? = some (.cells #[a, b, d] 38 (0, 0))) : ∃ V,
    (v.cell? ⟨g, 0, none⟩ = some a ∧ v.cell? ⟨g, 1, none⟩ = some b ∧ v.cell? ⟨g, 2, none⟩ = some d) ∧ (v.frozen? ⟨g, 0, none⟩ = false ∧ v.frozen? ⟨g, 1, none⟩ = false ∧ v.frozen? ⟨g, 2, none⟩ = false) ∧
    ((v.setCell ⟨g, 0, none⟩ (.string ⟨x.k.toArray⟩)).setCell ⟨g, 1, none⟩ (.int .i64 x.q)).setCell ⟨g, 2, none⟩ (.string ⟨x.v.toArray⟩) = V ∧
    V.heap[g]? = some (.cells #[.string ⟨x.k.toArray⟩, .int .i64 x.q, .string ⟨x.v.toArray⟩] 38 (0, 0)) ∧ (∀ k, k ≠ g → V.heap[k]? = v.heap[k]?) ∧ (∀ W0 : World, W0.heap.size ≤ g → Below W0.heap.size W0 v → Below W0.heap.size W0 V) := by
  refine ⟨_, cells3 h, ⟨by simp [World.frozen?, h], by simp [World.frozen?, h], by simp [World.frozen?, h]⟩, rfl, set3 h, fun k hk => ?_, fun W0 l b => below_set (below_set (below_set b l 0 _) l 1 _) l 2 _⟩
  exact (Below.heap_setCell _ ⟨g, 2, none⟩ _ k hk).trans ((Below.heap_setCell _ ⟨g, 1, none⟩ _ k hk).trans (Below.heap_setCell _ ⟨g, 0, none⟩ _ k hk))
theorem RowOk.filter {r : List Ce} (h : RowOk r) (p : Ce → Bool) : RowOk (r.filter p) := by
  have hs := sorted_rise.1 h.2.2
  exact ⟨Nat.le_trans (List.length_filter_le _ _) h.1, fun c hc => h.2.1 c (List.mem_filter.1 hc).1, sorted_rise.2 ⟨rise_filter hs.1 _, fun c hc => hs.2 c (List.mem_filter.1 hc).1⟩⟩
theorem tab_short {F T x y : List UInt8} {L : List Ce} {Ts : List (List Ce)} (hL : RowOk L) (h : ∀ r ∈ Ts, RowOk r ∧ r.length ≤ 40) (hn : Ts.length ≤ 5) : (tabR F T (L :: Ts) x y).length ≤ 5200 := by
  have h1 := tabR_length F T (L :: Ts) x y
  have h3 := sum_le (R := Ts) (m := 40) fun r hr => (h r hr).2
  rw [List.map_cons, List.sum_cons] at h1
  have := hL.1
  omega
set_option maxRecDepth 100000 in
set_option maxHeartbeats 4000000 in
theorem tabletsHalves_law (w : World) (F T : List UInt8) (MA : Option Addr) (nm cm : Nat) (TA : Option Addr) (nt ct : Nat) (lm : List Ce) (Tl : List (List Ce)) (at' key : ByteArray) (hM : SlAt (.slice MA nm cm) lm w) (hT : RowsIn (.slice TA nt ct) Tl w) (wm : ∀ c ∈ lm, WfC c) (wT : ∀ l ∈ Tl, ∀ c ∈ l, WfC c) (hat : at'.size ≤ 140737488351232) (hkey : key.size ≤ 140737488351232) :
    Calls Tryz.prog 6 #[dataVal F T MA nm cm TA nt ct, .string at', .string key] w fun e w' => e = .returned (.bool true) ∧ Below w.heap.size w w' := by
  have es : key = ⟨key.data.toList.toArray⟩ := by cases key; simp
  rw [es] at hkey ⊢
  rw [size_of] at hkey
  generalize key.data.toList = ky at *
  clear es
  have es : at' = ⟨at'.data.toList.toArray⟩ := by cases at'; simp
  rw [es] at hat ⊢
  rw [size_of] at hat
  generalize at'.data.toList = kt at *
  clear es
  obtain ⟨xb, W0, hxb, hW0, hx0, nb0, sz0⟩ := new_data F T MA TA nm cm nt ct w
  obtain ⟨x0, x1, x2, x3⟩ := data_cells hx0
  have CB := Lib.hid (beyD_any F T MA nm cm TA nt ct lm Tl W0 (hM.later nb0) (hT.later nb0) wm wT)
  obtain ⟨R, hR⟩ : ∃ R, beyD F T lm Tl = R := ⟨_, rfl⟩
  rw [hR] at CB
  have HR := Lib.hid hR
  have HD := Lib.hid (And.intro (hM.later nb0) (And.intro (hT.later nb0) (And.intro wm (And.intro wT (And.intro hx0 nb0)))))
  clear hM hT wm wT hx0 nb0 hR
  unfold dataVal at CB ⊢
  by_cases hk : (100 : Int) < (ky.length : Int)
  · by_cases ha : (100 : Int) < (kt.length : Int)
    · cases R with
      | true =>
        go_enter Tryz.func6, Tryz.ntmps6
        go_wp2_with fail
        refine CB.out.mono ?_
        rintro e w1 ⟨rfl, b1⟩
        have HB := Lib.hid (btP HD.out.2.2.2.2.2 b1)
        clear b1 CB
        go_wp2_with fail
        refine (lives_true _).mono ?_
        rintro e w2 ⟨rfl, b2⟩
        have HB2 := Lib.hid (btP HB.out b2)
        clear b2
        go_wp2_with fail
        go_ret
        exact ⟨rfl, HB2.out⟩
      | false =>
        go_enter Tryz.func6, Tryz.ntmps6
        go_wp2_with fail
        refine CB.out.mono ?_
        rintro e w1 ⟨rfl, b1⟩
        have HB := Lib.hid (btP HD.out.2.2.2.2.2 b1)
        clear b1 CB
        go_wp2_with fail
        refine (lives_true _).mono ?_
        rintro e w2 ⟨rfl, b2⟩
        have HB2 := Lib.hid (btP HB.out b2)
        clear b2
        go_wp2_with fail
        go_ret
        exact ⟨rfl, HB2.out⟩
    · cases R with
      | true =>
        go_enter Tryz.func6, Tryz.ntmps6
        go_wp2_with fail
        refine CB.out.mono ?_
        rintro e w1 ⟨rfl, b1⟩
        have HB := Lib.hid (btP HD.out.2.2.2.2.2 b1)
        clear b1 CB
        go_wp2_with fail
        refine (lives_true _).mono ?_
        rintro e w2 ⟨rfl, b2⟩
        have HB2 := Lib.hid (btP HB.out b2)
        clear b2
        go_wp2_with fail
        go_ret
        exact ⟨rfl, HB2.out⟩
      | false =>
        go_enter Tryz.func6, Tryz.ntmps6
        go_wp2_with fail
        refine CB.out.mono ?_
        rintro e w1 ⟨rfl, b1⟩
        have HB := Lib.hid (btP HD.out.2.2.2.2.2 b1)
        clear b1 CB
        go_wp2_with fail
        refine (lives_true _).mono ?_
        rintro e w2 ⟨rfl, b2⟩
        have HB2 := Lib.hid (btP HB.out b2)
        clear b2
        go_wp2_with fail
        go_ret
        exact ⟨rfl, HB2.out⟩
  · by_cases ha : (100 : Int) < (kt.length : Int)
    · cases R with
      | true =>
        go_enter Tryz.func6, Tryz.ntmps6
        go_wp2_with fail
        refine CB.out.mono ?_
        rintro e w1 ⟨rfl, b1⟩
        have HB := Lib.hid (btP HD.out.2.2.2.2.2 b1)
        clear b1 CB
        go_wp2_with fail
        refine (lives_true _).mono ?_
        rintro e w2 ⟨rfl, b2⟩
        have HB2 := Lib.hid (btP HB.out b2)
        clear b2
        go_wp2_with fail
        go_ret
        exact ⟨rfl, HB2.out⟩
      | false =>
        go_enter Tryz.func6, Tryz.ntmps6
        go_wp2_with fail
        refine CB.out.mono ?_
        rintro e w1 ⟨rfl, b1⟩
        have HB := Lib.hid (btP HD.out.2.2.2.2.2 b1)
        clear b1 CB
        go_wp2_with fail
        refine (lives_true _).mono ?_
        rintro e w2 ⟨rfl, b2⟩
        have HB2 := Lib.hid (btP HB.out b2)
        clear b2
        go_wp2_with fail
        go_ret
        exact ⟨rfl, HB2.out⟩
    · cases R with
      | true =>
        go_enter Tryz.func6, Tryz.ntmps6
        go_wp2_with fail
        refine CB.out.mono ?_
        rintro e w1 ⟨rfl, b1⟩
        have HB := Lib.hid (btP HD.out.2.2.2.2.2 b1)
        clear b1 CB
        go_wp2_with fail
        refine (lives_true _).mono ?_
        rintro e w2 ⟨rfl, b2⟩
        have HB2 := Lib.hid (btP HB.out b2)
        clear b2
        go_wp2_with fail
        go_ret
        exact ⟨rfl, HB2.out⟩
      | false =>
        go_enter Tryz.func6, Tryz.ntmps6
        go_wp2_with fail
        refine CB.out.mono ?_
        rintro e w1 ⟨rfl, b1⟩
        have hx1 := (b1.block xb (Array.getElem?_eq_some_iff.1 HD.out.2.2.2.2.1).1).trans HD.out.2.2.2.2.1
        obtain ⟨y0, y1, y2, y3⟩ := data_cells hx1
        have hNo := beyD_no HR.out HD.out.2.2.1 HD.out.2.2.2.1
        have CM := Lib.hid (made_any F T MA nm cm TA nt ct lm Tl w1 (HD.out.1.later b1) (HD.out.2.1.later b1) hNo.2.2)
        obtain ⟨L, hL⟩ : ∃ L, putsC [] lm = L := ⟨_, rfl⟩
        obtain ⟨Ts, hTs⟩ : ∃ Ts, Tl.map (putsC []) = Ts := ⟨_, rfl⟩
        have hRw := data_rows hNo.2.2
        rw [hL, hTs] at CM hRw
        have HW := Lib.hid (And.intro (fun r (hr : r ∈ L :: Ts) => (hRw.1 r hr).1) (And.intro (fun r (hr : r ∈ Ts) => hRw.1 r (List.mem_cons_of_mem _ hr)) (And.intro hRw.2 (And.intro hNo.1 hNo.2.1))))
        have HB := Lib.hid (btP HD.out.2.2.2.2.2 b1)
        have HX1 := Lib.hid hx1
        unfold dataVal tabVal rvVal at CM
        clear b1 CB hx1 hNo hL hTs hRw
        go_wp2_with fail
        refine CM.out.mono ?_
        rintro e w2 ⟨p, fs, A, n, c, A2, n2, c2, rfl, hMm, hTt, hRr, b2⟩
        obtain ⟨b1, W5, W6, W7, W8, hb1, hW5, sz5, hW6, ⟨z0, z1, z2, z3⟩, zf, hW7, ⟨o0, o1, o2⟩, of, hW8, q8, r8, nb8, sz8⟩ := boxes2 F T (some ⟨p, 0, none⟩) A A2 n c n2 c2 w2
        obtain ⟨t0, t1, t2, t3⟩ := tab_cells q8
        have HX8 := Lib.hid ((nb8.block xb (Nat.lt_of_lt_of_le (Array.getElem?_eq_some_iff.1 HX1.out).1 b2.size)).trans ((b2.block xb (Array.getElem?_eq_some_iff.1 HX1.out).1).trans HX1.out))
        have HT := Lib.hid (And.intro (show MemPtr (some ⟨p, 0, none⟩) L W8 from .inr ⟨p, fs, rfl, hMm.later nb8⟩) (And.intro (hTt.later nb8) (And.intro (hRr.later nb8) (And.intro (btP HB.out (btP b2 nb8)) (And.intro (show n ≤ 10 by have := hTt.1; have := HW.out.2.2.1; omega) (And.intro (hMm.later nb8) (And.intro q8 r8)))))))
        clear hMm hTt hRr b2 nb8 q8 r8 CM HX1
        obtain ⟨v0, v1, v2, v3⟩ := data_cells HX8.out
        have hkl : ky.length ≤ 100 := by omega
        have hal : kt.length ≤ 100 := by omega
        cases c1 : Op.bytesLess F kt with
        | false =>
          cases d1 : Op.bytesLess kt F with
          | true =>
            have HB8 := Lib.hid HT.out.2.2.2.1
            go_wp2_with fail
            refine (lives_true _).mono ?_
            rintro e w3 ⟨rfl, b3⟩
            have HB2 := Lib.hid (btP HB8.out b3)
            clear b3
            go_wp2_with fail
            go_ret
            exact ⟨rfl, HB2.out⟩
          | false =>
            have d2 : (kt == F) = true := by
              rcases bl_or F kt with e | e | e
              · rw [c1] at e; cases e
              · rw [e]; simp
              · rw [d1] at e; cases e
            have HB8 := Lib.hid HT.out.2.2.2.1
            go_wp2_with fail
            refine (lives_true _).mono ?_
            rintro e w3 ⟨rfl, b3⟩
            have HB2 := Lib.hid (btP HB8.out b3)
            clear b3
            go_wp2_with fail
            go_ret
            exact ⟨rfl, HB2.out⟩
        | true =>
          have d1 : Op.bytesLess kt F = false := by
            cases e : Op.bytesLess kt F with
            | false => rfl
            | true => have := blk_trans c1 e; rw [bl_irrefl] at this; cases this
          have d2 : (kt == F) = false := by
            cases e : (kt == F) with
            | false => rfl
            | true => rw [eq_of_beq e, bl_irrefl] at c1; cases c1
          go_upto_region 6 with fail
          by_cases hno : T ≠ [] ∧ Op.bytesLess kt T = false
          · have e1 : (T == ([] : List UInt8)) = false := by simpa using hno.1
            have e2 := hno.2
            have HB8 := Lib.hid HT.out.2.2.2.1
            clear hno
            go_wp2_with fail
            refine (lives_true _).mono ?_
            rintro e w3 ⟨rfl, b3⟩
            have HB2 := Lib.hid (btP HB8.out b3)
            clear b3
            go_wp2_with fail
            go_ret
            exact ⟨rfl, HB2.out⟩
          · have hO : T = [] ∨ Op.bytesLess kt T = true := by
              by_cases h : T = []
              · exact .inl h
              · right
                cases e : Op.bytesLess kt T with
                | true => rfl
                | false => exact absurd ⟨h, e⟩ hno
            have HO := Lib.hid hO
            clear hno hO
            go_cut [57] (fun v wx => v = .bool false ∧ W8 = wx)
            case first =>
              rcases HO.out with h | h
              · have e1 : (T == ([] : List UInt8)) = true := by simp [h]
                go_wp2_with fail
                go_meet
                case rel => exact ⟨rfl, rfl⟩
              · by_cases h0 : T = []
                · have e1 : (T == ([] : List UInt8)) = true := by simp [h0]
                  go_wp2_with fail
                  go_meet
                  case rel => exact ⟨rfl, rfl⟩
                · have e1 : (T == ([] : List UInt8)) = false := by simpa using h0
                  go_wp2_with fail
                  go_meet
                  case rel => exact ⟨rfl, rfl⟩
            case' rest => skip
            obtain ⟨rfl, rfl⟩ := hcut
            have HF1 := Lib.hid c1
            clear z0 z1 z2 z3 zf o0 o1 o2 of hW5 hW6 hW7 hW8 sz5 hb1 x0 x1 x2 x3 y0 y1 y2 y3 hxb hW0 sz0
            clear v0 v1 v2 v3 c1
            have CA := tabRange F T [] [] (some ⟨p, 0, none⟩) A n c L Ts W8 HT.out.1 HT.out.2.1 HT.out.2.2.2.2.1 HW.out.1
            obtain ⟨res, hres⟩ : ∃ res, tabR F T (L :: Ts) [] [] = res := ⟨_, rfl⟩
            obtain ⟨ob, hob⟩ : ∃ ob, getT F T (L :: Ts) ky = ob := ⟨_, rfl⟩
            obtain ⟨cc, hcc⟩ : ∃ cc, getC ob = cc := ⟨_, rfl⟩
            obtain ⟨oo, hoo⟩ : ∃ oo, okC ob = oo := ⟨_, rfl⟩
            rw [hres] at CA
            have HCA := Lib.hid CA
            have hLr : Rise L := (HW.out.1 L List.mem_cons_self).rise
            have hTr : ∀ r ∈ Ts, Rise r := fun r hr => (HW.out.2.1 r hr).1.rise
            have hrange := halves_range (F := F) (T := T) (at' := kt) hLr hTr HF1.out HO.out
            rw [hres] at hrange
            have hlow := fun h => halves_low (F := F) (T := T) (at' := kt) (key := ky) hLr hTr HF1.out HO.out h
            have hhigh := fun h => halves_high (F := F) (T := T) (at' := kt) (key := ky) hLr hTr HF1.out h
            rw [hob] at hlow hhigh
            have hshort : res.length ≤ 5200 := hres ▸ tab_short (HW.out.1 L List.mem_cons_self) HW.out.2.1 HW.out.2.2.1
            have HP := Lib.hid (And.intro hrange (And.intro hlow (And.intro hhigh (And.intro hob (And.intro hcc (And.intro hoo hshort))))))
            unfold tabVal at HCA
            clear CA hres hob hcc hoo hLr hTr hrange hlow hhigh hshort
            go_wp2_with fail
            refine HCA.out.mono ?_
            rintro e v1 ⟨k1, u1, rfl, own1⟩
            have s1 := slAt_own own1
            obtain ⟨A1, c1, rfl⟩ := own_slice own1
            have m1 := (k1.block _ (Array.getElem?_eq_some_iff.1 HT.out.2.2.2.2.2.2.1).1).trans HT.out.2.2.2.2.2.2.1
            obtain ⟨i0, i1, i2, i3⟩ := tab_cells m1
            have cg := tabGet F T ky (some ⟨p, 0, none⟩) A n c L Ts v1 (HT.out.1.later k1) (HT.out.2.1.later k1) HT.out.2.2.2.2.1 HW.out.1 (by omega)
            rw [HP.out.2.2.2.1, ceV_eq, HP.out.2.2.2.2.1, HP.out.2.2.2.2.2.1] at cg
            have CG := Lib.hid cg
            unfold tabVal at CG
            have HS1 := Lib.hid (And.intro s1 (And.intro k1 m1))
            clear own1 s1 k1 m1 HCA cg t0 t1 t2 t3
            go_wp2_with fail
            refine CG.out.mono ?_
            rintro e v2 ⟨rfl, k2⟩
            obtain ⟨g1, U2, V2, hg1, hU2, ⟨a0, a1, a2⟩, ⟨af0, af1, af2⟩, hV2, zz2, nn2, sz2⟩ := cell_put v2 cc
            have K2 := btP k2 nn2
            have m2 := (K2.block _ (Array.getElem?_eq_some_iff.1 HS1.out.2.2).1).trans HS1.out.2.2
            obtain ⟨j0, j1, j2, j3⟩ := tab_cells m2
            have HS2 := Lib.hid (And.intro (HS1.out.1.later K2) (And.intro (HS1.out.2.1.trans (K2.mono HS1.out.2.1.size)) (And.intro m2 zz2)))
            clear k2 zz2 nn2 K2 m2 CG i0 i1 i2 i3
            go_wp2_with fail
            clear a0 a1 a2 af0 af1 af2 hU2 hV2 hg1
            go_cut [14, 15] (fun va vb wx => ∃ qa qb, va = .pointer (some ⟨qa, 0, none⟩) ∧ vb = .pointer (some ⟨qb, 0, none⟩) ∧ Hid (qa ≠ qb ∧ V2.heap.size ≤ qa ∧ V2.heap.size ≤ qb ∧ wx.heap[qa]? = some (.cells #[.string ⟨F.toArray⟩, .string ⟨T.toArray⟩, .pointer (some ⟨p, 0, none⟩), .slice A n c] 31 (0, 0)) ∧ wx.heap[qb]? = some (.cells #[.string ⟨F.toArray⟩, .string ⟨T.toArray⟩, .pointer (some ⟨p, 0, none⟩), .slice A n c] 31 (0, 0)) ∧ Below V2.heap.size V2 wx))
            case first =>
              refine (wpIn_wide (n := 5)).1 ?_
              refine wpIn_region_lit_late (fun w' => Below V2.heap.size V2 w') (fun _ => false) (k := 6) (listed := #[false, false, false, false, false, false]) (by kernel_rfl) (by kernel_rfl) (by kernel_rfl) ?_
              have hS := Below.drew (Below.refl V2.heap.size V2)
              obtain ⟨z0, hz0⟩ : ∃ z0, V2.drew = z0 := ⟨_, rfl⟩
              rw [hz0] at hS ⊢
              clear hz0 j0 j1 j2 j3
              refine AnyS.get (i := 0) (some 70) ?_ rfl rfl (by kernel_rfl) (by kernel_rfl) (by kernel_rfl) (by kernel_rfl) (fun _ _ _ h => h) (Reads.yes (by kernel_rfl) ?_ (fun _ => rfl)) hS ?_
              rotate_left
              · intro w' hw'
                have hm := (hw'.block b1 (Array.getElem?_eq_some_iff.1 HS2.out.2.2.1).1).trans HS2.out.2.2.1
                obtain ⟨j0, j1, j2, j3⟩ := tab_cells hm
                go_simp
                with_reducible rfl
              simp only [Act.put, List.setIfInBounds_toArray, List.set_cons_succ, List.set_cons_zero]
              refine AnyS.get (i := 1) (some 71) ?_ rfl rfl (by kernel_rfl) (by kernel_rfl) (by kernel_rfl) (by kernel_rfl) (fun _ _ _ h => h) (Reads.yes (by kernel_rfl) ?_ (fun _ => rfl)) hS ?_
              rotate_left
              · intro w' hw'
                have hm := (hw'.block b1 (Array.getElem?_eq_some_iff.1 HS2.out.2.2.1).1).trans HS2.out.2.2.1
                obtain ⟨j0, j1, j2, j3⟩ := tab_cells hm
                go_simp
                with_reducible rfl
              simp only [Act.put, List.setIfInBounds_toArray, List.set_cons_succ, List.set_cons_zero]
              have HZ0 := Lib.hid hS
              clear hS
              refine AnyS.two (i := 2) (j := 3) rfl rfl (by kernel_rfl) (by kernel_rfl) (fun K hK => ?_) (fun K hK => ?_)
              · refine want_yes (by kernel_rfl) ?_
                obtain ⟨q1, hq1⟩ : ∃ q, z0.heap.size = q := ⟨_, rfl⟩
                have lq1 : V2.heap.size ≤ q1 := by have := HZ0.out.size; omega
                obtain ⟨z1, hz1, fz1, nz1, szz1, -⟩ := new_tab z0 q1 hq1
                have HZ1 := Lib.hid (HZ0.out.trans (nz1.mono HZ0.out.size))
                have Ff2_z1 := Lib.hid fz1
                clear fz1 nz1 szz1
                go_simp
                refine hK _ _ (fun _ => HZ1.out) ?_
                clear hK K
                simp only [Act.put, List.setIfInBounds_toArray, List.set_cons_succ, List.set_cons_zero]
                clear hz1 hq1
                refine AnyS.next (i := 3) rfl (by kernel_rfl) (by kernel_rfl) fun K hK => ?_
                refine want_yes (by kernel_rfl) ?_
                obtain ⟨q2, hq2⟩ : ∃ q, z1.heap.size = q := ⟨_, rfl⟩
                have lq2 : V2.heap.size ≤ q2 := by have := HZ1.out.size; omega
                obtain ⟨z2, hz2, fz2, nz2, szz2, -⟩ := new_tab z1 q2 hq2
                have HZ2 := Lib.hid (HZ1.out.trans (nz2.mono HZ1.out.size))
                have Ff3_z2 := Lib.hid fz2
                have lq2_2 : q1 < q2 := by have := (Array.getElem?_eq_some_iff.1 Ff2_z1.out).1; omega
                have Ff2_z2 := Lib.hid ((nz2.block _ (Array.getElem?_eq_some_iff.1 Ff2_z1.out).1).trans Ff2_z1.out)
                clear fz2 nz2 szz2
                go_simp
                refine hK _ _ (fun _ => HZ2.out) ?_
                clear hK K
                simp only [Act.put, List.setIfInBounds_toArray, List.set_cons_succ, List.set_cons_zero]
                clear hz2 hq2
                refine AnyS.next (i := 4) rfl (by kernel_rfl) (by kernel_rfl) fun K hK => ?_
                refine want_yes (by kernel_rfl) ?_
                obtain ⟨y0, y1, y2, y3⟩ := tab_cells0 Ff2_z2.out
                have yf : ∀ j, z2.frozen? ⟨q1, j, none⟩ = false := fun j => by simp [World.frozen?, Ff2_z2.out]
                obtain ⟨z3, hz3, fz3, kz3, sz3, bz3⟩ := tab_set4 (F := F) (T := T) (M := some ⟨p, 0, none⟩) (A := A) (n := n) (c := c) Ff2_z2.out
                have HZ3 := Lib.hid (bz3 V2 (by omega) HZ2.out)
                have Ff2_z3 := Lib.hid fz3
                have Ff3_z3 := Lib.hid ((kz3 _ (by omega)).trans Ff3_z2.out)
                clear fz3 kz3 bz3
                go_simp
                refine hK _ _ (fun _ => HZ3.out) ?_
                clear hK K
                simp only [Act.put, List.setIfInBounds_toArray, List.set_cons_succ, List.set_cons_zero]
                clear hz3 y0 y1 y2 y3 yf sz3
                refine AnyS.next (i := 5) rfl (by kernel_rfl) (by kernel_rfl) fun K hK => ?_
                refine want_yes (by kernel_rfl) ?_
                obtain ⟨y0, y1, y2, y3⟩ := tab_cells0 Ff3_z3.out
                have yf : ∀ j, z3.frozen? ⟨q2, j, none⟩ = false := fun j => by simp [World.frozen?, Ff3_z3.out]
                obtain ⟨z4, hz4, fz4, kz4, sz4, bz4⟩ := tab_set4 (F := F) (T := T) (M := some ⟨p, 0, none⟩) (A := A) (n := n) (c := c) Ff3_z3.out
                have HZ4 := Lib.hid (bz4 V2 (by omega) HZ3.out)
                have Ff3_z4 := Lib.hid fz4
                have Ff2_z4 := Lib.hid ((kz4 _ (by omega)).trans Ff2_z3.out)
                clear fz4 kz4 bz4
                go_simp
                refine hK _ _ (fun _ => HZ4.out) ?_
                clear hK K
                simp only [Act.put, List.setIfInBounds_toArray, List.set_cons_succ, List.set_cons_zero]
                clear hz4 y0 y1 y2 y3 yf sz4
                refine AnyS.done (by kernel_rfl) ?_ _
                go_wp2_with fail
                go_meet
                exact ⟨q1, q2, rfl, rfl, Lib.hid ⟨by omega, by omega, by omega, Ff2_z4.out, Ff3_z4.out, HZ4.out⟩⟩
              · refine want_yes (by kernel_rfl) ?_
                obtain ⟨q5, hq5⟩ : ∃ q, z0.heap.size = q := ⟨_, rfl⟩
                have lq5 : V2.heap.size ≤ q5 := by have := HZ0.out.size; omega
                obtain ⟨z5, hz5, fz5, nz5, szz5, -⟩ := new_tab z0 q5 hq5
                have HZ5 := Lib.hid (HZ0.out.trans (nz5.mono HZ0.out.size))
                have Ff3_z5 := Lib.hid fz5
                clear fz5 nz5 szz5
                go_simp
                refine hK _ _ (fun _ => HZ5.out) ?_
                clear hK K
                simp only [Act.put, List.setIfInBounds_toArray, List.set_cons_succ, List.set_cons_zero]
                clear hz5 hq5
                refine AnyS.next (i := 2) rfl (by kernel_rfl) (by kernel_rfl) fun K hK => ?_
                refine want_yes (by kernel_rfl) ?_
                obtain ⟨q6, hq6⟩ : ∃ q, z5.heap.size = q := ⟨_, rfl⟩
                have lq6 : V2.heap.size ≤ q6 := by have := HZ5.out.size; omega
                obtain ⟨z6, hz6, fz6, nz6, szz6, -⟩ := new_tab z5 q6 hq6
                have HZ6 := Lib.hid (HZ5.out.trans (nz6.mono HZ5.out.size))
                have Ff2_z6 := Lib.hid fz6
                have lq6_3 : q5 < q6 := by have := (Array.getElem?_eq_some_iff.1 Ff3_z5.out).1; omega
                have Ff3_z6 := Lib.hid ((nz6.block _ (Array.getElem?_eq_some_iff.1 Ff3_z5.out).1).trans Ff3_z5.out)
                clear fz6 nz6 szz6
                go_simp
                refine hK _ _ (fun _ => HZ6.out) ?_
                clear hK K
                simp only [Act.put, List.setIfInBounds_toArray, List.set_cons_succ, List.set_cons_zero]
                clear hz6 hq6
                refine AnyS.next (i := 4) rfl (by kernel_rfl) (by kernel_rfl) fun K hK => ?_
                refine want_yes (by kernel_rfl) ?_
                obtain ⟨y0, y1, y2, y3⟩ := tab_cells0 Ff2_z6.out
                have yf : ∀ j, z6.frozen? ⟨q6, j, none⟩ = false := fun j => by simp [World.frozen?, Ff2_z6.out]
                obtain ⟨z7, hz7, fz7, kz7, sz7, bz7⟩ := tab_set4 (F := F) (T := T) (M := some ⟨p, 0, none⟩) (A := A) (n := n) (c := c) Ff2_z6.out
                have HZ7 := Lib.hid (bz7 V2 (by omega) HZ6.out)
                have Ff2_z7 := Lib.hid fz7
                have Ff3_z7 := Lib.hid ((kz7 _ (by omega)).trans Ff3_z6.out)
                clear fz7 kz7 bz7
                go_simp
                refine hK _ _ (fun _ => HZ7.out) ?_
                clear hK K
                simp only [Act.put, List.setIfInBounds_toArray, List.set_cons_succ, List.set_cons_zero]
                clear hz7 y0 y1 y2 y3 yf sz7
                refine AnyS.next (i := 5) rfl (by kernel_rfl) (by kernel_rfl) fun K hK => ?_
                refine want_yes (by kernel_rfl) ?_
                obtain ⟨y0, y1, y2, y3⟩ := tab_cells0 Ff3_z7.out
                have yf : ∀ j, z7.frozen? ⟨q5, j, none⟩ = false := fun j => by simp [World.frozen?, Ff3_z7.out]
                obtain ⟨z8, hz8, fz8, kz8, sz8, bz8⟩ := tab_set4 (F := F) (T := T) (M := some ⟨p, 0, none⟩) (A := A) (n := n) (c := c) Ff3_z7.out
                have HZ8 := Lib.hid (bz8 V2 (by omega) HZ7.out)
                have Ff3_z8 := Lib.hid fz8
                have Ff2_z8 := Lib.hid ((kz8 _ (by omega)).trans Ff2_z7.out)
                clear fz8 kz8 bz8
                go_simp
                refine hK _ _ (fun _ => HZ8.out) ?_
                clear hK K
                simp only [Act.put, List.setIfInBounds_toArray, List.set_cons_succ, List.set_cons_zero]
                clear hz8 y0 y1 y2 y3 yf sz8
                refine AnyS.done (by kernel_rfl) ?_ _
                go_wp2_with fail
                go_meet
                exact ⟨q6, q5, rfl, rfl, Lib.hid ⟨by omega, by omega, by omega, Ff2_z8.out, Ff3_z8.out, HZ8.out⟩⟩
            case' rest => skip
            obtain ⟨qa, qb, rfl, rfl, HJ⟩ := hcut
            obtain ⟨Wd, We, e1, e2, hWd, e3, e4, hWe, ha, hb, hBe⟩ := cut_boxes F T kt (some ⟨p, 0, none⟩) A n c qa qb wc HJ.out.1 HJ.out.2.2.2.1 HJ.out.2.2.2.2.1
            have Be := hBe V2 HJ.out.2.1 HJ.out.2.2.1 HJ.out.2.2.2.2.2
            have Be8 := HS2.out.2.1.trans (Be.mono HS2.out.2.1.size)
            have mE := (Be.block _ (Array.getElem?_eq_some_iff.1 HS2.out.2.2.1).1).trans HS2.out.2.2.1
            obtain ⟨i0, i1, i2, i3⟩ := tab_cells mE
            have CU := Lib.hid (cutM_any p L fs kt We (HT.out.2.2.2.2.2.1.later Be8) (by have := (HW.out.1 L List.mem_cons_self).1; omega))
            have HE := Lib.hid (And.intro ha (And.intro hb (And.intro Be Be8)))
            clear ha hb hBe Be Be8 mE j0 j1 j2 j3
            go_wp2_with fail
            refine CU.out.mono ?_
            rintro e w5 ⟨pa, fa, pb, fb, rfl, Ma, Mb, -, -, -, b5⟩
            have ha5 := (b5.block _ (Array.getElem?_eq_some_iff.1 HE.out.1).1).trans HE.out.1
            have hb5 := (b5.block _ (Array.getElem?_eq_some_iff.1 HE.out.2.1).1).trans HE.out.2.1
            obtain ⟨Wf, Wg, f1, f2, hWf, f3, f4, hWg, ga, gb, hA, hBg⟩ := mem_boxes F T kt (some ⟨p, 0, none⟩) (some ⟨pa, 0, none⟩) (some ⟨pb, 0, none⟩) A n c qa qb w5 HJ.out.1 ha5 hb5
            have BG := hBg V2 HJ.out.2.1 HJ.out.2.2.1 (HE.out.2.2.1.trans (b5.mono HE.out.2.2.1.size))
            have BG8 := HS2.out.2.1.trans (BG.mono HS2.out.2.1.size)
            obtain ⟨ga0, ga1, ga2, ga3⟩ := tab_cells ga
            have HMP := Lib.hid (And.intro (show MemPtr (some ⟨pa, 0, none⟩) (lowC L kt) Wg from .inr ⟨pa, fa, rfl, Ma.asf hA⟩) (And.intro (show MemPtr (some ⟨pb, 0, none⟩) (highC L kt) Wg from .inr ⟨pb, fb, rfl, Mb.asf hA⟩) (And.intro (HT.out.2.1.later BG8) (And.intro BG BG8))))
            have hRa : ∀ r ∈ lowC L kt :: Ts, RowOk r := fun r hr => by
              rcases List.mem_cons.1 hr with rfl | hr
              · exact (HW.out.1 L List.mem_cons_self).filter _
              · exact (HW.out.2.1 r hr).1
            have hRb : ∀ r ∈ highC L kt :: Ts, RowOk r := fun r hr => by
              rcases List.mem_cons.1 hr with rfl | hr
              · exact (HW.out.1 L List.mem_cons_self).filter _
              · exact (HW.out.2.1 r hr).1
            have HRR := Lib.hid (And.intro hRa hRb)
            have CL := tabRange F kt [] [] (some ⟨pa, 0, none⟩) A n c (lowC L kt) Ts Wg HMP.out.1 HMP.out.2.2.1 HT.out.2.2.2.2.1 hRa
            obtain ⟨la, hla⟩ : ∃ la, tabR F kt (lowC L kt :: Ts) [] [] = la := ⟨_, rfl⟩
            obtain ⟨lb, hlb⟩ : ∃ lb, tabR kt T (highC L kt :: Ts) [] [] = lb := ⟨_, rfl⟩
            rw [hla] at CL
            have HLB := Lib.hid hlb
            have hres := HP.out.1
            rw [hla, hlb] at hres
            have HRE := Lib.hid hres
            have HCL := Lib.hid CL
            unfold tabVal at HCL
            have HG := Lib.hid (And.intro ga gb)
            clear CL hla hlb hres hRa hRb Ma Mb hA hBg BG BG8 ga gb b5 ha5 hb5 CU i0 i1 i2 i3
            go_wp2_with fail
            refine HCL.out.mono ?_
            rintro e x1 ⟨k1, ul, rfl, ownl⟩
            have sl := slAt_own ownl
            obtain ⟨Al, cl, rfl⟩ := own_slice ownl
            have mb1 := (k1.block _ (Array.getElem?_eq_some_iff.1 HG.out.2).1).trans HG.out.2
            obtain ⟨gb0, gb1, gb2, gb3⟩ := tab_cells mb1
            have CR := tabRange kt T [] [] (some ⟨pb, 0, none⟩) A n c (highC L kt) Ts x1 (HMP.out.2.1.later k1) (HMP.out.2.2.1.later k1) HT.out.2.2.2.2.1 HRR.out.2
            rw [HLB.out] at CR
            have HCR := Lib.hid CR
            unfold tabVal at HCR
            have HX1 := Lib.hid (And.intro sl k1)
            clear CR sl k1 ownl mb1 HCL ga0 ga1 ga2 ga3 hWd hWe hWf hWg e1 e2 e3 e4 f1 f2 f3 f4
            go_wp2_with fail
            refine HCR.out.mono ?_
            rintro e x2 ⟨k2, um, rfl, ownm⟩
            have sm := slAt_own ownm
            obtain ⟨Am, cm', rfl⟩ := own_slice ownm
            have B2g := btP HX1.out.2 k2
            have hsl : la.length + lb.length ≤ 5200 := by have := HP.out.2.2.2.2.2.2; rw [← HRE.out, List.length_append] at this; exact this
            obtain ⟨v7, w7, run7, own7, b7⟩ := run_append_sl (base := x2.heap.size) (l := []) (World.ownsRow_nil _ _ _ _) (Nat.le_refl _) (HX1.out.1.later k2) (by simp only [List.length_nil]; omega)
            rw [List.nil_append] at own7
            obtain ⟨v8, w8, run8, own8, b8⟩ := run_append_sl own7 b7.size (sm.later b7) (by omega)
            rw [HRE.out] at own8
            have B8g := btP B2g (b7.trans (b8.mono (Nat.le_refl _)))
            have s8 := slAt_own own8
            have SC := sameT_any _ v8 res res w8 (HS2.out.1.later (HMP.out.2.2.2.1.trans (B8g.mono HMP.out.2.2.2.1.size))) s8
            rw [decide_eq_true rfl] at SC
            have HSC := Lib.hid SC
            have R7 := Lib.hid run7
            have R8 := Lib.hid run8
            have HX2 := Lib.hid B8g
            clear k2 ownm sm B2g hsl run7 own7 b7 run8 own8 b8 s8 SC B8g HCR gb0 gb1 gb2 gb3
            go_wp2_with (at_builtin; first | refine wpList_append_runG (by kernel_rfl) _ _ 22 22 rfl _ _ rfl rfl R7.out ?_ | refine wpList_append_runG (by kernel_rfl) _ _ 22 22 rfl _ _ rfl rfl R8.out ?_)
            refine HSC.out.mono ?_
            rintro e x3 ⟨rfl, k3⟩
            have K3 := btP HX2.out k3
            have ma3 := (K3.block _ (Array.getElem?_eq_some_iff.1 HG.out.1).1).trans HG.out.1
            obtain ⟨n0, n1, n2, n3⟩ := tab_cells ma3
            obtain ⟨oa, hoa⟩ : ∃ oa, getT F kt (lowC L kt :: Ts) ky = oa := ⟨_, rfl⟩
            obtain ⟨ca, hca⟩ : ∃ ca, getC oa = ca := ⟨_, rfl⟩
            obtain ⟨ba, hba⟩ : ∃ ba, okC oa = ba := ⟨_, rfl⟩
            have cg := tabGet F kt ky (some ⟨pa, 0, none⟩) A n c (lowC L kt) Ts x3 (HMP.out.1.later K3) (HMP.out.2.2.1.later K3) HT.out.2.2.2.2.1 HRR.out.1 (by omega)
            rw [hoa, ceV_eq, hca, hba] at cg
            have CG := Lib.hid cg
            unfold tabVal at CG
            have HX3 := Lib.hid (And.intro K3 (And.intro hoa (And.intro hca hba)))
            clear K3 k3 ma3 cg hoa hca hba HSC R7 R8
            go_wp2_with fail
            refine CG.out.mono ?_
            rintro e x4 ⟨rfl, k4⟩
            obtain ⟨g2, U4, V4, hg2, hU4, ⟨d0, d1, d2⟩, ⟨df0, df1, df2⟩, hV4, zz4, nn4, sz4⟩ := cell_put x4 ca
            have K4 := btP k4 nn4
            have K4g := btP HX3.out.1 K4
            have K42 := HMP.out.2.2.2.1.trans (K4g.mono HMP.out.2.2.2.1.size)
            have g1z := (K42.block _ (Array.getElem?_eq_some_iff.1 HS2.out.2.2.2).1).trans HS2.out.2.2.2
            have g1ne : g1 ≠ g2 := by
              have h1 := (Array.getElem?_eq_some_iff.1 HS2.out.2.2.2).1
              have h2 := K42.size
              have h3 := (HMP.out.2.2.2.1.trans ((btP HX3.out.1 k4).mono HMP.out.2.2.2.1.size)).size
              omega
            have HX4 := Lib.hid (And.intro g1z (And.intro zz4 (And.intro K4g (And.intro g1ne (show V2.heap.size ≤ g2 by have := (HMP.out.2.2.2.1.trans ((btP HX3.out.1 k4).mono HMP.out.2.2.2.1.size)).size; omega)))))
            clear k4 nn4 zz4 K4 K4g K42 g1z g1ne CG n0 n1 n2 n3
            cases hlt : Op.bytesLess ky kt with
            | true =>
              have ho : oa = ob := HX3.out.2.1.symm.trans (HP.out.2.1 hlt)
              have hc : ca = cc := by rw [← HX3.out.2.2.1, ho, HP.out.2.2.2.2.1]
              have hb : ba = oo := by rw [← HX3.out.2.2.2, ho, HP.out.2.2.2.2.2.1]
              clear ho
              subst hc hb
              obtain ⟨r0, r1, r2⟩ := cells3 HX4.out.1
              obtain ⟨s0, s1, s2⟩ := cells3 HX4.out.2.1
              have ee := fun W => eql_ce ca ca W
              rw [decide_eq_true rfl] at ee
              unfold ceVal at ee
              have eb := fun W => eql_bb ba W
              have HE5 := Lib.hid (btP HT.out.2.2.2.1 (HMP.out.2.2.2.2.trans (HX4.out.2.2.1.mono HMP.out.2.2.2.2.size)))
              go_wp2_with fail
              refine (lives_true _).mono ?_
              rintro e v6 ⟨rfl, k6⟩
              have HE6 := Lib.hid (btP HE5.out k6)
              clear k6
              go_wp2_with fail
              go_ret
              exact ⟨rfl, HE6.out⟩
            | false =>
              have mb4 := (HX4.out.2.2.1.block _ (Array.getElem?_eq_some_iff.1 HG.out.2).1).trans HG.out.2
              obtain ⟨n0, n1, n2, n3⟩ := tab_cells mb4
              have cg := tabGet kt T ky (some ⟨pb, 0, none⟩) A n c (highC L kt) Ts V4 (HMP.out.2.1.later HX4.out.2.2.1) (HMP.out.2.2.1.later HX4.out.2.2.1) HT.out.2.2.2.2.1 HRR.out.2 (by omega)
              rw [HP.out.2.2.1 hlt, ceV_eq, HP.out.2.2.2.2.1, HP.out.2.2.2.2.2.1] at cg
              have CG := Lib.hid cg
              unfold tabVal at CG
              clear mb4 cg
              go_wp2_with fail
              refine CG.out.mono ?_
              rintro e x5 ⟨rfl, k5⟩
              have z25 := (k5.block _ (Array.getElem?_eq_some_iff.1 HX4.out.2.1).1).trans HX4.out.2.1
              have z15 := (k5.block _ (Array.getElem?_eq_some_iff.1 HX4.out.1).1).trans HX4.out.1
              obtain ⟨V5, ⟨c50, c51, c52⟩, ⟨cf0, cf1, cf2⟩, hV5, zz5, kk5, hB5⟩ := cell_reput cc z25
              have z1V := (kk5 g1 HX4.out.2.2.2.1).trans z15
              obtain ⟨r0, r1, r2⟩ := cells3 z1V
              obtain ⟨s0, s1, s2⟩ := cells3 zz5
              have ee := fun W => eql_ce cc cc W
              rw [decide_eq_true rfl] at ee
              unfold ceVal at ee
              have eb := fun W => eql_bb oo W
              have HE5 := Lib.hid (btP HT.out.2.2.2.1 (HS2.out.2.1.trans ((hB5 V2 HX4.out.2.2.2.2 (HMP.out.2.2.2.1.trans ((btP HX4.out.2.2.1 k5).mono HMP.out.2.2.2.1.size))).mono HS2.out.2.1.size)))
              clear k5 z25 z15 zz5 kk5 hB5 z1V CG n0 n1 n2 n3
              go_wp2_with fail
              refine (lives_true _).mono ?_
              rintro e v6 ⟨rfl, k6⟩
              have HE6 := Lib.hid (btP HE5.out k6)
              clear k6
              go_wp2_with fail
              go_ret
              exact ⟨rfl, HE6.out⟩
end Go.Proofs.YtoglloafpnopaaaGreat
