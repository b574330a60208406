/- A table, in memory: the block from which a key may lie on. -/
import Derived.Test.YtanaoepakllohaaTabI
namespace Go.Proofs.Ytanaoepakllohaa
set_option maxRecDepth 16000
open Go.RowKit Spoor
set_option linter.unusedVariables false

/-- a table of these blocks -/
def TabAt (t : Nat) (gs : List (List Ce)) (w : World) : Prop := ∃ v, w.heap[t]? = some (.cells #[v] 57 (0, 0)) ∧ BksAt 0 v gs w
theorem TabAt.later {t : Nat} {gs : List (List Ce)} {w w' : World} (h : TabAt t gs w) (hb : Below w.heap.size w w') : TabAt t gs w' := by
  obtain ⟨v, h1, h2⟩ := h
  exact ⟨v, (hb.block t (Array.getElem?_eq_some_iff.1 h1).1).trans h1, h2.later hb⟩
theorem TabAt.cell {t : Nat} {gs : List (List Ce)} {w : World} (h : TabAt t gs w) : ∃ A cap, w.cell? ⟨t, 0, none⟩ = some (.slice A gs.length cap) ∧ t < w.heap.size ∧ gs.length ≤ cap ∧ cap ≤ maxLen ∧ (gs.length = 0 → (A = none ∧ cap = 0) ∨ ∃ g, A = some ⟨g, 0, none⟩) ∧ (0 < gs.length → ∃ g, A = some ⟨g, 0, none⟩ ∧ g < w.heap.size ∧ ∀ i, i < gs.length →
    w.cell? ⟨g, i * 2, none⟩ = some (.string ⟨(keyG (gs.getD i [])).toArray⟩) ∧ ∃ s, w.cell? ⟨g, i * 2 + 1, none⟩ = some s ∧ SlAt s (gs.getD i []) w) := by
  obtain ⟨v, h1, A, cap, rfl, h2, h3, hz, h4⟩ := h
  refine ⟨A, cap, by simp [World.cell?, h1], (Array.getElem?_eq_some_iff.1 h1).1, h2, h3, hz, fun h0 => ?_⟩
  obtain ⟨g, e, -, hg, hc⟩ := h4 h0
  exact ⟨g, e, hg, fun i hi => by obtain ⟨c1, s, b, c2, -, c4⟩ := hc i hi; exact ⟨c1, s, c2, c4.sl⟩⟩
theorem behindAt_any (t : Nat) (gs : List (List Ce)) (key : List UInt8) (k : Nat) (w : World) (h : TabAt t gs w) (hk : k < gs.length) :
    Calls Try.prog 76 #[.agg #[.pointer (some ⟨t, 0, none⟩), .string ⟨key.toArray⟩], .int .i64 k] w fun e w' => e = .returned (.bool (!Op.bytesLess (keyG (gs.getD k [])) key)) ∧ Below w.heap.size w w' := by
  obtain ⟨A, cap, c0, ht, hc1, hc2, -, hrow⟩ := h.cell
  obtain ⟨g, rfl, hg, hcells⟩ := hrow (by omega)
  obtain ⟨c1, -, -⟩ := hcells k hk
  obtain ⟨n, hn⟩ : ∃ n, gs.length = n := ⟨_, rfl⟩
  rw [hn] at c0 hk hc1
  have nb := (Below.refl w.heap.size w).alloc (Nat.le_refl _) (.cells #[.pointer (some ⟨t, 0, none⟩), .string ⟨key.toArray⟩] 110)
  have c0' := (nb.cell (p := ⟨t, 0, none⟩) ht).trans c0
  have c1' := (nb.cell (p := ⟨g, k * 2, none⟩) hg).trans c1
  have hc3 : cap ≤ 9223372036854775807 := by unfold maxLen at hc2; omega
  have y0 : (w.alloc (.cells #[.pointer (some ⟨t, 0, none⟩), .string ⟨key.toArray⟩] 110)).cell? ⟨w.heap.size, 0, none⟩ = some (.pointer (some ⟨t, 0, none⟩)) := by rw [World.cell?_alloc_at _ _ _ _ (by simp)]; rfl
  have y1 : (w.alloc (.cells #[.pointer (some ⟨t, 0, none⟩), .string ⟨key.toArray⟩] 110)).cell? ⟨w.heap.size, 1, none⟩ = some (.string ⟨key.toArray⟩) := by rw [World.cell?_alloc_at _ _ _ _ (by simp)]; rfl
  have NB := Lib.hid nb
  clear nb c0 c1 hcells hrow hc2 h hn
  go_enter Try.func76, Try.ntmps76
  go_wp2_with fail
  generalize w.alloc _ = w1 at *
  go_quiet (fail)
  go_wp2_with fail
  go_ret
  exact ⟨ret1 rfl, below_drewN NB.out _⟩
/-- the heads of the blocks -/
def headsG (gs : List (List Ce)) : List Ce := gs.map fun g => g.headD Ce.zero
theorem heads_sub : ∀ {gs : List (List Ce)}, (∀ g ∈ gs, g ≠ []) → (headsG gs).Sublist gs.flatten
  | [], _ => List.Sublist.refl _
  | g :: gs, h => by
    obtain ⟨c, l, rfl, -⟩ := keyG_head (h g (by simp))
    have ih := heads_sub (gs := gs) (fun x hx => h x (by simp [hx]))
    rw [List.flatten_cons]
    show (c :: headsG gs).Sublist (c :: l ++ gs.flatten)
    exact List.Sublist.cons_cons c (ih.trans (List.sublist_append_right l gs.flatten))
def posG (gs : List (List Ce)) (key : List UInt8) : Nat := keyPos (headsG gs) key
theorem posG_facts {gs : List (List Ce)} (hr : Rise gs.flatten) (hne : ∀ g ∈ gs, g ≠ []) (key : List UInt8) : posG gs key ≤ gs.length ∧ (∀ i, i < posG gs key → Op.bytesLess (keyG (gs.getD i [])) key = true) ∧ ∀ i, posG gs key ≤ i → i < gs.length → Op.bytesLess (keyG (gs.getD i [])) key = false := by
  have hl : (headsG gs).length = gs.length := by simp [headsG]
  have h1 := keyPos_le (headsG gs) key
  have h2 := keyPos_facts key (show Rise (headsG gs) from hr.sublist (heads_sub hne))
  have e : ∀ i, i < gs.length → ((headsG gs).getD i Ce.zero).k = keyG (gs.getD i []) := fun i hi => by simp [headsG, keyG, List.getD, hi]
  unfold posG
  refine ⟨by omega, fun i hi => ?_, fun i hi hi2 => ?_⟩
  · rw [← e i (by omega)]
    exact h2.1 i hi
  · rw [← e i hi2]
    exact h2.2 i hi (by omega)
set_option maxRecDepth 100000 in
theorem searchT_any (t : Nat) (gs : List (List Ce)) (key : List UInt8) (w : World) (h : TabAt t gs w) (hr : Rise gs.flatten) (hne : ∀ g ∈ gs, g ≠ []) (hbig : gs.length ≤ 1000000) :
    Calls Try.prog 75 #[.int .i64 gs.length, .func (.func 76) #[.agg #[.pointer (some ⟨t, 0, none⟩), .string ⟨key.toArray⟩]] #[]] w fun e w' => e = .returned (.int .i64 (posG gs key)) ∧ Below w.heap.size w w' := by
  obtain ⟨f1, f2, f3⟩ := posG_facts hr hne key
  have H := Lib.hid h
  obtain ⟨p, hp⟩ : ∃ p, posG gs key = p := ⟨_, rfl⟩
  rw [hp] at f1 f2 f3 ⊢
  have F2 := Lib.hid f2
  have F3 := Lib.hid f3
  obtain ⟨n, hn⟩ : ∃ n, gs.length = n := ⟨_, rfl⟩
  have HN := Lib.hid hn
  rw [hn] at f1 hbig ⊢
  clear h hr hne f2 f3 hp hn
  go_enter Try.func75, Try.ntmps75
  go_wp2_with fail
  go_loopw [5, 6] (fun i j wr => ∃ (a z : Nat), i = .int .i64 a ∧ j = .int .i64 z ∧ a ≤ p ∧ p ≤ z ∧ z ≤ n ∧ Below w.heap.size w wr) (fun i j _ => (intOf j).toNat - (intOf i).toNat)
  case atStart => exact ⟨0, n, rfl, rfl, by omega, f1, Nat.le_refl _, Below.refl _ _⟩
  case round =>
    obtain ⟨a, z, rfl, rfl, ha, hz, hzn, hb⟩ := hrel
    by_cases hlt : a < z
    · go_upto_region 4 with fail
      obtain ⟨h, hh⟩ : ∃ h : Nat, ((a : Int) + z) / 2 = h := ⟨((a + z) / 2 : Nat), by omega⟩
      have h3 : a ≤ h := by omega
      have h4 : h < z := by omega
      rw [hh]
      clear hh
      have cc := behindAt_any t gs key h wr (H.out.later hb) (by rw [HN.out]; omega)
      by_cases hht : h < p
      · have hr := F2.out h hht
        rw [hr] at cc
        have CC := Lib.hid cc
        clear cc hr
        go_wp2_with fail
        refine CC.out.mono ?_
        rintro e w2 ⟨rfl, b2⟩
        have B := btP hb b2
        clear CC
        go_wp2_with fail
        go_roundw
        case rel => exact ⟨h + 1, z, by go_num, rfl, by omega, by omega, by omega, B⟩
        case measure => simp [intOf]; omega
      · have hr := F3.out h (by omega) (by rw [HN.out]; omega)
        rw [hr] at cc
        have CC := Lib.hid cc
        clear cc hr
        go_wp2_with fail
        refine CC.out.mono ?_
        rintro e w2 ⟨rfl, b2⟩
        have B := btP hb b2
        clear CC
        go_wp2_with fail
        go_roundw
        case rel => exact ⟨a, h, rfl, rfl, by omega, by omega, by omega, B⟩
        case measure => simp [intOf]; omega
    · obtain rfl : a = p := by omega
      obtain rfl : z = a := by omega
      go_wp2_with fail
      go_ret
      exact ⟨rfl, hb⟩
theorem fromT_any (t : Nat) (gs : List (List Ce)) (key : List UInt8) (w : World) (h : TabAt t gs w) (hr : Rise gs.flatten) (hne : ∀ g ∈ gs, g ≠ []) (hbig : gs.length ≤ 1000000) :
    Calls Try.prog 50 #[.pointer (some ⟨t, 0, none⟩), .string ⟨key.toArray⟩] w fun e w' => e = .returned (.int .i64 (posG gs key - 1 : Nat)) ∧ Below w.heap.size w w' := by
  have sc := searchT_any t gs key w h hr hne hbig
  obtain ⟨A, cap, c0, ht, hc1, hc2, -, -⟩ := h.cell
  have f1 := (posG_facts hr hne key).1
  obtain ⟨p, hp⟩ : ∃ p, posG gs key = p := ⟨_, rfl⟩
  rw [hp] at sc f1 ⊢
  obtain ⟨n, hn⟩ : ∃ n, gs.length = n := ⟨_, rfl⟩
  rw [hn] at sc c0 f1 hbig
  have SC := Lib.hid sc
  have hm : max ((p : Int) - 1) 0 = ((p - 1 : Nat) : Int) := by omega
  have hm2 : (if (p : Int) - 1 < 0 then (0 : Int) else (p : Int) - 1) = ((p - 1 : Nat) : Int) := by split <;> omega
  have hw : IntKind.i64.wrap ((p : Int) - 1) = (p : Int) - 1 := by rw [IntKind.wrap_i64]; omega
  generalize ((p - 1 : Nat) : Int) = q at *
  clear sc hr hne h hc2 hp hn
  go_enter Try.func50, Try.ntmps50
  go_wp2_with fail
  refine SC.out.mono ?_
  rintro e w1 ⟨rfl, b1⟩
  go_wp2_with fail
  go_ret
  exact ⟨rfl, b1⟩
end Go.Proofs.Ytanaoepakllohaa
