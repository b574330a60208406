/- What the laws of tablets share. -/
import Derived.Test.YtoglloafpnopaaaGreatTE
import Derived.Test.YtoglloafpnopaaaGreatMgA
import Derived.Test.YtoglloafpnopaaaGreatTlK
set_option linter.unusedSimpArgs false
set_option linter.unusedVariables false
namespace Go.Proofs.YtoglloafpnopaaaGreat
set_option maxRecDepth 16000
open Go.RowKit Spoor
set_option linter.unusedVariables false
set_option linter.unusedSimpArgs false

theorem tab_cells {W : World} {b : Nat} {F T : List UInt8} {M A : Option Addr} {n c : Nat} (h : W.heap[b]? = some (.cells #[.string ⟨F.toArray⟩, .string ⟨T.toArray⟩, .pointer M, .slice A n c] 31 (0, 0))) :
 W.cell? ⟨b, 0, none⟩ = some (.string ⟨F.toArray⟩) ∧ W.cell? ⟨b, 1, none⟩ = some (.string ⟨T.toArray⟩) ∧ W.cell? ⟨b, 2, none⟩ = some (.pointer M) ∧ W.cell? ⟨b, 3, none⟩ = some (.slice A n c) := by
 refine ⟨?_, ?_, ?_, ?_⟩ <;> (rw [cell_of_row W b _ _ _ _ h]; rfl)
theorem data_cells {W : World} {b : Nat} {F T : List UInt8} {M A : Option Addr} {m k n c : Nat} (h : W.heap[b]? = some (.cells #[.string ⟨F.toArray⟩, .string ⟨T.toArray⟩, .slice M m k, .slice A n c] 25 (0, 0))) :
 W.cell? ⟨b, 0, none⟩ = some (.string ⟨F.toArray⟩) ∧ W.cell? ⟨b, 1, none⟩ = some (.string ⟨T.toArray⟩) ∧ W.cell? ⟨b, 2, none⟩ = some (.slice M m k) ∧ W.cell? ⟨b, 3, none⟩ = some (.slice A n c) := by
 refine ⟨?_, ?_, ?_, ?_⟩ <;> (rw [cell_of_row W b _ _ _ _ h]; rfl)
theorem ref_cells {W : World} {b : Nat} {F T : List UInt8} {A : Option Addr} {n c : Nat} (h : W.heap[b]? = some (.cells #[.string ⟨F.toArray⟩, .string ⟨T.toArray⟩, .slice A n c] 33 (0, 0))) :
 W.cell? ⟨b, 0, none⟩ = some (.string ⟨F.toArray⟩) ∧ W.cell? ⟨b, 1, none⟩ = some (.string ⟨T.toArray⟩) ∧ W.cell? ⟨b, 2, none⟩ = some (.slice A n c) := by
 refine ⟨?_, ?_, ?_⟩ <;> (rw [cell_of_row W b _ _ _ _ h]; rfl)
theorem new_data (F T : List UInt8) (M A : Option Addr) (m k n c : Nat) (w : World) : ∃ xb W0, w.heap.size = xb ∧ w.alloc (.cells #[.string ⟨F.toArray⟩, .string ⟨T.toArray⟩, .slice M m k, .slice A n c] 25) = W0 ∧
 W0.heap[xb]? = some (.cells #[.string ⟨F.toArray⟩, .string ⟨T.toArray⟩, .slice M m k, .slice A n c] 25 (0, 0)) ∧ Below w.heap.size w W0 ∧ W0.heap.size = xb + 1 :=
 ⟨_, _, rfl, rfl, heap_alloc_new w _, (Below.refl w.heap.size w).alloc (Nat.le_refl _) _, World.size_alloc _ _⟩
theorem tab_cells0 {W : World} {b : Nat} (h : W.heap[b]? = some (.cells #[.string ⟨#[]⟩, .string ⟨#[]⟩, .pointer none, .slice none 0 0] 31 (0, 0))) :
 W.cell? ⟨b, 0, none⟩ = some (.string ⟨#[]⟩) ∧ W.cell? ⟨b, 1, none⟩ = some (.string ⟨#[]⟩) ∧ W.cell? ⟨b, 2, none⟩ = some (.pointer none) ∧ W.cell? ⟨b, 3, none⟩ = some (.slice none 0 0) := by
 refine ⟨?_, ?_, ?_, ?_⟩ <;> (rw [cell_of_row W b _ _ _ _ h]; rfl)
theorem ref_cells0 {W : World} {b : Nat} (h : W.heap[b]? = some (.cells #[.string ⟨#[]⟩, .string ⟨#[]⟩, .slice none 0 0] 33 (0, 0))) :
 W.cell? ⟨b, 0, none⟩ = some (.string ⟨#[]⟩) ∧ W.cell? ⟨b, 1, none⟩ = some (.string ⟨#[]⟩) ∧ W.cell? ⟨b, 2, none⟩ = some (.slice none 0 0) := by
 refine ⟨?_, ?_, ?_⟩ <;> (rw [cell_of_row W b _ _ _ _ h]; rfl)
/-- what Made hands out, laid in two boxes -/
theorem boxes2 (F T : List UInt8) (M A A2 : Option Addr) (n c n2 c2 : Nat) (w4 : World) : ∃ b1 W5 W6 W7 W8, w4.heap.size = b1 ∧
 w4.alloc (.cells #[.string ⟨#[]⟩, .string ⟨#[]⟩, .pointer none, .slice none 0 0] 31) = W5 ∧ W5.heap.size = b1 + 1 ∧
 W5.alloc (.cells #[.string ⟨#[]⟩, .string ⟨#[]⟩, .slice none 0 0] 33) = W6 ∧
 (W6.cell? ⟨b1, 0, none⟩ = some (.string ⟨#[]⟩) ∧ W6.cell? ⟨b1, 1, none⟩ = some (.string ⟨#[]⟩) ∧ W6.cell? ⟨b1, 2, none⟩ = some (.pointer none) ∧ W6.cell? ⟨b1, 3, none⟩ = some (.slice none 0 0)) ∧ (∀ j, W6.frozen? ⟨b1, j, none⟩ = false) ∧
 (((W6.setCell ⟨b1, 0, none⟩ (.string ⟨F.toArray⟩)).setCell ⟨b1, 1, none⟩ (.string ⟨T.toArray⟩)).setCell ⟨b1, 2, none⟩ (.pointer M)).setCell ⟨b1, 3, none⟩ (.slice A n c) = W7 ∧
 (W7.cell? ⟨b1 + 1, 0, none⟩ = some (.string ⟨#[]⟩) ∧ W7.cell? ⟨b1 + 1, 1, none⟩ = some (.string ⟨#[]⟩) ∧ W7.cell? ⟨b1 + 1, 2, none⟩ = some (.slice none 0 0)) ∧ (∀ j, W7.frozen? ⟨b1 + 1, j, none⟩ = false) ∧
 ((W7.setCell ⟨b1 + 1, 0, none⟩ (.string ⟨F.toArray⟩)).setCell ⟨b1 + 1, 1, none⟩ (.string ⟨T.toArray⟩)).setCell ⟨b1 + 1, 2, none⟩ (.slice A2 n2 c2) = W8 ∧
 W8.heap[b1]? = some (.cells #[.string ⟨F.toArray⟩, .string ⟨T.toArray⟩, .pointer M, .slice A n c] 31 (0, 0)) ∧
 W8.heap[b1 + 1]? = some (.cells #[.string ⟨F.toArray⟩, .string ⟨T.toArray⟩, .slice A2 n2 c2] 33 (0, 0)) ∧
 Below w4.heap.size w4 W8 ∧ W8.heap.size = b1 + 1 + 1 := by
 obtain ⟨b1, hb1⟩ : ∃ b1, w4.heap.size = b1 := ⟨_, rfl⟩
 obtain ⟨W5, hW5, h5, nb5, sz5, -⟩ := new_tab w4 b1 hb1
 obtain ⟨W6, hW6, h6, nb6, sz6, -⟩ := new_ref W5 (b1 + 1) sz5
 have h56 := (nb6.block b1 (by omega)).trans h5
 have q6 := set4 (a' := .string ⟨F.toArray⟩) (b' := .string ⟨T.toArray⟩) (c' := .pointer M) (d' := .slice A n c) h56
 have k6 : ∀ k, k ≠ b1 → ((((W6.setCell ⟨b1, 0, none⟩ (.string ⟨F.toArray⟩)).setCell ⟨b1, 1, none⟩ (.string ⟨T.toArray⟩)).setCell ⟨b1, 2, none⟩ (.pointer M)).setCell ⟨b1, 3, none⟩ (.slice A n c)).heap[k]? = W6.heap[k]? := fun k hk =>
  (Below.heap_setCell _ ⟨b1, 3, none⟩ _ k hk).trans ((Below.heap_setCell _ ⟨b1, 2, none⟩ _ k hk).trans ((Below.heap_setCell _ ⟨b1, 1, none⟩ _ k hk).trans (Below.heap_setCell _ ⟨b1, 0, none⟩ _ k hk)))
 have B6 : Below w4.heap.size w4 ((((W6.setCell ⟨b1, 0, none⟩ (.string ⟨F.toArray⟩)).setCell ⟨b1, 1, none⟩ (.string ⟨T.toArray⟩)).setCell ⟨b1, 2, none⟩ (.pointer M)).setCell ⟨b1, 3, none⟩ (.slice A n c)) := below_set (below_set (below_set (below_set (nb5.trans (nb6.mono (by omega))) (by omega) 0 _) (by omega) 1 _) (by omega) 2 _) (by omega) 3 _
 have s6 : ((((W6.setCell ⟨b1, 0, none⟩ (.string ⟨F.toArray⟩)).setCell ⟨b1, 1, none⟩ (.string ⟨T.toArray⟩)).setCell ⟨b1, 2, none⟩ (.pointer M)).setCell ⟨b1, 3, none⟩ (.slice A n c)).heap.size = b1 + 1 + 1 := by simp only [World.size_setCell]; exact sz6
 obtain ⟨W7, hW7⟩ : ∃ W7, ((((W6.setCell ⟨b1, 0, none⟩ (.string ⟨F.toArray⟩)).setCell ⟨b1, 1, none⟩ (.string ⟨T.toArray⟩)).setCell ⟨b1, 2, none⟩ (.pointer M)).setCell ⟨b1, 3, none⟩ (.slice A n c)) = W7 := ⟨_, rfl⟩
 rw [hW7] at q6 k6 B6 s6
 have l7 := (k6 (b1 + 1) (by omega)).trans h6
 have q7 := set3 (a' := .string ⟨F.toArray⟩) (b' := .string ⟨T.toArray⟩) (c' := .slice A2 n2 c2) l7
 have s7 : (((W7.setCell ⟨b1 + 1, 0, none⟩ (.string ⟨F.toArray⟩)).setCell ⟨b1 + 1, 1, none⟩ (.string ⟨T.toArray⟩)).setCell ⟨b1 + 1, 2, none⟩ (.slice A2 n2 c2)).heap.size = b1 + 1 + 1 := by simp only [World.size_setCell]; exact s6
 refine ⟨b1, W5, W6, W7, _, hb1, hW5, sz5, hW6, tab_cells0 h56, fun j => by simp [World.frozen?, h56], hW7, ref_cells0 l7, fun j => by simp [World.frozen?, l7], rfl, ?_, q7, below_set (below_set (below_set B6 (by omega) 0 _) (by omega) 1 _) (by omega) 2 _, s7⟩
 exact ((Below.heap_setCell _ ⟨b1 + 1, 2, none⟩ _ b1 (by show b1 ≠ b1 + 1; omega)).trans ((Below.heap_setCell _ ⟨b1 + 1, 1, none⟩ _ b1 (by show b1 ≠ b1 + 1; omega)).trans (Below.heap_setCell _ ⟨b1 + 1, 0, none⟩ _ b1 (by show b1 ≠ b1 + 1; omega)))).trans q6
/-- a cell laid in a box -/
theorem cell_put (v : World) (x : Ce) : ∃ g u V, v.heap.size = g ∧ v.alloc (.cells #[.string ⟨#[]⟩, .int .i64 0, .string ⟨#[]⟩] 38) = u ∧
 (u.cell? ⟨g, 0, none⟩ = some (.string ⟨#[]⟩) ∧ u.cell? ⟨g, 1, none⟩ = some (.int .i64 0) ∧ u.cell? ⟨g, 2, none⟩ = some (.string ⟨#[]⟩)) ∧ (u.frozen? ⟨g, 0, none⟩ = false ∧ u.frozen? ⟨g, 1, none⟩ = false ∧ u.frozen? ⟨g, 2, none⟩ = false) ∧
 ((u.setCell ⟨g, 0, none⟩ (.string ⟨x.k.toArray⟩)).setCell ⟨g, 1, none⟩ (.int .i64 x.q)).setCell ⟨g, 2, none⟩ (.string ⟨x.v.toArray⟩) = V ∧
 V.heap[g]? = some (.cells #[.string ⟨x.k.toArray⟩, .int .i64 x.q, .string ⟨x.v.toArray⟩] 38 (0, 0)) ∧ Below v.heap.size v V ∧ V.heap.size = g + 1 := by
 obtain ⟨g, hg⟩ : ∃ g, v.heap.size = g := ⟨_, rfl⟩
 have hs : (v.alloc (.cells #[.string ⟨#[]⟩, .int .i64 0, .string ⟨#[]⟩] 38)).heap.size = v.heap.size + 1 := World.size_alloc _ _
 obtain ⟨u, hu, hz, nz, x0, x1, x2, f0, f1, f2⟩ := new_cell v g hg
 rw [hu] at hs
 refine ⟨g, u, _, hg, hu, ⟨x0, x1, x2⟩, ⟨f0, f1, f2⟩, rfl, set3 hz, below_set (below_set (below_set nz (by omega) 0 _) (by omega) 1 _) (by omega) 2 _, ?_⟩
 simp only [World.size_setCell]
 omega
/-- a table by itself -/
theorem TabsAt.one {W : World} {g : Nat} {P : Option Addr} {r : List Ce} (hc : W.cell? ⟨g, 0, none⟩ = some (.pointer P)) (hg : g < W.heap.size) (hp : TabPtr P r W) : TabsAt (some ⟨g, 0, none⟩) 1 1 [r] W :=
 ⟨rfl, Nat.le_refl _, by unfold maxLen; omega, fun k hk => by
   obtain rfl : k = 0 := by omega
   exact ⟨g, 0, P, rfl, hg, hc, hp⟩⟩
/-- the rows of data are as they may be -/
theorem data_rows {lm : List Ce} {Tl : List (List Ce)} (h : DataOk lm Tl) : (∀ r ∈ putsC [] lm :: Tl.map (putsC []), RowOk r ∧ r.length ≤ 40) ∧ (Tl.map (putsC [])).length ≤ 5 := by
 have key : ∀ l : List Ce, l.length ≤ 40 → (∀ c ∈ l, FitsC c) → RowOk (putsC [] l) ∧ (putsC [] l).length ≤ 40 := fun l h1 h2 => by
  have hl : (putsC [] l).length ≤ 40 := by have := puts_length l []; simp at this; omega
  exact ⟨⟨by omega, fits_puts (by simp) h2, sorted_rise.2 ⟨puts_rise (by simp [Rise]), puts_may (by simp)⟩⟩, hl⟩
 refine ⟨fun r hr => ?_, by rw [List.length_map]; exact h.2.1⟩
 rcases List.mem_cons.1 hr with rfl | hr
 · exact key lm h.1.1 h.1.2
 · obtain ⟨l, hl, rfl⟩ := List.mem_map.1 hr
   exact key l (h.2.2 l hl).1 (h.2.2 l hl).2
theorem sum_le {R : List (List Ce)} {m : Nat} (h : ∀ r ∈ R, r.length ≤ m) : (R.map (·.length)).sum ≤ R.length * m := by
 induction R with
 | nil => simp
 | cons a R ih =>
   have h1 := h a List.mem_cons_self
   have h2 := ih fun r hr => h r (List.mem_cons_of_mem _ hr)
   rw [List.map_cons, List.sum_cons, List.length_cons, Nat.succ_mul]
   omega
end Go.Proofs.YtoglloafpnopaaaGreat
