/- What the laws of tablets share. -/
import Derived.Test.YtoglloafpnopaaaGreatTE
import Derived.Test.YtoglloafpnopaaaGreatMgA
import Derived.Test.YtoglloafpnopaaaGreatTlK
set_option linter.unusedSimpArgs false
set_option linter.unusedVariables false
namespace Go.Proofs.YtoglloafpnopaaaGreat
set_option maxRecDepth 16000
open Go.RowKit Spoor
set_option linter.unusedVariables false
set_option linter.unusedSimpArgs false

theorem tab_cells {W : World} {b : Nat} {F T : List UInt8} {M A : Option Addr} {n c : Nat} (h : W.heap[b]? = some (.cells #[.string ⟨F.toArray⟩, .string ⟨T.toArray⟩, .pointer M, .slice A n c] 31 (0, 0))) :
    W.cell? ⟨b, 0, none⟩ = some (.string ⟨F.toArray⟩) ∧ W.cell? ⟨b, 1, none⟩ = some (.string ⟨T.toArray⟩) ∧ W.cell? ⟨b, 2, none⟩ = some (.pointer M) ∧ W.cell? ⟨b, 3, none⟩ = some (.slice A n c) := by
  refine ⟨?_, ?_, ?_, ?_⟩ <;> (rw [cell_of_row W b _ _ _ _ h]; rfl)
theorem tab_cells0 {W : World} {b : Nat} (h : W.heap[b]? = some (.cells #[.string ⟨#[]⟩, .string ⟨#[]⟩, .pointer none, .slice none 0 0] 31 (0, 0))) :
    W.cell? ⟨b, 0, none⟩ = some (.string ⟨#[]⟩) ∧ W.cell? ⟨b, 1, none⟩ = some (.string ⟨#[]⟩) ∧ W.cell? ⟨b, 2, none⟩ = some (.pointer none) ∧ W.cell? ⟨b, 3, none⟩ = some (.slice none 0 0) := by
  refine ⟨?_, ?_, ?_, ?_⟩ <;> (rw [cell_of_row W b _ _ _ _ h]; rfl)
/-- a cell laid in a box -/
theorem cell_put (v : World) (x : Ce) : ∃ g u V, v.heap.size = g ∧ v.alloc (.cells #[.string ⟨#[]⟩, .int .i64 0, .string ⟨#[]⟩] 38) = u ∧
    (u.cell? ⟨g, 0, none⟩ = some (.string ⟨#[]⟩) ∧ u.cell? ⟨g, 1, none⟩ = some (.int .i64 0) ∧ u.cell? ⟨g, 2, none⟩ = some (.string ⟨#[]⟩)) ∧ (u.frozen? ⟨g, 0, none⟩ = false ∧ u.frozen? ⟨g, 1, none⟩ = false ∧ u.frozen? ⟨g, 2, none⟩ = false) ∧
    ((u.setCell ⟨g, 0, none⟩ (.string ⟨x.k.toArray⟩)).setCell ⟨g, 1, none⟩ (.int .i64 x.q)).setCell ⟨g, 2, none⟩ (.string ⟨x.v.toArray⟩) = V ∧
    V.heap[g]? = some (.cells #[.string ⟨x.k.toArray⟩, .int .i64 x.q, .string ⟨x.v.toArray⟩] 38 (0, 0)) ∧ Below v.heap.size v V ∧ V.heap.size = g + 1 := by
  obtain ⟨g, hg⟩ : ∃ g, v.heap.size = g := ⟨_, rfl⟩
  have hs : (v.alloc (.cells #[.string ⟨#[]⟩, .int .i64 0, .string ⟨#[]⟩] 38)).heap.size = v.heap.size + 1 := World.size_alloc _ _
  obtain ⟨u, hu, hz, nz, x0, x1, x2, f0, f1, f2⟩ := new_cell v g hg
  rw [hu] at hs
  refine ⟨g, u, _, hg, hu, ⟨x0, x1, x2⟩, ⟨f0, f1, f2⟩, rfl, set3 hz, below_set (below_set (below_set nz (by omega) 0 _) (by omega) 1 _) (by omega) 2 _, ?_⟩
  simp only [World.size_setCell]
  omega
/-- a table by itself -/
theorem TabsAt.one {W : World} {g : Nat} {P : Option Addr} {r : List Ce} (hc : W.cell? ⟨g, 0, none⟩ = some (.pointer P)) (hg : g < W.heap.size) (hp : TabPtr P r W) : TabsAt (some ⟨g, 0, none⟩) 1 1 [r] W :=
  ⟨rfl, Nat.le_refl _, by unfold maxLen; omega, fun k hk => by
    obtain rfl : k = 0 := by omega
    exact ⟨g, 0, P, rfl, hg, hc, hp⟩⟩
theorem TabsAt.none' (W : World) : TabsAt none 0 0 [] W := ⟨rfl, Nat.le_refl _, by unfold maxLen; omega, fun k hk => by omega⟩
end Go.Proofs.YtoglloafpnopaaaGreat
