/- The walk of the reference's Take. -/
import Derived.Test.YtojenagpnkhgfaaSpansG
namespace Go.Proofs.Ytojenagpnkhgfaa
open Go.RowKit Spoor
theorem block_set {w : World} {b c i : Nat} {v : Value} {o : Obj} (h : w.heap[b]? = some o) (hne : b ≠ c) : (w.setCell ⟨c, i, none⟩ v).heap[b]? = some o := (Below.heap_setCell w ⟨c, i, none⟩ v b hne).trans h

theorem heap_new_at (w : World) (o : Obj) (n : Nat) (h : n = w.heap.size) : (w.alloc o).heap[n]? = some o := by subst h; exact heap_alloc_new w o

end Go.Proofs.Ytojenagpnkhgfaa
