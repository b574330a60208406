/- The walks of the statements on spans. -/
import Derived.Test.YtojenagpnkhgfaaSpansJ
import Derived.Test.YtojenagpnkhgfaaSpansO
namespace Go.Proofs.Ytojenagpnkhgfaa
open Go.RowKit Spoor

theorem same_below {f : FuncId} {args : Array Value} {v : Value} {w : World} (h : Calls Try.prog f args w fun e w' => e = .returned v ∧ w = w') : Calls Try.prog f args w fun e w' => e = .returned v ∧ Below w.heap.size w w' :=
  h.mono fun _ _ ⟨a, b⟩ => ⟨a, b ▸ Below.refl _ _⟩
theorem alloc_size (w : World) (o : Obj) : (w.alloc o).heap.size = w.heap.size + 1 := by simp
theorem below_new2' {w : World} (o o' : Obj) : Below w.heap.size w ((w.alloc o).alloc o') := (((Below.refl _ _).alloc (Nat.le_refl _) o)).alloc (by simp) o'
theorem decodeV_form (d : Option Sp) : ∃ y e, decodeV d = .tuple #[spVal y, .int .i64 e] := by
  cases d with
  | none => exact ⟨_, _, rfl⟩
  | some x => exact ⟨_, _, rfl⟩

end Go.Proofs.Ytojenagpnkhgfaa
