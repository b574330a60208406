/- The walks of the statements on spans. -/
import Derived.Test.YtfkjdjdgcegniaaSpansJ
import Derived.Test.YtfkjdjdgcegniaaSpansO
namespace Go.Proofs.Ytfkjdjdgcegniaa
set_option maxRecDepth 16000
open Go.RowKit Spoor

theorem same_below {f : FuncId} {args : Array Value} {v : Value} {w : World} (h : Calls Try.prog f args w fun e w' => e = .returned v ∧ w = w') : Calls Try.prog f args w fun e w' => e = .returned v ∧ Below w.heap.size w w' :=
  h.mono fun _ _ ⟨a, b⟩ => ⟨a, b ▸ Below.refl _ _⟩
theorem alloc_size (w : World) (o : Obj) : (w.alloc o).heap.size = w.heap.size + 1 := by simp
theorem below_new2' {w : World} (o o' : Obj) : Below w.heap.size w ((w.alloc o).alloc o') := (((Below.refl _ _).alloc (Nat.le_refl _) o)).alloc (by simp) o'
theorem decodeV_form (d : Option Sp) : ∃ y e, decodeV d = .tuple #[spVal y, .int .i64 e] := by
  cases d with
  | none => exact ⟨_, _, rfl⟩
  | some x => exact ⟨_, _, rfl⟩

theorem enc_form (x : Sp) (hf : Fits x) : ∃ t : List UInt8, ∃ e : Int, e = checkV x ∧ t.length ≤ 90 ∧ ((x.ok = true ∧ e = 0 ∧ t = x.bytes) ∨ (x.ok = false ∧ e = 2 ∧ t = [])) ∧
    (∀ W, Calls Try.prog 27 #[spVal x] W fun r w' => r = .returned (.tuple #[.string ⟨t.toArray⟩, .int .i64 e]) ∧ Below W.heap.size W w') ∧
    (∀ W, Calls Try.prog 30 #[spVal x] W fun r w' => r = .returned (.tuple #[.string ⟨t.toArray⟩, .int .i64 e]) ∧ Below W.heap.size W w') := by
  cases h : x.ok with
  | true => exact ⟨x.bytes, 0, (checkV_ok h).symm, bytes_length h, .inl ⟨rfl, rfl, rfl⟩, fun W => encode_good x W h, fun W => refEncode_good x W h⟩
  | false => exact ⟨[], 2, (checkV_no h).symm, by simp, .inr ⟨rfl, rfl, rfl⟩, fun W => encode_bad x W hf h, fun W => refEncode_bad x W hf h⟩

end Go.Proofs.Ytfkjdjdgcegniaa
