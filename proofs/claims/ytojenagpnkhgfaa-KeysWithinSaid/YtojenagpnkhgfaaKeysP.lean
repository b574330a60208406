/- The statement KeysWithin's walk, joined; how its arguments are read. -/
import Derived.Test.YtojenagpnkhgfaaKeysM
import Derived.Test.YtojenagpnkhgfaaKeysN
import Derived.Test.YtojenagpnkhgfaaKeysO
import Derived.Test.YtojenagpnkhgfaaOpen
namespace Go.Proofs.Ytojenagpnkhgfaa
open Go.RowKit Spoor

theorem keysWithin_law (x : Sp) (t s0 s1 : Int) (hf : Fits x) (w : World) :
    Calls Try.prog 8 #[spVal x, .int .i64 t, val2i s0 s1] w fun e w' => e = .returned (.bool true) ∧ Below w.heap.size w w' := by
  cases hg : greatK x with
  | true => exact keysWithin_g x t s0 s1 w hf hg
  | false =>
    cases hx : x.ok with
    | false => exact keysWithin_b x t s0 s1 w hf hg hx
    | true =>
      cases t5 : (t == x.tr) with
      | true => exact keysWithin_1 x t s0 s1 w hf hg hx t5
      | false =>
        cases t1 : Op.bytesLess (traceK t).1 (sKey x.tr x.id) with
        | true => exact keysWithin_2 x t s0 s1 w hf hg hx t5 t1
        | false => exact keysWithin_3 x t s0 s1 w hf hg hx t5 t1
section
open Go.ChangeShapes Go.WideShapes Go.Opens
variable {H : Type} {enc : TypeId × Value → H} {w : World} {base : Nat} {spare : Nat → Bool} {held : Bool}
theorem open_int2 {r : Reach} {b0 : Nat} {v : Value} {d : DataW H} {p : List MemPlace} (hv : Value.okWide Try.prog w r b0 52 v) (h : DataW.Trod enc Try.prog w base spare held 52 v d p) :
    ∃ s t : Int, v = val2i s t ∧ d = .agg [.lit (.int .i64 s), .lit (.int .i64 t)] ∧ p = [] := by
  obtain ⟨cs, ys, m, rfl, rfl, rfl, hc, hy, hf⟩ := open_array1 Try.underlying52 (by kernel_rfl) (by kernel_rfl) hv h
  match cs, hc, ys, hy with
  | [c0, c1], _, [y0, y1], _ =>
    have t0 := hf 0 _ _ rfl rfl
    have t1 := hf 1 _ _ rfl rfl
    obtain ⟨n0, e0, rfl, w0⟩ := DataW.trod_int Try.underlying3 t0
    obtain ⟨n1, e1, rfl, w1⟩ := DataW.trod_int Try.underlying3 t1
    simp only [List.cons.injEq, and_true] at e0 e1
    subst e0 e1
    exact ⟨n0, n1, rfl, rfl, rfl⟩
end
end Go.Proofs.Ytojenagpnkhgfaa
