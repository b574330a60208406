/- A span as an argument, opened. -/
import Derived.Test.YtfkjdjdgcegniaaSpansA
import Derived.Test.YtfkjdjdgcegniaaOpen
namespace Go.Proofs.Ytfkjdjdgcegniaa
set_option maxRecDepth 16000
open Go.RowKit Go.ChangeShapes Go.WideShapes Spoor Go.Opens
/-- the datum of a span -/
def spData {H : Type} (x : Sp) : DataW H := .agg [.lit (.int .i64 x.tr), .lit (.int .i64 x.id), .lit (.int .i64 x.pa), .lit (.string x.sv), .lit (.string x.ho), .lit (.int .i64 x.st), .lit (.int .i64 x.du), .lit (.string x.no)]
section
variable {H : Type} {enc : TypeId × Value → H} {w : World} {base : Nat} {spare : Nat → Bool} {held : Bool}
theorem open_span {r : Reach} {b0 : Nat} {v : Value} {d : DataW H} {p : List MemPlace} (hv : Value.okWide Try.prog w r b0 23 v) (h : DataW.Trod enc Try.prog w base spare held 23 v d p) :
    ∃ x : Sp, v = spVal x ∧ d = spData x ∧ p = [] ∧ x.sv.length ≤ maxLen ∧ x.ho.length ≤ maxLen ∧ x.no.length ≤ maxLen := by
  obtain ⟨cs, ys, n, rfl, rfl, rfl, hc, hy, hf⟩ := open_fields Try.underlying23 (by kernel_rfl) (by kernel_rfl) hv h
  match cs, hc, ys, hy with
  | [c0, c1, c2, c3, c4, c5, c6, c7], _, [y0, y1, y2, y3, y4, y5, y6, y7], _ =>
    have t0 := hf 0 _ _ _ rfl rfl rfl
    have t1 := hf 1 _ _ _ rfl rfl rfl
    have t2 := hf 2 _ _ _ rfl rfl rfl
    have t3 := hf 3 _ _ _ rfl rfl rfl
    have t4 := hf 4 _ _ _ rfl rfl rfl
    have t5 := hf 5 _ _ _ rfl rfl rfl
    have t6 := hf 6 _ _ _ rfl rfl rfl
    have t7 := hf 7 _ _ _ rfl rfl rfl
    obtain ⟨n0, e0, rfl, w0⟩ := DataW.trod_int Try.underlying3 t0
    obtain ⟨n1, e1, rfl, w1⟩ := DataW.trod_int Try.underlying3 t1
    obtain ⟨n2, e2, rfl, w2⟩ := DataW.trod_int Try.underlying3 t2
    obtain ⟨n3, e3, rfl, w3⟩ := DataW.trod_string Try.underlying9 t3
    obtain ⟨n4, e4, rfl, w4⟩ := DataW.trod_string Try.underlying9 t4
    obtain ⟨n5, e5, rfl, w5⟩ := DataW.trod_int Try.underlying3 t5
    obtain ⟨n6, e6, rfl, w6⟩ := DataW.trod_int Try.underlying3 t6
    obtain ⟨n7, e7, rfl, w7⟩ := DataW.trod_string Try.underlying9 t7
    simp only [List.cons.injEq, and_true] at e0 e1 e2 e3 e4 e5 e6 e7
    subst e0 e1 e2 e3 e4 e5 e6 e7
    have l3 : n3.data.toList.length = n3.size := by { rw [Array.length_toList]; rfl }
    have l4 : n4.data.toList.length = n4.size := by { rw [Array.length_toList]; rfl }
    have l7 : n7.data.toList.length = n7.size := by { rw [Array.length_toList]; rfl }
    refine ⟨⟨n0, n1, n2, n3.data.toList, n4.data.toList, n5, n6, n7.data.toList⟩, ?_, rfl, rfl, by dsimp only; omega, by dsimp only; omega, by dsimp only; omega⟩
    unfold spVal
    have s3 : (⟨n3.data.toList.toArray⟩ : ByteArray) = n3 := by cases n3; simp
    have s4 : (⟨n4.data.toList.toArray⟩ : ByteArray) = n4 := by cases n4; simp
    have s7 : (⟨n7.data.toList.toArray⟩ : ByteArray) = n7 := by cases n7; simp
    rw [s3, s4, s7]
theorem sized_span {ts : List TypeId} {ds : List (DataW H)} {j : Nat} {x : Sp} (h : (DataW.weightsEach Try.prog ts ds).all (· ≤ reachBytes) = true) (ht : ts[j]? = some 23) (hd : ds[j]? = some (spData x)) : Fits x := by
  have h1 := sized_agg h ht hd Try.underlying23
  have a := sized_string h1 (j := 3) rfl rfl
  have b := sized_string h1 (j := 4) rfl rfl
  have c := sized_string h1 (j := 7) rfl rfl
  unfold reachBytes at a b c
  exact ⟨a, b, c⟩
end
end Go.Proofs.Ytfkjdjdgcegniaa
