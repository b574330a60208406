/- MemoryOrder. -/
import Derived.Test.YtpcapifjbhaeeaaMemP
namespace Go.Proofs.Ytpcapifjbhaeeaa
set_option maxRecDepth 16000
open Go.RowKit Spoor
set_option linter.unusedVariables false

theorem memoryOrder_law (w : World) (v : Value) (l : List Ce) (x : Int) (back : Bool) (hs : SlAt v l w) (hn : v = .slice none 0 0 ∨ ∃ ad n c, v = .slice (some ad) n c) (hw : ∀ c ∈ l, WfC c) (hx : (Lit.int IntKind.u8 x).wf = true) :
    Calls Try.prog 5 #[v, .int .u8 x, .bool back] w fun e w' => e = .returned (.bool true) ∧ Below w.heap.size w w' := by
  have hxx : 0 ≤ x ∧ x ≤ 255 := by simpa [Lit.wf, IntKind.min, IntKind.max, IntKind.signed, IntKind.bits] using hx
  have cg := greatL_any v l 200 w hs hw (by omega)
  cases hg : greatL l 200 with
  | true =>
    rw [hg] at cg
    have CG := Lib.hid cg
    clear cg hg hw hs hx hxx
    go_enter Try.func5, Try.ntmps5
    go_wp2_with fail
    refine CG.out.mono ?_
    rintro e w1 ⟨rfl, b1⟩
    clear CG
    go_wp2_with fail
    refine (mdoes_true _).mono ?_
    rintro e w2 ⟨rfl, b2⟩
    have B := btP b1 b2
    clear b1 b2
    go_wp2_with fail
    go_ret
    exact ⟨rfl, B⟩
  | false =>
    by_cases h0 : 0 < l.length
    · exact memoryOrder_yes w v l x back hs hw hg h0 hxx.1 hxx.2
    · obtain rfl : l = [] := List.eq_nil_of_length_eq_zero (by omega)
      rw [hg] at cg
      obtain ⟨A, cap, rfl, -⟩ := hs
      have CG := Lib.hid cg
      clear cg hg hw hx hxx h0 hn
      dsimp only [List.length_nil] at CG ⊢
      go_enter Try.func5, Try.ntmps5
      go_wp2_with fail
      refine CG.out.mono ?_
      rintro e w1 ⟨rfl, b1⟩
      clear CG
      go_wp2_with fail
      refine (mdoes_true _).mono ?_
      rintro e w2 ⟨rfl, b2⟩
      have B := btP b1 b2
      clear b1 b2
      go_wp2_with fail
      go_ret
      exact ⟨rfl, B⟩
end Go.Proofs.Ytpcapifjbhaeeaa
