/- Regions that draw their order, whose callees may make memory of their own and leave what was there: one walk in the order of the text serves every order. Over any program; no condition. -/
import Derived.WalkKit
import Derived.WalkSmall
import Derived.Deep.QuietTactic
import Derived.BigQuiet
import Derived.Lib.Hide
namespace Go
open Go.RowKit

/-- the world has grown: what was there is as it was -/
def Grows (w w' : World) : Prop := Below w.heap.size w w'
theorem Grows.refl (w : World) : Grows w w := Below.refl _ _
theorem Grows.trans {a b c : World} (h : Grows a b) (k : Grows b c) : Grows a c := Below.trans h (Below.mono k h.size)
theorem Grows.below {a b c : World} (h : Grows a b) (k : Below b.heap.size b c) : Grows a c := h.trans k
theorem Grows.drew {a b : World} (h : Grows a b) : Grows a b.drew := Below.drew h
theorem Grows.ex (w : World) : ∃ x, Grows w x := ⟨w, Grows.refl w⟩

/-- what a step of the walk says of every grown world, and hangs on none -/
@[go_sem] theorem Grows.all (w : World) (p : Prop) : (∀ x, Grows w x → p) ↔ p := ⟨fun h => h w (Grows.refl w), fun h _ _ => h⟩

theorem Grows.call {P : Program} {f : FuncId} {args : Array Value} {w w' : World} {v : Value} (hg : Grows w w')
    (h : Calls P f args w' fun e w'' => e = .returned v ∧ Below w'.heap.size w' w'') : Calls P f args w' fun e w'' => e = .returned v ∧ Grows w w'' :=
  h.mono fun _ _ ⟨he, hb⟩ => ⟨he, hg.below hb⟩
theorem Grows.call_same {P : Program} {f : FuncId} {args : Array Value} {w w' : World} {v : Value} (hg : Grows w w')
    (h : Calls P f args w' fun e w'' => e = .returned v ∧ w' = w'') : Calls P f args w' fun e w'' => e = .returned v ∧ Grows w w'' :=
  h.mono fun _ _ ⟨he, hb⟩ => ⟨he, hb ▸ hg⟩

theorem wp_region_grow {P : Program} {id : Nat} {Q : Exit → Act → World → Prop} {a : Act} {w : World} {l : List Oper} (hm : P.follows .mixedOrders = true) (hB : Region.lexB .any l.toArray = true)
    (h : wpQuiet P l.toArray (Grows w) (fun a' => ∀ w', Grows w w' → Q .normal a' w') l a) : (Code.region id l.toArray true).wp P Q a w :=
  wp_region_quiet (C := Grows w) hm hB (Below.drew (Below.refl _ w)) (by simpa using h)

end Go
