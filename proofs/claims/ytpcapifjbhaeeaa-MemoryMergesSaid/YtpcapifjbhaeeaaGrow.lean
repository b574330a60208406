/- Regions that draw their order, whose callees may make memory of their own and leave what was there: one walk in the order of the text serves every order. Over any program; no condition. -/
import Derived.WalkKit
import Derived.WalkSmall
import Derived.Deep.QuietTactic
import Derived.BigQuiet
import Derived.Lib.Hide
import Derived.StillTailTactics
namespace Go
open Go.RowKit

/-- the world has grown: what was there is as it was -/
def Grows (w w' : World) : Prop := Below w.heap.size w w'
theorem Grows.refl (w : World) : Grows w w := Below.refl _ _
theorem Grows.trans {a b c : World} (h : Grows a b) (k : Grows b c) : Grows a c := Below.trans h (Below.mono k h.size)
theorem Grows.below {a b c : World} (h : Grows a b) (k : Below b.heap.size b c) : Grows a c := h.trans k
theorem Grows.drew {a b : World} (h : Grows a b) : Grows a b.drew := Below.drew h
theorem Grows.ex (w : World) : ∃ x, Grows w x := ⟨w, Grows.refl w⟩

/-- what a step of the walk says of every grown world, and hangs on none -/
@[go_sem] theorem Grows.all (w : World) (p : Prop) : (∀ x, Grows w x → p) ↔ p := ⟨fun h => h w (Grows.refl w), fun h _ _ => h⟩

theorem Grows.call {P : Program} {f : FuncId} {args : Array Value} {w w' : World} {v : Value} (hg : Grows w w')
    (h : Calls P f args w' fun e w'' => e = .returned v ∧ Below w'.heap.size w' w'') : Calls P f args w' fun e w'' => e = .returned v ∧ Grows w w'' :=
  h.mono fun _ _ ⟨he, hb⟩ => ⟨he, hg.below hb⟩
theorem Grows.call_same {P : Program} {f : FuncId} {args : Array Value} {w w' : World} {v : Value} (hg : Grows w w')
    (h : Calls P f args w' fun e w'' => e = .returned v ∧ w' = w'') : Calls P f args w' fun e w'' => e = .returned v ∧ Grows w w'' :=
  h.mono fun _ _ ⟨he, hb⟩ => ⟨he, hb ▸ hg⟩

theorem wp_region_grow {P : Program} {id : Nat} {Q : Exit → Act → World → Prop} {a : Act} {w : World} {l : List Oper} (hm : P.follows .mixedOrders = true) (hB : Region.lexB .any l.toArray = true)
    (h : wpQuiet P l.toArray (Grows w) (fun a' => ∀ w', Grows w w' → Q .normal a' w') l a) : (Code.region id l.toArray true).wp P Q a w :=
  wp_region_quiet (C := Grows w) hm hB (Below.drew (Below.refl _ w)) (by simpa using h)

/-- blocks laid behind a world's own, and how many draws have been made -/
structure Laid where
  blocks : Array Obj
  drawn : Nat
instance : Inhabited Laid := ⟨⟨#[], 0⟩⟩
/-- the world with blocks laid behind it, and draws made -/
def World.more (w : World) (e : Laid) : World := { w with heap := w.heap ++ e.blocks, drawn := e.drawn }
theorem World.block_more (w : World) (e : Laid) (k : Nat) (h : k < w.heap.size) : (w.more e).heap[k]? = w.heap[k]? := by
  show (w.heap ++ e.blocks)[k]? = _
  rw [Array.getElem?_append_left h]
@[go_sem] theorem World.cell?_more (w : World) (e : Laid) (b o : Nat) (s : Option Nat) (h : b < w.heap.size) : (w.more e).cell? ⟨b, o, s⟩ = w.cell? ⟨b, o, s⟩ := by
  unfold World.cell?
  rw [World.block_more w e _ h]
@[go_sem] theorem World.frozen?_more (w : World) (e : Laid) (b o : Nat) (s : Option Nat) (h : b < w.heap.size) : (w.more e).frozen? ⟨b, o, s⟩ = w.frozen? ⟨b, o, s⟩ := by
  unfold World.frozen?
  rw [World.block_more w e _ h]
theorem World.below_more (w : World) (e : Laid) : Below w.heap.size w (w.more e) :=
  ⟨rfl, rfl, rfl, by show _ ≤ (w.heap ++ e.blocks).size; rw [Array.size_append]; omega, fun k hk => World.block_more w e k hk⟩
theorem World.more_of {w w' : World} (h : Below w.heap.size w w') : ∃ e, w' = w.more e := by
  obtain ⟨h1, h2, h3, h4, h5⟩ := h
  refine ⟨⟨w'.heap.extract w.heap.size w'.heap.size, w'.drawn⟩, ?_⟩
  have hh : w'.heap = w.heap ++ w'.heap.extract w.heap.size w'.heap.size := by
    apply Array.ext_getElem?
    intro i
    by_cases hi : i < w.heap.size
    · rw [Array.getElem?_append_left hi, h5 i hi]
    · rw [Array.getElem?_append_right (by omega), Array.getElem?_extract]
      by_cases hj : i < w'.heap.size
      · rw [if_pos (by omega)]
        congr 1
        omega
      · rw [if_neg (by omega), Array.getElem?_eq_none (by omega)]
  cases w
  cases w'
  simp only [World.more] at *
  subst h1
  subst h2
  subst h3
  rw [← hh]
theorem Calls.more {P : Program} {f : FuncId} {args : Array Value} {w : World} {e : Laid} {v : Value}
    (h : Calls P f args (w.more e) fun e' w'' => e' = .returned v ∧ Below (w.more e).heap.size (w.more e) w'') : Calls P f args (w.more e) fun e' w'' => e' = .returned v ∧ ∃ e2, w'' = w.more e2 :=
  h.mono fun _ _ ⟨he, hb⟩ => ⟨he, World.more_of ((World.below_more w e).trans (hb.mono (World.below_more w e).size))⟩
theorem Calls.more_same {P : Program} {f : FuncId} {args : Array Value} {w : World} {e : Laid} {v : Value}
    (h : Calls P f args (w.more e) fun e' w'' => e' = .returned v ∧ w.more e = w'') : Calls P f args (w.more e) fun e' w'' => e' = .returned v ∧ ∃ e2, w'' = w.more e2 :=
  h.mono fun _ _ ⟨he, hb⟩ => ⟨he, e, hb.symm⟩
/-- the same, where operations also load what was there -/
theorem wp_region_more {P : Program} {id : Nat} {Q : Exit → Act → World → Prop} {a : Act} {w : World} {l : List Oper} (hm : P.follows .mixedOrders = true) (hB : Region.lexB .any l.toArray = true)
    (h : wpQuiet P l.toArray (fun w' => ∃ e, w' = w.more e) (fun a' => ∀ w', (∃ e, w' = w.more e) → Q .normal a' w') l a) : (Code.region id l.toArray true).wp P Q a w :=
  wp_region_quiet (C := fun w' => ∃ e, w' = w.more e) hm hB (World.more_of (Below.drew (Below.refl _ w))) (by simpa using h)

/-- a region that draws its order, all of whose operations but the last few leave the world alone -/
theorem wp_region_tail {P : Program} {id : Nat} {Q : Exit → Act → World → Prop} {a : Act} {w : World} {l : List Oper} (n : Nat) (hm : P.follows .mixedOrders = true) (hB : Region.lexTailB .any l.toArray n = true)
    (h : wpStill P l.toArray w.drew (fun a' => wpList P l.toArray Q (l.drop n) a' w.drew) (l.take n) a) : (Code.region id l.toArray true).wp P Q a w :=
  wp_region_still_tail n hm hB h
theorem Calls.turned {P : Program} {f : FuncId} {args : Array Value} {w : World} {v : Value} (h : Calls P f args w fun e w' => e = .returned v ∧ w = w') : Calls P f args w fun e w' => e = .returned v ∧ w' = w :=
  h.mono fun _ _ ⟨a, b⟩ => ⟨a, b.symm⟩

end Go
