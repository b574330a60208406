/- The walk of SpansApart. -/
import Derived.Test.YtnfagkcmcliagaaSpansK
namespace Go.Proofs.Ytnfagkcmcliagaa
open Go.RowKit Spoor

def boxP (x : Sp) : Obj := .cells #[.int .i64 x.tr, .int .i64 x.id, .int .i64 x.pa, .string ⟨x.sv.toArray⟩, .string ⟨x.ho.toArray⟩, .int .i64 x.st, .int .i64 x.du, .string ⟨x.no.toArray⟩] 23
def box2 (u v : List UInt8) : Obj := .cells #[.string ⟨u.toArray⟩, .string ⟨v.toArray⟩] 35
theorem apart_boxes (x y : Sp) (u v : List UInt8) (w : World) : SpAt w.heap.size x (((w.alloc (boxP x)).alloc (boxP y)).alloc (box2 u v)) ∧ SpAt (w.heap.size + 1) y (((w.alloc (boxP x)).alloc (boxP y)).alloc (box2 u v)) ∧
    (((w.alloc (boxP x)).alloc (boxP y)).alloc (box2 u v)).heap[w.heap.size + 2]? = some (box2 u v) ∧ Below w.heap.size w (((w.alloc (boxP x)).alloc (boxP y)).alloc (box2 u v)) := by
  have k1 := ((SpAt.boxed x w).alloc' (boxP y)).alloc' (box2 u v)
  have k2 := (SpAt.boxed y (w.alloc (boxP x))).alloc' (box2 u v)
  have k3 := heap_alloc_new ((w.alloc (boxP x)).alloc (boxP y)) (box2 u v)
  rw [alloc_size] at k2
  rw [alloc_size, alloc_size] at k3
  exact ⟨k1, k2, k3, (below_new2' _ _).alloc (by rw [alloc_size, alloc_size]; omega) _⟩
theorem box2_cells {g : Nat} {u v : List UInt8} {w : World} (h : w.heap[g]? = some (box2 u v)) : w.cell? ⟨g, 0, none⟩ = some (.string ⟨u.toArray⟩) ∧ w.cell? ⟨g, 1, none⟩ = some (.string ⟨v.toArray⟩) := by
  constructor <;> (rw [cell_of_row w g _ _ _ _ h]; rfl)
theorem box2_later {B g : Nat} {u v : List UInt8} {w w' : World} (h : w.heap[g]? = some (box2 u v)) (hb : Below B w w') (hg : g < B) : w'.heap[g]? = some (box2 u v) := by rw [hb.block g hg]; exact h
theorem eql_sp (x y : Sp) (W : World) : (binOp .eql 23 (spVal x) (spVal y)).run Try.prog W = .ok (.bool (decide (x = y))) W := by
  unfold spVal
  go_simp
  obtain ⟨a1, a2, a3, a4, a5, a6, a7, a8⟩ := x
  obtain ⟨b1, b2, b3, b4, b5, b6, b7, b8⟩ := y
  simp only [Sp.mk.injEq]
  by_cases h1 : a1 = b1 <;> by_cases h2 : a2 = b2 <;> by_cases h3 : a3 = b3 <;> by_cases h4 : a4 = b4 <;> simp [*]
  by_cases h5 : a5 = b5 <;> by_cases h6 : a6 = b6 <;> by_cases h7 : a7 = b7 <;> by_cases h8 : a8 = b8 <;> simp [*]
theorem cat_ne {a b c d : List UInt8} (h : ¬ a ++ b = c ++ d) : ¬ ((⟨a.toArray⟩ : ByteArray) ++ ⟨b.toArray⟩).toList = ((⟨c.toArray⟩ : ByteArray) ++ ⟨d.toArray⟩).toList := by
  rw [ByteArray.mk_append_mk, ByteArray.mk_append_mk, ByteArray.toList_mk, ByteArray.toList_mk]
  exact h
def val2 (u v : List UInt8) : Value := .agg #[.string ⟨u.toArray⟩, .string ⟨v.toArray⟩]

theorem spansApart_gx (x y : Sp) (u v : List UInt8) (w : World) (hfx : Fits x) (hfy : Fits y) (hgx : greatB x = true) :
    Calls Try.prog 7 #[spVal x, spVal y, val2 u v] w fun e w' => e = .returned (.bool true) ∧ Below w.heap.size w w' := by
  have cgx := fun W => great_any x W hfx
  have cgy := fun W => great_any y W hfy
  obtain ⟨q1, q2, q3, q4⟩ := apart_boxes x y u v w
  have CD := Lib.hid does_true
  rw [hgx] at cgx
  clear hgx
  unfold spVal at cgx cgy
  have CX := Lib.hid cgx
  have CY := Lib.hid cgy
  clear cgx cgy
  unfold boxP box2 at q1 q2 q3 q4
  unfold spVal val2 at *
  go_enter Try.func7, Try.ntmps7
  go_wp2_with fail
  generalize ((w.alloc _).alloc _).alloc _ = w1 at *
  have l3 := (Array.getElem?_eq_some_iff.1 q3).1
  have l1 := q1.lt
  have l2 := q2.lt
  obtain ⟨g0, g1⟩ := box2_cells q3
  obtain ⟨a0, a1, a2, a3, a4, a5, a6, a7⟩ := q1.cell
  obtain ⟨d0, d1, d2, d3, d4, d5, d6, d7⟩ := q2.cell
  go_wp2_with fail
  refine (CX.out _).mono ?_
  rintro e w2 ⟨rfl, b2⟩
  have q1 := q1.later b2 l1
  have q2 := q2.later b2 l2
  have q3 := box2_later q3 b2 l3
  have q4 := bt q4 b2
  clear g0 g1 a0 a1 a2 a3 a4 a5 a6 a7 d0 d1 d2 d3 d4 d5 d6 d7
  have l3 := (Array.getElem?_eq_some_iff.1 q3).1
  have l1 := q1.lt
  have l2 := q2.lt
  obtain ⟨g0, g1⟩ := box2_cells q3
  obtain ⟨a0, a1, a2, a3, a4, a5, a6, a7⟩ := q1.cell
  obtain ⟨d0, d1, d2, d3, d4, d5, d6, d7⟩ := q2.cell
  go_wp2_with fail
  go_ret
  exact ⟨rfl, q4⟩

theorem spansApart_gy (x y : Sp) (u v : List UInt8) (w : World) (hfx : Fits x) (hfy : Fits y) (hgx : greatB x = false) (hgy : greatB y = true) :
    Calls Try.prog 7 #[spVal x, spVal y, val2 u v] w fun e w' => e = .returned (.bool true) ∧ Below w.heap.size w w' := by
  have cgx := fun W => great_any x W hfx
  have cgy := fun W => great_any y W hfy
  obtain ⟨q1, q2, q3, q4⟩ := apart_boxes x y u v w
  have CD := Lib.hid does_true
  rw [hgx] at cgx
  clear hgx
  rw [hgy] at cgy
  clear hgy
  unfold spVal at cgx cgy
  have CX := Lib.hid cgx
  have CY := Lib.hid cgy
  clear cgx cgy
  unfold boxP box2 at q1 q2 q3 q4
  unfold spVal val2 at *
  go_enter Try.func7, Try.ntmps7
  go_wp2_with fail
  generalize ((w.alloc _).alloc _).alloc _ = w1 at *
  have l3 := (Array.getElem?_eq_some_iff.1 q3).1
  have l1 := q1.lt
  have l2 := q2.lt
  obtain ⟨g0, g1⟩ := box2_cells q3
  obtain ⟨a0, a1, a2, a3, a4, a5, a6, a7⟩ := q1.cell
  obtain ⟨d0, d1, d2, d3, d4, d5, d6, d7⟩ := q2.cell
  go_wp2_with fail
  refine (CX.out _).mono ?_
  rintro e w2 ⟨rfl, b2⟩
  have q1 := q1.later b2 l1
  have q2 := q2.later b2 l2
  have q3 := box2_later q3 b2 l3
  have q4 := bt q4 b2
  clear g0 g1 a0 a1 a2 a3 a4 a5 a6 a7 d0 d1 d2 d3 d4 d5 d6 d7
  have l3 := (Array.getElem?_eq_some_iff.1 q3).1
  have l1 := q1.lt
  have l2 := q2.lt
  obtain ⟨g0, g1⟩ := box2_cells q3
  obtain ⟨a0, a1, a2, a3, a4, a5, a6, a7⟩ := q1.cell
  obtain ⟨d0, d1, d2, d3, d4, d5, d6, d7⟩ := q2.cell
  go_wp2_with fail
  refine (CY.out _).mono ?_
  rintro e w3 ⟨rfl, b3⟩
  have q1 := q1.later b3 l1
  have q2 := q2.later b3 l2
  have q3 := box2_later q3 b3 l3
  have q4 := bt q4 b3
  clear g0 g1 a0 a1 a2 a3 a4 a5 a6 a7 d0 d1 d2 d3 d4 d5 d6 d7
  have l3 := (Array.getElem?_eq_some_iff.1 q3).1
  have l1 := q1.lt
  have l2 := q2.lt
  obtain ⟨g0, g1⟩ := box2_cells q3
  obtain ⟨a0, a1, a2, a3, a4, a5, a6, a7⟩ := q1.cell
  obtain ⟨d0, d1, d2, d3, d4, d5, d6, d7⟩ := q2.cell
  go_wp2_with fail
  go_ret
  exact ⟨rfl, q4⟩

theorem spansApart_lu (x y : Sp) (u v : List UInt8) (w : World) (hfx : Fits x) (hfy : Fits y) (hgx : greatB x = false) (hgy : greatB y = false) (hu : (1000 : Int) < u.length) :
    Calls Try.prog 7 #[spVal x, spVal y, val2 u v] w fun e w' => e = .returned (.bool true) ∧ Below w.heap.size w w' := by
  have cgx := fun W => great_any x W hfx
  have cgy := fun W => great_any y W hfy
  obtain ⟨q1, q2, q3, q4⟩ := apart_boxes x y u v w
  have CD := Lib.hid does_true
  rw [hgx] at cgx
  clear hgx
  rw [hgy] at cgy
  clear hgy
  unfold spVal at cgx cgy
  have CX := Lib.hid cgx
  have CY := Lib.hid cgy
  clear cgx cgy
  unfold boxP box2 at q1 q2 q3 q4
  unfold spVal val2 at *
  go_enter Try.func7, Try.ntmps7
  go_wp2_with fail
  generalize ((w.alloc _).alloc _).alloc _ = w1 at *
  have l3 := (Array.getElem?_eq_some_iff.1 q3).1
  have l1 := q1.lt
  have l2 := q2.lt
  obtain ⟨g0, g1⟩ := box2_cells q3
  obtain ⟨a0, a1, a2, a3, a4, a5, a6, a7⟩ := q1.cell
  obtain ⟨d0, d1, d2, d3, d4, d5, d6, d7⟩ := q2.cell
  go_wp2_with fail
  refine (CX.out _).mono ?_
  rintro e w2 ⟨rfl, b2⟩
  have q1 := q1.later b2 l1
  have q2 := q2.later b2 l2
  have q3 := box2_later q3 b2 l3
  have q4 := bt q4 b2
  clear g0 g1 a0 a1 a2 a3 a4 a5 a6 a7 d0 d1 d2 d3 d4 d5 d6 d7
  have l3 := (Array.getElem?_eq_some_iff.1 q3).1
  have l1 := q1.lt
  have l2 := q2.lt
  obtain ⟨g0, g1⟩ := box2_cells q3
  obtain ⟨a0, a1, a2, a3, a4, a5, a6, a7⟩ := q1.cell
  obtain ⟨d0, d1, d2, d3, d4, d5, d6, d7⟩ := q2.cell
  go_wp2_with fail
  refine (CY.out _).mono ?_
  rintro e w3 ⟨rfl, b3⟩
  have q1 := q1.later b3 l1
  have q2 := q2.later b3 l2
  have q3 := box2_later q3 b3 l3
  have q4 := bt q4 b3
  clear g0 g1 a0 a1 a2 a3 a4 a5 a6 a7 d0 d1 d2 d3 d4 d5 d6 d7
  have l3 := (Array.getElem?_eq_some_iff.1 q3).1
  have l1 := q1.lt
  have l2 := q2.lt
  obtain ⟨g0, g1⟩ := box2_cells q3
  obtain ⟨a0, a1, a2, a3, a4, a5, a6, a7⟩ := q1.cell
  obtain ⟨d0, d1, d2, d3, d4, d5, d6, d7⟩ := q2.cell
  go_wp2_with fail
  go_ret
  exact ⟨rfl, q4⟩

theorem spansApart_lv (x y : Sp) (u v : List UInt8) (w : World) (hfx : Fits x) (hfy : Fits y) (hgx : greatB x = false) (hgy : greatB y = false) (hu : ¬ (1000 : Int) < u.length) (hv : (1000 : Int) < v.length) :
    Calls Try.prog 7 #[spVal x, spVal y, val2 u v] w fun e w' => e = .returned (.bool true) ∧ Below w.heap.size w w' := by
  have cgx := fun W => great_any x W hfx
  have cgy := fun W => great_any y W hfy
  obtain ⟨q1, q2, q3, q4⟩ := apart_boxes x y u v w
  have CD := Lib.hid does_true
  rw [hgx] at cgx
  clear hgx
  rw [hgy] at cgy
  clear hgy
  unfold spVal at cgx cgy
  have CX := Lib.hid cgx
  have CY := Lib.hid cgy
  clear cgx cgy
  unfold boxP box2 at q1 q2 q3 q4
  unfold spVal val2 at *
  go_enter Try.func7, Try.ntmps7
  go_wp2_with fail
  generalize ((w.alloc _).alloc _).alloc _ = w1 at *
  have l3 := (Array.getElem?_eq_some_iff.1 q3).1
  have l1 := q1.lt
  have l2 := q2.lt
  obtain ⟨g0, g1⟩ := box2_cells q3
  obtain ⟨a0, a1, a2, a3, a4, a5, a6, a7⟩ := q1.cell
  obtain ⟨d0, d1, d2, d3, d4, d5, d6, d7⟩ := q2.cell
  go_wp2_with fail
  refine (CX.out _).mono ?_
  rintro e w2 ⟨rfl, b2⟩
  have q1 := q1.later b2 l1
  have q2 := q2.later b2 l2
  have q3 := box2_later q3 b2 l3
  have q4 := bt q4 b2
  clear g0 g1 a0 a1 a2 a3 a4 a5 a6 a7 d0 d1 d2 d3 d4 d5 d6 d7
  have l3 := (Array.getElem?_eq_some_iff.1 q3).1
  have l1 := q1.lt
  have l2 := q2.lt
  obtain ⟨g0, g1⟩ := box2_cells q3
  obtain ⟨a0, a1, a2, a3, a4, a5, a6, a7⟩ := q1.cell
  obtain ⟨d0, d1, d2, d3, d4, d5, d6, d7⟩ := q2.cell
  go_wp2_with fail
  refine (CY.out _).mono ?_
  rintro e w3 ⟨rfl, b3⟩
  have q1 := q1.later b3 l1
  have q2 := q2.later b3 l2
  have q3 := box2_later q3 b3 l3
  have q4 := bt q4 b3
  clear g0 g1 a0 a1 a2 a3 a4 a5 a6 a7 d0 d1 d2 d3 d4 d5 d6 d7
  have l3 := (Array.getElem?_eq_some_iff.1 q3).1
  have l1 := q1.lt
  have l2 := q2.lt
  obtain ⟨g0, g1⟩ := box2_cells q3
  obtain ⟨a0, a1, a2, a3, a4, a5, a6, a7⟩ := q1.cell
  obtain ⟨d0, d1, d2, d3, d4, d5, d6, d7⟩ := q2.cell
  go_wp2_with fail
  go_ret
  exact ⟨rfl, q4⟩

set_option maxHeartbeats 1000000 in
theorem spansApart_noX (x y : Sp) (u v : List UInt8) (w : World) (hfx : Fits x) (hfy : Fits y) (hgx : greatB x = false) (hgy : greatB y = false) (hu : ¬ (1000 : Int) < u.length) (hv : ¬ (1000 : Int) < v.length) (hx : x.ok = false) (t : List UInt8) (e : Int) (c2 : ∀ W, Calls Try.prog 12 #[spVal y] W fun r w' => r = .returned (.tuple #[.string ⟨t.toArray⟩, .int .i64 e]) ∧ Below W.heap.size W w') :
    Calls Try.prog 7 #[spVal x, spVal y, val2 u v] w fun e w' => e = .returned (.bool true) ∧ Below w.heap.size w w' := by
  have cgx := fun W => great_any x W hfx
  have cgy := fun W => great_any y W hfy
  obtain ⟨q1, q2, q3, q4⟩ := apart_boxes x y u v w
  have CD := Lib.hid does_true
  rw [hgx] at cgx
  clear hgx
  rw [hgy] at cgy
  clear hgy
  have c1 := fun W => encode_bad x W hfx hx
  clear hx
  unfold spVal at cgx cgy c1 c2
  have CX := Lib.hid cgx
  have CY := Lib.hid cgy
  have C1 := Lib.hid c1
  have C2 := Lib.hid c2
  clear cgx cgy c1 c2
  unfold boxP box2 at q1 q2 q3 q4
  unfold spVal val2 at *
  go_enter Try.func7, Try.ntmps7
  go_wp2_with fail
  generalize ((w.alloc _).alloc _).alloc _ = w1 at *
  have l3 := (Array.getElem?_eq_some_iff.1 q3).1
  have l1 := q1.lt
  have l2 := q2.lt
  obtain ⟨g0, g1⟩ := box2_cells q3
  obtain ⟨a0, a1, a2, a3, a4, a5, a6, a7⟩ := q1.cell
  obtain ⟨d0, d1, d2, d3, d4, d5, d6, d7⟩ := q2.cell
  go_wp2_with fail
  refine (CX.out _).mono ?_
  rintro e w2 ⟨rfl, b2⟩
  have q1 := q1.later b2 l1
  have q2 := q2.later b2 l2
  have q3 := box2_later q3 b2 l3
  have q4 := bt q4 b2
  clear g0 g1 a0 a1 a2 a3 a4 a5 a6 a7 d0 d1 d2 d3 d4 d5 d6 d7
  have l3 := (Array.getElem?_eq_some_iff.1 q3).1
  have l1 := q1.lt
  have l2 := q2.lt
  obtain ⟨g0, g1⟩ := box2_cells q3
  obtain ⟨a0, a1, a2, a3, a4, a5, a6, a7⟩ := q1.cell
  obtain ⟨d0, d1, d2, d3, d4, d5, d6, d7⟩ := q2.cell
  go_wp2_with fail
  refine (CY.out _).mono ?_
  rintro e w3 ⟨rfl, b3⟩
  have q1 := q1.later b3 l1
  have q2 := q2.later b3 l2
  have q3 := box2_later q3 b3 l3
  have q4 := bt q4 b3
  clear g0 g1 a0 a1 a2 a3 a4 a5 a6 a7 d0 d1 d2 d3 d4 d5 d6 d7
  have l3 := (Array.getElem?_eq_some_iff.1 q3).1
  have l1 := q1.lt
  have l2 := q2.lt
  obtain ⟨g0, g1⟩ := box2_cells q3
  obtain ⟨a0, a1, a2, a3, a4, a5, a6, a7⟩ := q1.cell
  obtain ⟨d0, d1, d2, d3, d4, d5, d6, d7⟩ := q2.cell
  go_wp2_with fail
  refine (C1.out _).mono ?_
  rintro e w4 ⟨rfl, b4⟩
  have q1 := q1.later b4 l1
  have q2 := q2.later b4 l2
  have q3 := box2_later q3 b4 l3
  have q4 := bt q4 b4
  clear g0 g1 a0 a1 a2 a3 a4 a5 a6 a7 d0 d1 d2 d3 d4 d5 d6 d7
  have l3 := (Array.getElem?_eq_some_iff.1 q3).1
  have l1 := q1.lt
  have l2 := q2.lt
  obtain ⟨g0, g1⟩ := box2_cells q3
  obtain ⟨a0, a1, a2, a3, a4, a5, a6, a7⟩ := q1.cell
  obtain ⟨d0, d1, d2, d3, d4, d5, d6, d7⟩ := q2.cell
  go_wp2_with fail
  refine (C2.out _).mono ?_
  rintro e w5 ⟨rfl, b5⟩
  have q1 := q1.later b5 l1
  have q2 := q2.later b5 l2
  have q3 := box2_later q3 b5 l3
  have q4 := bt q4 b5
  clear g0 g1 a0 a1 a2 a3 a4 a5 a6 a7 d0 d1 d2 d3 d4 d5 d6 d7
  have l3 := (Array.getElem?_eq_some_iff.1 q3).1
  have l1 := q1.lt
  have l2 := q2.lt
  obtain ⟨g0, g1⟩ := box2_cells q3
  obtain ⟨a0, a1, a2, a3, a4, a5, a6, a7⟩ := q1.cell
  obtain ⟨d0, d1, d2, d3, d4, d5, d6, d7⟩ := q2.cell
  go_wp2_with fail
  refine (CD.out _).mono ?_
  rintro e w6 ⟨rfl, b6⟩
  go_wp2_with fail
  go_ret
  exact ⟨rfl, bt q4 b6⟩

set_option maxHeartbeats 1000000 in
theorem spansApart_noY (x y : Sp) (u v : List UInt8) (w : World) (hfx : Fits x) (hfy : Fits y) (hgx : greatB x = false) (hgy : greatB y = false) (hu : ¬ (1000 : Int) < u.length) (hv : ¬ (1000 : Int) < v.length) (hx : x.ok = true) (hy : y.ok = false) :
    Calls Try.prog 7 #[spVal x, spVal y, val2 u v] w fun e w' => e = .returned (.bool true) ∧ Below w.heap.size w w' := by
  have cgx := fun W => great_any x W hfx
  have cgy := fun W => great_any y W hfy
  obtain ⟨q1, q2, q3, q4⟩ := apart_boxes x y u v w
  have CD := Lib.hid does_true
  rw [hgx] at cgx
  clear hgx
  rw [hgy] at cgy
  clear hgy
  have c1 := fun W => encode_good x W hx
  have c2 := fun W => encode_bad y W hfy hy
  clear hx hy
  generalize x.bytes = t at *
  unfold spVal at cgx cgy c1 c2
  have CX := Lib.hid cgx
  have CY := Lib.hid cgy
  have C1 := Lib.hid c1
  have C2 := Lib.hid c2
  clear cgx cgy c1 c2
  unfold boxP box2 at q1 q2 q3 q4
  unfold spVal val2 at *
  go_enter Try.func7, Try.ntmps7
  go_wp2_with fail
  generalize ((w.alloc _).alloc _).alloc _ = w1 at *
  have l3 := (Array.getElem?_eq_some_iff.1 q3).1
  have l1 := q1.lt
  have l2 := q2.lt
  obtain ⟨g0, g1⟩ := box2_cells q3
  obtain ⟨a0, a1, a2, a3, a4, a5, a6, a7⟩ := q1.cell
  obtain ⟨d0, d1, d2, d3, d4, d5, d6, d7⟩ := q2.cell
  go_wp2_with fail
  refine (CX.out _).mono ?_
  rintro e w2 ⟨rfl, b2⟩
  have q1 := q1.later b2 l1
  have q2 := q2.later b2 l2
  have q3 := box2_later q3 b2 l3
  have q4 := bt q4 b2
  clear g0 g1 a0 a1 a2 a3 a4 a5 a6 a7 d0 d1 d2 d3 d4 d5 d6 d7
  have l3 := (Array.getElem?_eq_some_iff.1 q3).1
  have l1 := q1.lt
  have l2 := q2.lt
  obtain ⟨g0, g1⟩ := box2_cells q3
  obtain ⟨a0, a1, a2, a3, a4, a5, a6, a7⟩ := q1.cell
  obtain ⟨d0, d1, d2, d3, d4, d5, d6, d7⟩ := q2.cell
  go_wp2_with fail
  refine (CY.out _).mono ?_
  rintro e w3 ⟨rfl, b3⟩
  have q1 := q1.later b3 l1
  have q2 := q2.later b3 l2
  have q3 := box2_later q3 b3 l3
  have q4 := bt q4 b3
  clear g0 g1 a0 a1 a2 a3 a4 a5 a6 a7 d0 d1 d2 d3 d4 d5 d6 d7
  have l3 := (Array.getElem?_eq_some_iff.1 q3).1
  have l1 := q1.lt
  have l2 := q2.lt
  obtain ⟨g0, g1⟩ := box2_cells q3
  obtain ⟨a0, a1, a2, a3, a4, a5, a6, a7⟩ := q1.cell
  obtain ⟨d0, d1, d2, d3, d4, d5, d6, d7⟩ := q2.cell
  go_wp2_with fail
  refine (C1.out _).mono ?_
  rintro e w4 ⟨rfl, b4⟩
  have q1 := q1.later b4 l1
  have q2 := q2.later b4 l2
  have q3 := box2_later q3 b4 l3
  have q4 := bt q4 b4
  clear g0 g1 a0 a1 a2 a3 a4 a5 a6 a7 d0 d1 d2 d3 d4 d5 d6 d7
  have l3 := (Array.getElem?_eq_some_iff.1 q3).1
  have l1 := q1.lt
  have l2 := q2.lt
  obtain ⟨g0, g1⟩ := box2_cells q3
  obtain ⟨a0, a1, a2, a3, a4, a5, a6, a7⟩ := q1.cell
  obtain ⟨d0, d1, d2, d3, d4, d5, d6, d7⟩ := q2.cell
  go_wp2_with fail
  refine (C2.out _).mono ?_
  rintro e w5 ⟨rfl, b5⟩
  have q1 := q1.later b5 l1
  have q2 := q2.later b5 l2
  have q3 := box2_later q3 b5 l3
  have q4 := bt q4 b5
  clear g0 g1 a0 a1 a2 a3 a4 a5 a6 a7 d0 d1 d2 d3 d4 d5 d6 d7
  have l3 := (Array.getElem?_eq_some_iff.1 q3).1
  have l1 := q1.lt
  have l2 := q2.lt
  obtain ⟨g0, g1⟩ := box2_cells q3
  obtain ⟨a0, a1, a2, a3, a4, a5, a6, a7⟩ := q1.cell
  obtain ⟨d0, d1, d2, d3, d4, d5, d6, d7⟩ := q2.cell
  go_wp2_with fail
  refine (CD.out _).mono ?_
  rintro e w6 ⟨rfl, b6⟩
  go_wp2_with fail
  go_ret
  exact ⟨rfl, bt q4 b6⟩

set_option maxHeartbeats 1000000 in
theorem spansApart_same (x y : Sp) (u v : List UInt8) (w : World) (hfx : Fits x) (hfy : Fits y) (hgx : greatB x = false) (hgy : greatB y = false) (hu : ¬ (1000 : Int) < u.length) (hv : ¬ (1000 : Int) < v.length) (hx : x.ok = true) (hy : y.ok = true) (hxy : x = y) (huv : u = v) :
    Calls Try.prog 7 #[spVal x, spVal y, val2 u v] w fun e w' => e = .returned (.bool true) ∧ Below w.heap.size w w' := by
  have cgx := fun W => great_any x W hfx
  have cgy := fun W => great_any y W hfy
  obtain ⟨q1, q2, q3, q4⟩ := apart_boxes x y u v w
  have CD := Lib.hid does_true
  rw [hgx] at cgx
  clear hgx
  rw [hgy] at cgy
  clear hgy
  subst hxy
  have c1 := fun W => encode_good x W hx
  have c2 := fun W => encode_good x W hx
  have hlx := bytes_length hx
  clear hx hy
  generalize x.bytes = t at *
  subst huv
  unfold spVal at cgx cgy c1 c2
  have CX := Lib.hid cgx
  have CY := Lib.hid cgy
  have C1 := Lib.hid c1
  have C2 := Lib.hid c2
  clear cgx cgy c1 c2
  unfold boxP box2 at q1 q2 q3 q4
  unfold spVal val2 at *
  go_enter Try.func7, Try.ntmps7
  go_wp2_with fail
  generalize ((w.alloc _).alloc _).alloc _ = w1 at *
  have l3 := (Array.getElem?_eq_some_iff.1 q3).1
  have l1 := q1.lt
  have l2 := q2.lt
  obtain ⟨g0, g1⟩ := box2_cells q3
  obtain ⟨a0, a1, a2, a3, a4, a5, a6, a7⟩ := q1.cell
  obtain ⟨d0, d1, d2, d3, d4, d5, d6, d7⟩ := q2.cell
  go_wp2_with fail
  refine (CX.out _).mono ?_
  rintro e w2 ⟨rfl, b2⟩
  have q1 := q1.later b2 l1
  have q2 := q2.later b2 l2
  have q3 := box2_later q3 b2 l3
  have q4 := bt q4 b2
  clear g0 g1 a0 a1 a2 a3 a4 a5 a6 a7 d0 d1 d2 d3 d4 d5 d6 d7
  have l3 := (Array.getElem?_eq_some_iff.1 q3).1
  have l1 := q1.lt
  have l2 := q2.lt
  obtain ⟨g0, g1⟩ := box2_cells q3
  obtain ⟨a0, a1, a2, a3, a4, a5, a6, a7⟩ := q1.cell
  obtain ⟨d0, d1, d2, d3, d4, d5, d6, d7⟩ := q2.cell
  go_wp2_with fail
  refine (CY.out _).mono ?_
  rintro e w3 ⟨rfl, b3⟩
  have q1 := q1.later b3 l1
  have q2 := q2.later b3 l2
  have q3 := box2_later q3 b3 l3
  have q4 := bt q4 b3
  clear g0 g1 a0 a1 a2 a3 a4 a5 a6 a7 d0 d1 d2 d3 d4 d5 d6 d7
  have l3 := (Array.getElem?_eq_some_iff.1 q3).1
  have l1 := q1.lt
  have l2 := q2.lt
  obtain ⟨g0, g1⟩ := box2_cells q3
  obtain ⟨a0, a1, a2, a3, a4, a5, a6, a7⟩ := q1.cell
  obtain ⟨d0, d1, d2, d3, d4, d5, d6, d7⟩ := q2.cell
  go_wp2_with fail
  refine (C1.out _).mono ?_
  rintro e w4 ⟨rfl, b4⟩
  have q1 := q1.later b4 l1
  have q2 := q2.later b4 l2
  have q3 := box2_later q3 b4 l3
  have q4 := bt q4 b4
  clear g0 g1 a0 a1 a2 a3 a4 a5 a6 a7 d0 d1 d2 d3 d4 d5 d6 d7
  have l3 := (Array.getElem?_eq_some_iff.1 q3).1
  have l1 := q1.lt
  have l2 := q2.lt
  obtain ⟨g0, g1⟩ := box2_cells q3
  obtain ⟨a0, a1, a2, a3, a4, a5, a6, a7⟩ := q1.cell
  obtain ⟨d0, d1, d2, d3, d4, d5, d6, d7⟩ := q2.cell
  go_wp2_with fail
  refine (C2.out _).mono ?_
  rintro e w5 ⟨rfl, b5⟩
  have q1 := q1.later b5 l1
  have q2 := q2.later b5 l2
  have q3 := box2_later q3 b5 l3
  have q4 := bt q4 b5
  clear g0 g1 a0 a1 a2 a3 a4 a5 a6 a7 d0 d1 d2 d3 d4 d5 d6 d7
  have l3 := (Array.getElem?_eq_some_iff.1 q3).1
  have l1 := q1.lt
  have l2 := q2.lt
  obtain ⟨g0, g1⟩ := box2_cells q3
  obtain ⟨a0, a1, a2, a3, a4, a5, a6, a7⟩ := q1.cell
  obtain ⟨d0, d1, d2, d3, d4, d5, d6, d7⟩ := q2.cell
  clear C1 C2 CX CY
  go_wp2_with fail
  refine (CD.out _).mono ?_
  rintro e w6 ⟨rfl, b6⟩
  go_wp2_with fail
  go_ret
  exact ⟨rfl, bt q4 b6⟩

set_option maxHeartbeats 1000000 in
theorem spansApart_behind (x y : Sp) (u v : List UInt8) (w : World) (hfx : Fits x) (hfy : Fits y) (hgx : greatB x = false) (hgy : greatB y = false) (hu : ¬ (1000 : Int) < u.length) (hv : ¬ (1000 : Int) < v.length) (hx : x.ok = true) (hy : y.ok = true) (hxy : x = y) (huv : u ≠ v) :
    Calls Try.prog 7 #[spVal x, spVal y, val2 u v] w fun e w' => e = .returned (.bool true) ∧ Below w.heap.size w w' := by
  have cgx := fun W => great_any x W hfx
  have cgy := fun W => great_any y W hfy
  obtain ⟨q1, q2, q3, q4⟩ := apart_boxes x y u v w
  have CD := Lib.hid does_true
  rw [hgx] at cgx
  clear hgx
  rw [hgy] at cgy
  clear hgy
  subst hxy
  have c1 := fun W => encode_good x W hx
  have c2 := fun W => encode_good x W hx
  have hlx := bytes_length hx
  clear hx hy
  generalize x.bytes = t at *
  have hne := cat_ne (a := t) (c := t) (fun h => huv (List.append_cancel_left h))
  have HN := Lib.hid hne
  have HU := Lib.hid huv
  clear hne huv
  unfold spVal at cgx cgy c1 c2
  have CX := Lib.hid cgx
  have CY := Lib.hid cgy
  have C1 := Lib.hid c1
  have C2 := Lib.hid c2
  clear cgx cgy c1 c2
  unfold boxP box2 at q1 q2 q3 q4
  unfold spVal val2 at *
  go_enter Try.func7, Try.ntmps7
  go_wp2_with fail
  generalize ((w.alloc _).alloc _).alloc _ = w1 at *
  have l3 := (Array.getElem?_eq_some_iff.1 q3).1
  have l1 := q1.lt
  have l2 := q2.lt
  obtain ⟨g0, g1⟩ := box2_cells q3
  obtain ⟨a0, a1, a2, a3, a4, a5, a6, a7⟩ := q1.cell
  obtain ⟨d0, d1, d2, d3, d4, d5, d6, d7⟩ := q2.cell
  go_wp2_with fail
  refine (CX.out _).mono ?_
  rintro e w2 ⟨rfl, b2⟩
  have q1 := q1.later b2 l1
  have q2 := q2.later b2 l2
  have q3 := box2_later q3 b2 l3
  have q4 := bt q4 b2
  clear g0 g1 a0 a1 a2 a3 a4 a5 a6 a7 d0 d1 d2 d3 d4 d5 d6 d7
  have l3 := (Array.getElem?_eq_some_iff.1 q3).1
  have l1 := q1.lt
  have l2 := q2.lt
  obtain ⟨g0, g1⟩ := box2_cells q3
  obtain ⟨a0, a1, a2, a3, a4, a5, a6, a7⟩ := q1.cell
  obtain ⟨d0, d1, d2, d3, d4, d5, d6, d7⟩ := q2.cell
  go_wp2_with fail
  refine (CY.out _).mono ?_
  rintro e w3 ⟨rfl, b3⟩
  have q1 := q1.later b3 l1
  have q2 := q2.later b3 l2
  have q3 := box2_later q3 b3 l3
  have q4 := bt q4 b3
  clear g0 g1 a0 a1 a2 a3 a4 a5 a6 a7 d0 d1 d2 d3 d4 d5 d6 d7
  have l3 := (Array.getElem?_eq_some_iff.1 q3).1
  have l1 := q1.lt
  have l2 := q2.lt
  obtain ⟨g0, g1⟩ := box2_cells q3
  obtain ⟨a0, a1, a2, a3, a4, a5, a6, a7⟩ := q1.cell
  obtain ⟨d0, d1, d2, d3, d4, d5, d6, d7⟩ := q2.cell
  go_wp2_with fail
  refine (C1.out _).mono ?_
  rintro e w4 ⟨rfl, b4⟩
  have q1 := q1.later b4 l1
  have q2 := q2.later b4 l2
  have q3 := box2_later q3 b4 l3
  have q4 := bt q4 b4
  clear g0 g1 a0 a1 a2 a3 a4 a5 a6 a7 d0 d1 d2 d3 d4 d5 d6 d7
  have l3 := (Array.getElem?_eq_some_iff.1 q3).1
  have l1 := q1.lt
  have l2 := q2.lt
  obtain ⟨g0, g1⟩ := box2_cells q3
  obtain ⟨a0, a1, a2, a3, a4, a5, a6, a7⟩ := q1.cell
  obtain ⟨d0, d1, d2, d3, d4, d5, d6, d7⟩ := q2.cell
  go_wp2_with fail
  refine (C2.out _).mono ?_
  rintro e w5 ⟨rfl, b5⟩
  have q1 := q1.later b5 l1
  have q2 := q2.later b5 l2
  have q3 := box2_later q3 b5 l3
  have q4 := bt q4 b5
  clear g0 g1 a0 a1 a2 a3 a4 a5 a6 a7 d0 d1 d2 d3 d4 d5 d6 d7
  have l3 := (Array.getElem?_eq_some_iff.1 q3).1
  have l1 := q1.lt
  have l2 := q2.lt
  obtain ⟨g0, g1⟩ := box2_cells q3
  obtain ⟨a0, a1, a2, a3, a4, a5, a6, a7⟩ := q1.cell
  obtain ⟨d0, d1, d2, d3, d4, d5, d6, d7⟩ := q2.cell
  clear C1 C2 CX CY
  have hne := HN.out
  have huv := HU.out
  go_wp2_with fail
  refine (CD.out _).mono ?_
  rintro e w6 ⟨rfl, b6⟩
  go_wp2_with fail
  go_ret
  exact ⟨rfl, bt q4 b6⟩

set_option maxHeartbeats 1000000 in
theorem spansApart_unlike (x y : Sp) (u v : List UInt8) (w : World) (hfx : Fits x) (hfy : Fits y) (hgx : greatB x = false) (hgy : greatB y = false) (hu : ¬ (1000 : Int) < u.length) (hv : ¬ (1000 : Int) < v.length) (hx : x.ok = true) (hy : y.ok = true) (hxy : x ≠ y) :
    Calls Try.prog 7 #[spVal x, spVal y, val2 u v] w fun e w' => e = .returned (.bool true) ∧ Below w.heap.size w w' := by
  have cgx := fun W => great_any x W hfx
  have cgy := fun W => great_any y W hfy
  obtain ⟨q1, q2, q3, q4⟩ := apart_boxes x y u v w
  have CD := Lib.hid does_true
  rw [hgx] at cgx
  clear hgx
  rw [hgy] at cgy
  clear hgy
  have c1 := fun W => encode_good x W hx
  have c2 := fun W => encode_good y W hy
  have hlx := bytes_length hx
  have hly := bytes_length hy
  have hinj : ∀ a b, x.bytes ++ a = y.bytes ++ b → x = y := fun a b h => (bytes_inj hx hy h).1
  have hn1 : ¬ x.bytes = y.bytes := fun h => hxy (hinj [] [] (by rw [h]))
  have hn2 := cat_ne (a := x.bytes) (c := y.bytes) (b := u) (d := v) (fun h => hxy (hinj _ _ h))
  have hn3 := eql_sp x y
  rw [decide_eq_false hxy] at hn3
  unfold spVal at hn3
  have hn1 : (x.bytes == y.bytes) = false := by simpa using hn1
  have HA := Lib.hid hn1
  have HB := Lib.hid hn2
  have HC := Lib.hid hn3
  clear hinj hx hy hn1 hn2 hn3 hxy
  generalize x.bytes = t at *
  generalize y.bytes = s at *
  unfold spVal at cgx cgy c1 c2
  have CX := Lib.hid cgx
  have CY := Lib.hid cgy
  have C1 := Lib.hid c1
  have C2 := Lib.hid c2
  clear cgx cgy c1 c2
  unfold boxP box2 at q1 q2 q3 q4
  unfold spVal val2 at *
  go_enter Try.func7, Try.ntmps7
  go_wp2_with fail
  generalize ((w.alloc _).alloc _).alloc _ = w1 at *
  have l3 := (Array.getElem?_eq_some_iff.1 q3).1
  have l1 := q1.lt
  have l2 := q2.lt
  obtain ⟨g0, g1⟩ := box2_cells q3
  obtain ⟨a0, a1, a2, a3, a4, a5, a6, a7⟩ := q1.cell
  obtain ⟨d0, d1, d2, d3, d4, d5, d6, d7⟩ := q2.cell
  go_wp2_with fail
  refine (CX.out _).mono ?_
  rintro e w2 ⟨rfl, b2⟩
  have q1 := q1.later b2 l1
  have q2 := q2.later b2 l2
  have q3 := box2_later q3 b2 l3
  have q4 := bt q4 b2
  clear g0 g1 a0 a1 a2 a3 a4 a5 a6 a7 d0 d1 d2 d3 d4 d5 d6 d7
  have l3 := (Array.getElem?_eq_some_iff.1 q3).1
  have l1 := q1.lt
  have l2 := q2.lt
  obtain ⟨g0, g1⟩ := box2_cells q3
  obtain ⟨a0, a1, a2, a3, a4, a5, a6, a7⟩ := q1.cell
  obtain ⟨d0, d1, d2, d3, d4, d5, d6, d7⟩ := q2.cell
  go_wp2_with fail
  refine (CY.out _).mono ?_
  rintro e w3 ⟨rfl, b3⟩
  have q1 := q1.later b3 l1
  have q2 := q2.later b3 l2
  have q3 := box2_later q3 b3 l3
  have q4 := bt q4 b3
  clear g0 g1 a0 a1 a2 a3 a4 a5 a6 a7 d0 d1 d2 d3 d4 d5 d6 d7
  have l3 := (Array.getElem?_eq_some_iff.1 q3).1
  have l1 := q1.lt
  have l2 := q2.lt
  obtain ⟨g0, g1⟩ := box2_cells q3
  obtain ⟨a0, a1, a2, a3, a4, a5, a6, a7⟩ := q1.cell
  obtain ⟨d0, d1, d2, d3, d4, d5, d6, d7⟩ := q2.cell
  go_wp2_with fail
  refine (C1.out _).mono ?_
  rintro e w4 ⟨rfl, b4⟩
  have q1 := q1.later b4 l1
  have q2 := q2.later b4 l2
  have q3 := box2_later q3 b4 l3
  have q4 := bt q4 b4
  clear g0 g1 a0 a1 a2 a3 a4 a5 a6 a7 d0 d1 d2 d3 d4 d5 d6 d7
  have l3 := (Array.getElem?_eq_some_iff.1 q3).1
  have l1 := q1.lt
  have l2 := q2.lt
  obtain ⟨g0, g1⟩ := box2_cells q3
  obtain ⟨a0, a1, a2, a3, a4, a5, a6, a7⟩ := q1.cell
  obtain ⟨d0, d1, d2, d3, d4, d5, d6, d7⟩ := q2.cell
  go_wp2_with fail
  refine (C2.out _).mono ?_
  rintro e w5 ⟨rfl, b5⟩
  have q1 := q1.later b5 l1
  have q2 := q2.later b5 l2
  have q3 := box2_later q3 b5 l3
  have q4 := bt q4 b5
  clear g0 g1 a0 a1 a2 a3 a4 a5 a6 a7 d0 d1 d2 d3 d4 d5 d6 d7
  have l3 := (Array.getElem?_eq_some_iff.1 q3).1
  have l1 := q1.lt
  have l2 := q2.lt
  obtain ⟨g0, g1⟩ := box2_cells q3
  obtain ⟨a0, a1, a2, a3, a4, a5, a6, a7⟩ := q1.cell
  obtain ⟨d0, d1, d2, d3, d4, d5, d6, d7⟩ := q2.cell
  clear C1 C2 CX CY
  have hn1 := HA.out
  have hn2 := HB.out
  have hn3 := HC.out
  go_wp2_with fail
  refine (CD.out _).mono ?_
  rintro e w6 ⟨rfl, b6⟩
  go_wp2_with fail
  go_ret
  exact ⟨rfl, bt q4 b6⟩


theorem spansApart_law (x y : Sp) (u v : List UInt8) (hfx : Fits x) (hfy : Fits y) (w : World) :
    Calls Try.prog 7 #[spVal x, spVal y, val2 u v] w fun e w' => e = .returned (.bool true) ∧ Below w.heap.size w w' := by
  cases hgx : greatB x with
  | true => exact spansApart_gx x y u v w hfx hfy hgx
  | false =>
    cases hgy : greatB y with
    | true => exact spansApart_gy x y u v w hfx hfy hgx hgy
    | false =>
      by_cases hu : (1000 : Int) < u.length
      · exact spansApart_lu x y u v w hfx hfy hgx hgy hu
      · by_cases hv : (1000 : Int) < v.length
        · exact spansApart_lv x y u v w hfx hfy hgx hgy hu hv
        · cases hx : x.ok with
          | false =>
            obtain ⟨t, e, _, _, _, c2, _⟩ := enc_form y hfy
            exact spansApart_noX x y u v w hfx hfy hgx hgy hu hv hx t e c2
          | true =>
            cases hy : y.ok with
            | false => exact spansApart_noY x y u v w hfx hfy hgx hgy hu hv hx hy
            | true =>
              by_cases hxy : x = y
              · by_cases huv : u = v
                · exact spansApart_same x y u v w hfx hfy hgx hgy hu hv hx hy hxy huv
                · exact spansApart_behind x y u v w hfx hfy hgx hgy hu hv hx hy hxy huv
              · exact spansApart_unlike x y u v w hfx hfy hgx hgy hu hv hx hy hxy

section
open Go.ChangeShapes Go.WideShapes Go.Opens
variable {H : Type} {enc : TypeId × Value → H} {w : World} {base : Nat} {spare : Nat → Bool} {held : Bool}
theorem open_str2 {r : Reach} {b0 : Nat} {v : Value} {d : DataW H} {p : List MemPlace} (hv : Value.okWide Try.prog w r b0 35 v) (h : DataW.Trod enc Try.prog w base spare held 35 v d p) :
    ∃ s t : List UInt8, v = val2 s t ∧ d = .agg [.lit (.string s), .lit (.string t)] ∧ p = [] := by
  obtain ⟨cs, ys, m, rfl, rfl, rfl, hc, hy, hf⟩ := open_array1 Try.underlying35 (by kernel_rfl) (by kernel_rfl) hv h
  match cs, hc, ys, hy with
  | [c0, c1], _, [y0, y1], _ =>
    have t0 := hf 0 _ _ rfl rfl
    have t1 := hf 1 _ _ rfl rfl
    obtain ⟨n0, e0, rfl, w0⟩ := DataW.trod_string Try.underlying9 t0
    obtain ⟨n1, e1, rfl, w1⟩ := DataW.trod_string Try.underlying9 t1
    simp only [List.cons.injEq, and_true] at e0 e1
    subst e0 e1
    refine ⟨n0.data.toList, n1.data.toList, ?_, rfl, rfl⟩
    unfold val2
    have s0 : (⟨n0.data.toList.toArray⟩ : ByteArray) = n0 := by cases n0; simp
    have s1 : (⟨n1.data.toList.toArray⟩ : ByteArray) = n1 := by cases n1; simp
    rw [s0, s1]
end
end Go.Proofs.Ytnfagkcmcliagaa
