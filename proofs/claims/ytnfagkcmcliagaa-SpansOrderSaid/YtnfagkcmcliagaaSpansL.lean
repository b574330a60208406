/- The walks of SpansOrder and SpansBack. -/
import Derived.Test.YtnfagkcmcliagaaSpansK
namespace Go.Proofs.Ytnfagkcmcliagaa
open Go.RowKit Spoor

def boxSp (x : Sp) : Obj := .cells #[.int .i64 x.tr, .int .i64 x.id, .int .i64 x.pa, .string ⟨x.sv.toArray⟩, .string ⟨x.ho.toArray⟩, .int .i64 x.st, .int .i64 x.du, .string ⟨x.no.toArray⟩] 23
theorem three_boxes (x y z : Sp) (w : World) : SpAt w.heap.size x (((w.alloc (boxSp x)).alloc (boxSp y)).alloc (boxSp z)) ∧ SpAt (w.heap.size + 1) y (((w.alloc (boxSp x)).alloc (boxSp y)).alloc (boxSp z)) ∧ SpAt (w.heap.size + 2) z (((w.alloc (boxSp x)).alloc (boxSp y)).alloc (boxSp z)) ∧ Below w.heap.size w (((w.alloc (boxSp x)).alloc (boxSp y)).alloc (boxSp z)) := by
  have k1 := ((SpAt.boxed x w).alloc' (boxSp y)).alloc' (boxSp z)
  have k2 := (SpAt.boxed y (w.alloc (boxSp x))).alloc' (boxSp z)
  have k3 := SpAt.boxed z ((w.alloc (boxSp x)).alloc (boxSp y))
  rw [alloc_size] at k2
  rw [alloc_size, alloc_size] at k3
  exact ⟨k1, k2, k3, (below_new2' _ _).alloc (by rw [alloc_size, alloc_size]; omega) _⟩
theorem spansOrder_walk_pre (x y : Sp) : lessB x x = false := by unfold lessB; simp

theorem spansOrder_A1 (x y z : Sp) (w : World) (h1 : (x.tr == y.tr) = false) (ha : lessB x y = true) (hb : lessB y x = false) (hc : lessB y z = true) (hd : lessB x z = true) :
    Calls Try.prog 8 #[spVal x, spVal y, spVal z] w fun e w' => e = .returned (.bool true) ∧ Below w.heap.size w w' := by
  have c1 := less_any x y
  have c2 := less_any y x
  have c3 := less_any y z
  have c4 := less_any x x
  have c5 := less_any x z
  obtain ⟨q1, q2, q3, q4⟩ := three_boxes x y z w
  rw [ha] at c1
  rw [hb] at c2
  rw [spansOrder_walk_pre x x] at c4
  rw [hc] at c3
  rw [hd] at c5
  clear ha hb hc hd
  unfold boxSp at q1 q2 q3 q4
  unfold spVal at *
  have C1 := Lib.hid c1
  have C2 := Lib.hid c2
  have C3 := Lib.hid c3
  have C4 := Lib.hid c4
  have C5 := Lib.hid c5
  have CD := Lib.hid does_true
  clear c1 c2 c3 c4 c5
  go_enter Try.func8, Try.ntmps8
  go_wp2_with fail
  generalize ((w.alloc _).alloc _).alloc _ = w1 at *
  obtain ⟨a0, a1, a2, a3, a4, a5, a6, a7⟩ := q1.cell
  obtain ⟨d0, d1, d2, d3, d4, d5, d6, d7⟩ := q2.cell
  obtain ⟨f0, f1, f2, f3, f4, f5, f6, f7⟩ := q3.cell
  have l1 := q1.lt
  have l2 := q2.lt
  have l3 := q3.lt
  refine wp_region_more (by kernel_rfl) (by kernel_rfl) ?_
  repeat (go_big_quiet_step (fail))
  go_big_quiet_step (exact Calls.more (C1.out _))
  repeat (go_big_quiet_step (fail))
  go_big_quiet_step (exact Calls.more (C2.out _))
  repeat (go_big_quiet_step (fail))
  go_big_quiet_step (exact Calls.more (C3.out _))
  repeat (go_big_quiet_step (fail))
  refine wpQuiet_nil ?_
  rintro _ ⟨ex, rfl⟩
  have b2 := World.below_more w1 ex
  generalize w1.more ex = w2 at *
  have q1 := q1.later b2 l1
  have q2 := q2.later b2 l2
  have q3 := q3.later b2 l3
  have q4 := bt q4 b2
  clear a0 a1 a2 a3 a4 a5 a6 a7 d0 d1 d2 d3 d4 d5 d6 d7 f0 f1 f2 f3 f4 f5 f6 f7
  obtain ⟨a0, a1, a2, a3, a4, a5, a6, a7⟩ := q1.cell
  obtain ⟨d0, d1, d2, d3, d4, d5, d6, d7⟩ := q2.cell
  obtain ⟨f0, f1, f2, f3, f4, f5, f6, f7⟩ := q3.cell
  have l1 := q1.lt
  have l2 := q2.lt
  have l3 := q3.lt
  go_wp2_with fail
  refine (C4.out _).mono ?_
  rintro e w3 ⟨rfl, b3⟩
  have q1 := q1.later b3 l1
  have q2 := q2.later b3 l2
  have q3 := q3.later b3 l3
  have q4 := bt q4 b3
  clear a0 a1 a2 a3 a4 a5 a6 a7 d0 d1 d2 d3 d4 d5 d6 d7 f0 f1 f2 f3 f4 f5 f6 f7
  obtain ⟨a0, a1, a2, a3, a4, a5, a6, a7⟩ := q1.cell
  obtain ⟨d0, d1, d2, d3, d4, d5, d6, d7⟩ := q2.cell
  obtain ⟨f0, f1, f2, f3, f4, f5, f6, f7⟩ := q3.cell
  have l1 := q1.lt
  have l2 := q2.lt
  have l3 := q3.lt
  go_wp2_with fail
  refine (C5.out _).mono ?_
  rintro e w4 ⟨rfl, b4⟩
  have q1 := q1.later b4 l1
  have q2 := q2.later b4 l2
  have q3 := q3.later b4 l3
  have q4 := bt q4 b4
  clear a0 a1 a2 a3 a4 a5 a6 a7 d0 d1 d2 d3 d4 d5 d6 d7 f0 f1 f2 f3 f4 f5 f6 f7
  obtain ⟨a0, a1, a2, a3, a4, a5, a6, a7⟩ := q1.cell
  obtain ⟨d0, d1, d2, d3, d4, d5, d6, d7⟩ := q2.cell
  obtain ⟨f0, f1, f2, f3, f4, f5, f6, f7⟩ := q3.cell
  have l1 := q1.lt
  have l2 := q2.lt
  have l3 := q3.lt
  go_wp2_with fail
  refine (CD.out _).mono ?_
  rintro e w5 ⟨rfl, b5⟩
  go_wp2_with fail
  go_ret
  exact ⟨rfl, bt q4 b5⟩

theorem spansOrder_A2 (x y z : Sp) (w : World) (h1 : (x.tr == y.tr) = false) (ha : lessB x y = true) (hb : lessB y x = false) (hc : lessB y z = false) :
    Calls Try.prog 8 #[spVal x, spVal y, spVal z] w fun e w' => e = .returned (.bool true) ∧ Below w.heap.size w w' := by
  have c1 := less_any x y
  have c2 := less_any y x
  have c3 := less_any y z
  have c4 := less_any x x
  have c5 := less_any x z
  obtain ⟨q1, q2, q3, q4⟩ := three_boxes x y z w
  rw [ha] at c1
  rw [hb] at c2
  rw [spansOrder_walk_pre x x] at c4
  rw [hc] at c3
  clear c5
  clear ha hb hc
  unfold boxSp at q1 q2 q3 q4
  unfold spVal at *
  have C1 := Lib.hid c1
  have C2 := Lib.hid c2
  have C3 := Lib.hid c3
  have C4 := Lib.hid c4
  have CD := Lib.hid does_true
  clear c1 c2 c3 c4
  go_enter Try.func8, Try.ntmps8
  go_wp2_with fail
  generalize ((w.alloc _).alloc _).alloc _ = w1 at *
  obtain ⟨a0, a1, a2, a3, a4, a5, a6, a7⟩ := q1.cell
  obtain ⟨d0, d1, d2, d3, d4, d5, d6, d7⟩ := q2.cell
  obtain ⟨f0, f1, f2, f3, f4, f5, f6, f7⟩ := q3.cell
  have l1 := q1.lt
  have l2 := q2.lt
  have l3 := q3.lt
  refine wp_region_more (by kernel_rfl) (by kernel_rfl) ?_
  repeat (go_big_quiet_step (fail))
  go_big_quiet_step (exact Calls.more (C1.out _))
  repeat (go_big_quiet_step (fail))
  go_big_quiet_step (exact Calls.more (C2.out _))
  repeat (go_big_quiet_step (fail))
  go_big_quiet_step (exact Calls.more (C3.out _))
  repeat (go_big_quiet_step (fail))
  refine wpQuiet_nil ?_
  rintro _ ⟨ex, rfl⟩
  have b2 := World.below_more w1 ex
  generalize w1.more ex = w2 at *
  have q1 := q1.later b2 l1
  have q2 := q2.later b2 l2
  have q3 := q3.later b2 l3
  have q4 := bt q4 b2
  clear a0 a1 a2 a3 a4 a5 a6 a7 d0 d1 d2 d3 d4 d5 d6 d7 f0 f1 f2 f3 f4 f5 f6 f7
  obtain ⟨a0, a1, a2, a3, a4, a5, a6, a7⟩ := q1.cell
  obtain ⟨d0, d1, d2, d3, d4, d5, d6, d7⟩ := q2.cell
  obtain ⟨f0, f1, f2, f3, f4, f5, f6, f7⟩ := q3.cell
  have l1 := q1.lt
  have l2 := q2.lt
  have l3 := q3.lt
  go_wp2_with fail
  refine (C4.out _).mono ?_
  rintro e w3 ⟨rfl, b3⟩
  have q1 := q1.later b3 l1
  have q2 := q2.later b3 l2
  have q3 := q3.later b3 l3
  have q4 := bt q4 b3
  clear a0 a1 a2 a3 a4 a5 a6 a7 d0 d1 d2 d3 d4 d5 d6 d7 f0 f1 f2 f3 f4 f5 f6 f7
  obtain ⟨a0, a1, a2, a3, a4, a5, a6, a7⟩ := q1.cell
  obtain ⟨d0, d1, d2, d3, d4, d5, d6, d7⟩ := q2.cell
  obtain ⟨f0, f1, f2, f3, f4, f5, f6, f7⟩ := q3.cell
  have l1 := q1.lt
  have l2 := q2.lt
  have l3 := q3.lt
  go_wp2_with fail
  refine (CD.out _).mono ?_
  rintro e w5 ⟨rfl, b5⟩
  go_wp2_with fail
  go_ret
  exact ⟨rfl, bt q4 b5⟩

theorem spansOrder_B (x y z : Sp) (w : World) (h1 : (x.tr == y.tr) = false) (ha : lessB x y = false) (hb : lessB y x = true) :
    Calls Try.prog 8 #[spVal x, spVal y, spVal z] w fun e w' => e = .returned (.bool true) ∧ Below w.heap.size w w' := by
  have c1 := less_any x y
  have c2 := less_any y x
  have c3 := less_any y z
  have c4 := less_any x x
  have c5 := less_any x z
  obtain ⟨q1, q2, q3, q4⟩ := three_boxes x y z w
  rw [ha] at c1
  rw [hb] at c2
  rw [spansOrder_walk_pre x x] at c4
  generalize lessB y z = c at *
  clear c5
  clear ha hb
  unfold boxSp at q1 q2 q3 q4
  unfold spVal at *
  have C1 := Lib.hid c1
  have C2 := Lib.hid c2
  have C3 := Lib.hid c3
  have C4 := Lib.hid c4
  have CD := Lib.hid does_true
  clear c1 c2 c3 c4
  go_enter Try.func8, Try.ntmps8
  go_wp2_with fail
  generalize ((w.alloc _).alloc _).alloc _ = w1 at *
  obtain ⟨a0, a1, a2, a3, a4, a5, a6, a7⟩ := q1.cell
  obtain ⟨d0, d1, d2, d3, d4, d5, d6, d7⟩ := q2.cell
  obtain ⟨f0, f1, f2, f3, f4, f5, f6, f7⟩ := q3.cell
  have l1 := q1.lt
  have l2 := q2.lt
  have l3 := q3.lt
  refine wp_region_more (by kernel_rfl) (by kernel_rfl) ?_
  repeat (go_big_quiet_step (fail))
  go_big_quiet_step (exact Calls.more (C1.out _))
  repeat (go_big_quiet_step (fail))
  go_big_quiet_step (exact Calls.more (C2.out _))
  repeat (go_big_quiet_step (fail))
  go_big_quiet_step (exact Calls.more (C3.out _))
  repeat (go_big_quiet_step (fail))
  refine wpQuiet_nil ?_
  rintro _ ⟨ex, rfl⟩
  have b2 := World.below_more w1 ex
  generalize w1.more ex = w2 at *
  have q1 := q1.later b2 l1
  have q2 := q2.later b2 l2
  have q3 := q3.later b2 l3
  have q4 := bt q4 b2
  clear a0 a1 a2 a3 a4 a5 a6 a7 d0 d1 d2 d3 d4 d5 d6 d7 f0 f1 f2 f3 f4 f5 f6 f7
  obtain ⟨a0, a1, a2, a3, a4, a5, a6, a7⟩ := q1.cell
  obtain ⟨d0, d1, d2, d3, d4, d5, d6, d7⟩ := q2.cell
  obtain ⟨f0, f1, f2, f3, f4, f5, f6, f7⟩ := q3.cell
  have l1 := q1.lt
  have l2 := q2.lt
  have l3 := q3.lt
  go_wp2_with fail
  refine (C4.out _).mono ?_
  rintro e w3 ⟨rfl, b3⟩
  have q1 := q1.later b3 l1
  have q2 := q2.later b3 l2
  have q3 := q3.later b3 l3
  have q4 := bt q4 b3
  clear a0 a1 a2 a3 a4 a5 a6 a7 d0 d1 d2 d3 d4 d5 d6 d7 f0 f1 f2 f3 f4 f5 f6 f7
  obtain ⟨a0, a1, a2, a3, a4, a5, a6, a7⟩ := q1.cell
  obtain ⟨d0, d1, d2, d3, d4, d5, d6, d7⟩ := q2.cell
  obtain ⟨f0, f1, f2, f3, f4, f5, f6, f7⟩ := q3.cell
  have l1 := q1.lt
  have l2 := q2.lt
  have l3 := q3.lt
  go_wp2_with fail
  refine (CD.out _).mono ?_
  rintro e w5 ⟨rfl, b5⟩
  go_wp2_with fail
  go_ret
  exact ⟨rfl, bt q4 b5⟩

theorem spansOrder_C1 (x y z : Sp) (w : World) (h1 : (x.tr == y.tr) = true) (h2 : (x.id == y.id) = false) (ha : lessB x y = true) (hb : lessB y x = false) (hc : lessB y z = true) (hd : lessB x z = true) :
    Calls Try.prog 8 #[spVal x, spVal y, spVal z] w fun e w' => e = .returned (.bool true) ∧ Below w.heap.size w w' := by
  have c1 := less_any x y
  have c2 := less_any y x
  have c3 := less_any y z
  have c4 := less_any x x
  have c5 := less_any x z
  obtain ⟨q1, q2, q3, q4⟩ := three_boxes x y z w
  rw [ha] at c1
  rw [hb] at c2
  rw [spansOrder_walk_pre x x] at c4
  rw [hc] at c3
  rw [hd] at c5
  clear ha hb hc hd
  unfold boxSp at q1 q2 q3 q4
  unfold spVal at *
  have C1 := Lib.hid c1
  have C2 := Lib.hid c2
  have C3 := Lib.hid c3
  have C4 := Lib.hid c4
  have C5 := Lib.hid c5
  have CD := Lib.hid does_true
  clear c1 c2 c3 c4 c5
  go_enter Try.func8, Try.ntmps8
  go_wp2_with fail
  generalize ((w.alloc _).alloc _).alloc _ = w1 at *
  obtain ⟨a0, a1, a2, a3, a4, a5, a6, a7⟩ := q1.cell
  obtain ⟨d0, d1, d2, d3, d4, d5, d6, d7⟩ := q2.cell
  obtain ⟨f0, f1, f2, f3, f4, f5, f6, f7⟩ := q3.cell
  have l1 := q1.lt
  have l2 := q2.lt
  have l3 := q3.lt
  refine wp_region_more (by kernel_rfl) (by kernel_rfl) ?_
  repeat (go_big_quiet_step (fail))
  go_big_quiet_step (exact Calls.more (C1.out _))
  repeat (go_big_quiet_step (fail))
  go_big_quiet_step (exact Calls.more (C2.out _))
  repeat (go_big_quiet_step (fail))
  go_big_quiet_step (exact Calls.more (C3.out _))
  repeat (go_big_quiet_step (fail))
  refine wpQuiet_nil ?_
  rintro _ ⟨ex, rfl⟩
  have b2 := World.below_more w1 ex
  generalize w1.more ex = w2 at *
  have q1 := q1.later b2 l1
  have q2 := q2.later b2 l2
  have q3 := q3.later b2 l3
  have q4 := bt q4 b2
  clear a0 a1 a2 a3 a4 a5 a6 a7 d0 d1 d2 d3 d4 d5 d6 d7 f0 f1 f2 f3 f4 f5 f6 f7
  obtain ⟨a0, a1, a2, a3, a4, a5, a6, a7⟩ := q1.cell
  obtain ⟨d0, d1, d2, d3, d4, d5, d6, d7⟩ := q2.cell
  obtain ⟨f0, f1, f2, f3, f4, f5, f6, f7⟩ := q3.cell
  have l1 := q1.lt
  have l2 := q2.lt
  have l3 := q3.lt
  go_wp2_with fail
  refine (C4.out _).mono ?_
  rintro e w3 ⟨rfl, b3⟩
  have q1 := q1.later b3 l1
  have q2 := q2.later b3 l2
  have q3 := q3.later b3 l3
  have q4 := bt q4 b3
  clear a0 a1 a2 a3 a4 a5 a6 a7 d0 d1 d2 d3 d4 d5 d6 d7 f0 f1 f2 f3 f4 f5 f6 f7
  obtain ⟨a0, a1, a2, a3, a4, a5, a6, a7⟩ := q1.cell
  obtain ⟨d0, d1, d2, d3, d4, d5, d6, d7⟩ := q2.cell
  obtain ⟨f0, f1, f2, f3, f4, f5, f6, f7⟩ := q3.cell
  have l1 := q1.lt
  have l2 := q2.lt
  have l3 := q3.lt
  go_wp2_with fail
  refine (C5.out _).mono ?_
  rintro e w4 ⟨rfl, b4⟩
  have q1 := q1.later b4 l1
  have q2 := q2.later b4 l2
  have q3 := q3.later b4 l3
  have q4 := bt q4 b4
  clear a0 a1 a2 a3 a4 a5 a6 a7 d0 d1 d2 d3 d4 d5 d6 d7 f0 f1 f2 f3 f4 f5 f6 f7
  obtain ⟨a0, a1, a2, a3, a4, a5, a6, a7⟩ := q1.cell
  obtain ⟨d0, d1, d2, d3, d4, d5, d6, d7⟩ := q2.cell
  obtain ⟨f0, f1, f2, f3, f4, f5, f6, f7⟩ := q3.cell
  have l1 := q1.lt
  have l2 := q2.lt
  have l3 := q3.lt
  go_wp2_with fail
  refine (CD.out _).mono ?_
  rintro e w5 ⟨rfl, b5⟩
  go_wp2_with fail
  go_ret
  exact ⟨rfl, bt q4 b5⟩

theorem spansOrder_C2 (x y z : Sp) (w : World) (h1 : (x.tr == y.tr) = true) (h2 : (x.id == y.id) = false) (ha : lessB x y = true) (hb : lessB y x = false) (hc : lessB y z = false) :
    Calls Try.prog 8 #[spVal x, spVal y, spVal z] w fun e w' => e = .returned (.bool true) ∧ Below w.heap.size w w' := by
  have c1 := less_any x y
  have c2 := less_any y x
  have c3 := less_any y z
  have c4 := less_any x x
  have c5 := less_any x z
  obtain ⟨q1, q2, q3, q4⟩ := three_boxes x y z w
  rw [ha] at c1
  rw [hb] at c2
  rw [spansOrder_walk_pre x x] at c4
  rw [hc] at c3
  clear c5
  clear ha hb hc
  unfold boxSp at q1 q2 q3 q4
  unfold spVal at *
  have C1 := Lib.hid c1
  have C2 := Lib.hid c2
  have C3 := Lib.hid c3
  have C4 := Lib.hid c4
  have CD := Lib.hid does_true
  clear c1 c2 c3 c4
  go_enter Try.func8, Try.ntmps8
  go_wp2_with fail
  generalize ((w.alloc _).alloc _).alloc _ = w1 at *
  obtain ⟨a0, a1, a2, a3, a4, a5, a6, a7⟩ := q1.cell
  obtain ⟨d0, d1, d2, d3, d4, d5, d6, d7⟩ := q2.cell
  obtain ⟨f0, f1, f2, f3, f4, f5, f6, f7⟩ := q3.cell
  have l1 := q1.lt
  have l2 := q2.lt
  have l3 := q3.lt
  refine wp_region_more (by kernel_rfl) (by kernel_rfl) ?_
  repeat (go_big_quiet_step (fail))
  go_big_quiet_step (exact Calls.more (C1.out _))
  repeat (go_big_quiet_step (fail))
  go_big_quiet_step (exact Calls.more (C2.out _))
  repeat (go_big_quiet_step (fail))
  go_big_quiet_step (exact Calls.more (C3.out _))
  repeat (go_big_quiet_step (fail))
  refine wpQuiet_nil ?_
  rintro _ ⟨ex, rfl⟩
  have b2 := World.below_more w1 ex
  generalize w1.more ex = w2 at *
  have q1 := q1.later b2 l1
  have q2 := q2.later b2 l2
  have q3 := q3.later b2 l3
  have q4 := bt q4 b2
  clear a0 a1 a2 a3 a4 a5 a6 a7 d0 d1 d2 d3 d4 d5 d6 d7 f0 f1 f2 f3 f4 f5 f6 f7
  obtain ⟨a0, a1, a2, a3, a4, a5, a6, a7⟩ := q1.cell
  obtain ⟨d0, d1, d2, d3, d4, d5, d6, d7⟩ := q2.cell
  obtain ⟨f0, f1, f2, f3, f4, f5, f6, f7⟩ := q3.cell
  have l1 := q1.lt
  have l2 := q2.lt
  have l3 := q3.lt
  go_wp2_with fail
  refine (C4.out _).mono ?_
  rintro e w3 ⟨rfl, b3⟩
  have q1 := q1.later b3 l1
  have q2 := q2.later b3 l2
  have q3 := q3.later b3 l3
  have q4 := bt q4 b3
  clear a0 a1 a2 a3 a4 a5 a6 a7 d0 d1 d2 d3 d4 d5 d6 d7 f0 f1 f2 f3 f4 f5 f6 f7
  obtain ⟨a0, a1, a2, a3, a4, a5, a6, a7⟩ := q1.cell
  obtain ⟨d0, d1, d2, d3, d4, d5, d6, d7⟩ := q2.cell
  obtain ⟨f0, f1, f2, f3, f4, f5, f6, f7⟩ := q3.cell
  have l1 := q1.lt
  have l2 := q2.lt
  have l3 := q3.lt
  go_wp2_with fail
  refine (CD.out _).mono ?_
  rintro e w5 ⟨rfl, b5⟩
  go_wp2_with fail
  go_ret
  exact ⟨rfl, bt q4 b5⟩

theorem spansOrder_D (x y z : Sp) (w : World) (h1 : (x.tr == y.tr) = true) (h2 : (x.id == y.id) = false) (ha : lessB x y = false) (hb : lessB y x = true) :
    Calls Try.prog 8 #[spVal x, spVal y, spVal z] w fun e w' => e = .returned (.bool true) ∧ Below w.heap.size w w' := by
  have c1 := less_any x y
  have c2 := less_any y x
  have c3 := less_any y z
  have c4 := less_any x x
  have c5 := less_any x z
  obtain ⟨q1, q2, q3, q4⟩ := three_boxes x y z w
  rw [ha] at c1
  rw [hb] at c2
  rw [spansOrder_walk_pre x x] at c4
  generalize lessB y z = c at *
  clear c5
  clear ha hb
  unfold boxSp at q1 q2 q3 q4
  unfold spVal at *
  have C1 := Lib.hid c1
  have C2 := Lib.hid c2
  have C3 := Lib.hid c3
  have C4 := Lib.hid c4
  have CD := Lib.hid does_true
  clear c1 c2 c3 c4
  go_enter Try.func8, Try.ntmps8
  go_wp2_with fail
  generalize ((w.alloc _).alloc _).alloc _ = w1 at *
  obtain ⟨a0, a1, a2, a3, a4, a5, a6, a7⟩ := q1.cell
  obtain ⟨d0, d1, d2, d3, d4, d5, d6, d7⟩ := q2.cell
  obtain ⟨f0, f1, f2, f3, f4, f5, f6, f7⟩ := q3.cell
  have l1 := q1.lt
  have l2 := q2.lt
  have l3 := q3.lt
  refine wp_region_more (by kernel_rfl) (by kernel_rfl) ?_
  repeat (go_big_quiet_step (fail))
  go_big_quiet_step (exact Calls.more (C1.out _))
  repeat (go_big_quiet_step (fail))
  go_big_quiet_step (exact Calls.more (C2.out _))
  repeat (go_big_quiet_step (fail))
  go_big_quiet_step (exact Calls.more (C3.out _))
  repeat (go_big_quiet_step (fail))
  refine wpQuiet_nil ?_
  rintro _ ⟨ex, rfl⟩
  have b2 := World.below_more w1 ex
  generalize w1.more ex = w2 at *
  have q1 := q1.later b2 l1
  have q2 := q2.later b2 l2
  have q3 := q3.later b2 l3
  have q4 := bt q4 b2
  clear a0 a1 a2 a3 a4 a5 a6 a7 d0 d1 d2 d3 d4 d5 d6 d7 f0 f1 f2 f3 f4 f5 f6 f7
  obtain ⟨a0, a1, a2, a3, a4, a5, a6, a7⟩ := q1.cell
  obtain ⟨d0, d1, d2, d3, d4, d5, d6, d7⟩ := q2.cell
  obtain ⟨f0, f1, f2, f3, f4, f5, f6, f7⟩ := q3.cell
  have l1 := q1.lt
  have l2 := q2.lt
  have l3 := q3.lt
  go_wp2_with fail
  refine (C4.out _).mono ?_
  rintro e w3 ⟨rfl, b3⟩
  have q1 := q1.later b3 l1
  have q2 := q2.later b3 l2
  have q3 := q3.later b3 l3
  have q4 := bt q4 b3
  clear a0 a1 a2 a3 a4 a5 a6 a7 d0 d1 d2 d3 d4 d5 d6 d7 f0 f1 f2 f3 f4 f5 f6 f7
  obtain ⟨a0, a1, a2, a3, a4, a5, a6, a7⟩ := q1.cell
  obtain ⟨d0, d1, d2, d3, d4, d5, d6, d7⟩ := q2.cell
  obtain ⟨f0, f1, f2, f3, f4, f5, f6, f7⟩ := q3.cell
  have l1 := q1.lt
  have l2 := q2.lt
  have l3 := q3.lt
  go_wp2_with fail
  refine (CD.out _).mono ?_
  rintro e w5 ⟨rfl, b5⟩
  go_wp2_with fail
  go_ret
  exact ⟨rfl, bt q4 b5⟩

theorem spansOrder_E (x y z : Sp) (w : World) (h1 : (x.tr == y.tr) = true) (h2 : (x.id == y.id) = true) (ha : lessB x y = false) (hb : lessB y x = false) (hd : lessB x z = lessB y z) :
    Calls Try.prog 8 #[spVal x, spVal y, spVal z] w fun e w' => e = .returned (.bool true) ∧ Below w.heap.size w w' := by
  have c1 := less_any x y
  have c2 := less_any y x
  have c3 := less_any y z
  have c4 := less_any x x
  have c5 := less_any x z
  obtain ⟨q1, q2, q3, q4⟩ := three_boxes x y z w
  rw [ha] at c1
  rw [hb] at c2
  rw [spansOrder_walk_pre x x] at c4
  rw [hd] at c5
  generalize lessB y z = c at *
  clear ha hb hd
  unfold boxSp at q1 q2 q3 q4
  unfold spVal at *
  have C1 := Lib.hid c1
  have C2 := Lib.hid c2
  have C3 := Lib.hid c3
  have C4 := Lib.hid c4
  have C5 := Lib.hid c5
  have CD := Lib.hid does_true
  clear c1 c2 c3 c4 c5
  go_enter Try.func8, Try.ntmps8
  go_wp2_with fail
  generalize ((w.alloc _).alloc _).alloc _ = w1 at *
  obtain ⟨a0, a1, a2, a3, a4, a5, a6, a7⟩ := q1.cell
  obtain ⟨d0, d1, d2, d3, d4, d5, d6, d7⟩ := q2.cell
  obtain ⟨f0, f1, f2, f3, f4, f5, f6, f7⟩ := q3.cell
  have l1 := q1.lt
  have l2 := q2.lt
  have l3 := q3.lt
  refine wp_region_more (by kernel_rfl) (by kernel_rfl) ?_
  repeat (go_big_quiet_step (fail))
  go_big_quiet_step (exact Calls.more (C1.out _))
  repeat (go_big_quiet_step (fail))
  go_big_quiet_step (exact Calls.more (C2.out _))
  repeat (go_big_quiet_step (fail))
  go_big_quiet_step (exact Calls.more (C3.out _))
  repeat (go_big_quiet_step (fail))
  refine wpQuiet_nil ?_
  rintro _ ⟨ex, rfl⟩
  have b2 := World.below_more w1 ex
  generalize w1.more ex = w2 at *
  have q1 := q1.later b2 l1
  have q2 := q2.later b2 l2
  have q3 := q3.later b2 l3
  have q4 := bt q4 b2
  clear a0 a1 a2 a3 a4 a5 a6 a7 d0 d1 d2 d3 d4 d5 d6 d7 f0 f1 f2 f3 f4 f5 f6 f7
  obtain ⟨a0, a1, a2, a3, a4, a5, a6, a7⟩ := q1.cell
  obtain ⟨d0, d1, d2, d3, d4, d5, d6, d7⟩ := q2.cell
  obtain ⟨f0, f1, f2, f3, f4, f5, f6, f7⟩ := q3.cell
  have l1 := q1.lt
  have l2 := q2.lt
  have l3 := q3.lt
  go_wp2_with fail
  refine (C4.out _).mono ?_
  rintro e w3 ⟨rfl, b3⟩
  have q1 := q1.later b3 l1
  have q2 := q2.later b3 l2
  have q3 := q3.later b3 l3
  have q4 := bt q4 b3
  clear a0 a1 a2 a3 a4 a5 a6 a7 d0 d1 d2 d3 d4 d5 d6 d7 f0 f1 f2 f3 f4 f5 f6 f7
  obtain ⟨a0, a1, a2, a3, a4, a5, a6, a7⟩ := q1.cell
  obtain ⟨d0, d1, d2, d3, d4, d5, d6, d7⟩ := q2.cell
  obtain ⟨f0, f1, f2, f3, f4, f5, f6, f7⟩ := q3.cell
  have l1 := q1.lt
  have l2 := q2.lt
  have l3 := q3.lt
  go_wp2_with fail
  refine (C5.out _).mono ?_
  rintro e w4 ⟨rfl, b4⟩
  have q1 := q1.later b4 l1
  have q2 := q2.later b4 l2
  have q3 := q3.later b4 l3
  have q4 := bt q4 b4
  clear a0 a1 a2 a3 a4 a5 a6 a7 d0 d1 d2 d3 d4 d5 d6 d7 f0 f1 f2 f3 f4 f5 f6 f7
  obtain ⟨a0, a1, a2, a3, a4, a5, a6, a7⟩ := q1.cell
  obtain ⟨d0, d1, d2, d3, d4, d5, d6, d7⟩ := q2.cell
  obtain ⟨f0, f1, f2, f3, f4, f5, f6, f7⟩ := q3.cell
  have l1 := q1.lt
  have l2 := q2.lt
  have l3 := q3.lt
  go_wp2_with fail
  refine (CD.out _).mono ?_
  rintro e w5 ⟨rfl, b5⟩
  go_wp2_with fail
  go_ret
  exact ⟨rfl, bt q4 b5⟩

theorem spansOrder_law (x y z : Sp) (w : World) :
    Calls Try.prog 8 #[spVal x, spVal y, spVal z] w fun e w' => e = .returned (.bool true) ∧ Below w.heap.size w w' := by
  by_cases h1 : x.tr = y.tr
  · have e1 : (x.tr == y.tr) = true := by simpa using h1
    by_cases h2 : x.id = y.id
    · exact spansOrder_E x y z w e1 (by simpa using h2) (by simp [lessB, h1, h2]) (by simp [lessB, h1, h2]) (by simp [lessB, h1, h2])
    · have e2 : (x.id == y.id) = false := by simpa using h2
      by_cases h3 : x.id < y.id
      · have ha : lessB x y = true := by simp [lessB, h1, h3]
        have hb : lessB y x = false := by simp [lessB, h1]; omega
        cases hc : lessB y z with
        | true =>
          refine spansOrder_C1 x y z w e1 e2 ha hb hc ?_
          simp only [lessB, Bool.or_eq_true, Bool.and_eq_true, decide_eq_true_eq] at hc ⊢
          omega
        | false => exact spansOrder_C2 x y z w e1 e2 ha hb hc
      · have ha : lessB x y = false := by simp [lessB, h1]; omega
        have hb : lessB y x = true := by simp [lessB, h1]; omega
        exact spansOrder_D x y z w e1 e2 ha hb
  · have e1 : (x.tr == y.tr) = false := by simpa using h1
    by_cases h3 : x.tr < y.tr
    · have ha : lessB x y = true := by simp [lessB, h3]
      have hb : lessB y x = false := by simp [lessB]; omega
      cases hc : lessB y z with
      | true =>
        refine spansOrder_A1 x y z w e1 ha hb hc ?_
        simp only [lessB, Bool.or_eq_true, Bool.and_eq_true, decide_eq_true_eq] at hc ⊢
        omega
      | false => exact spansOrder_A2 x y z w e1 ha hb hc
    · have ha : lessB x y = false := by simp [lessB]; omega
      have hb : lessB y x = true := by simp [lessB]; omega
      exact spansOrder_B x y z w e1 ha hb
end Go.Proofs.Ytnfagkcmcliagaa
