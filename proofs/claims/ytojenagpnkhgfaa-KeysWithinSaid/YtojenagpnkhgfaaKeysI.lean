/- The walks of KeysApart and KeysOrder. -/
import Derived.Test.YtojenagpnkhgfaaKeysH
namespace Go.Proofs.Ytojenagpnkhgfaa
open Go.RowKit Spoor

theorem two_boxes (x y : Sp) (w : World) : SpAt w.heap.size x ((w.alloc (boxP x)).alloc (boxP y)) ∧ SpAt (w.heap.size + 1) y ((w.alloc (boxP x)).alloc (boxP y)) ∧ Below w.heap.size w ((w.alloc (boxP x)).alloc (boxP y)) := by
  have k1 := (SpAt.boxed x w).alloc' (boxP y)
  have k2 := SpAt.boxed y (w.alloc (boxP x))
  rw [alloc_size] at k2
  exact ⟨k1, k2, below_new2' _ _⟩
theorem ids {x : Sp} (h : x.ok = true) : (idOk x.tr && idOk x.id) = true := by
  obtain ⟨⟨a1, a2⟩, ⟨b1, b2⟩, _⟩ := ok_of h
  simp [idOk, *]
theorem of_ok {x : Sp} (h : x.ok = true) (W : World) : Calls Try.prog 10 #[.int .i64 x.tr, .int .i64 x.id] W fun e w' => e = .returned (.tuple #[.string ⟨(sKey x.tr x.id).toArray⟩, .int .i64 0]) ∧ Below W.heap.size W w' := by
  have := of_any x.tr x.id W
  unfold ofKey at this
  rwa [if_pos (ids h)] at this
theorem index_ok {x : Sp} (h : x.ok = true) (W : World) : Calls Try.prog 12 #[spVal x] W fun e w' => e = .returned (.tuple #[.string ⟨(xKey x.sv x.ho x.st x.tr x.id).toArray⟩, .int .i64 0]) ∧ Below W.heap.size W w' := by
  have := index_good x W h
  unfold indexKey at this
  rwa [if_pos h] at this
theorem first_two (g : Nat) (a b : Int) (w : World) (h0 : w.cell? ⟨g, 0, none⟩ = some (.int .i64 a)) (h1 : w.cell? ⟨g, 1, none⟩ = some (.int .i64 b)) :
    Calls Try.prog 27 #[.slice (some ⟨g, 0, none⟩) 2 2] w fun e w' => e = .returned (.int .i64 (firstN [a, b])) ∧ w = w' :=
  first_any g [a, b] 2 w rfl (by omega) (fun i hi => by match i, hi with | 0, _ => exact h0 | 1, _ => exact h1)
theorem first_five (g : Nat) (a b c d e : Int) (w : World) (h0 : w.cell? ⟨g, 0, none⟩ = some (.int .i64 a)) (h1 : w.cell? ⟨g, 1, none⟩ = some (.int .i64 b)) (h2 : w.cell? ⟨g, 2, none⟩ = some (.int .i64 c)) (h3 : w.cell? ⟨g, 3, none⟩ = some (.int .i64 d)) (h4 : w.cell? ⟨g, 4, none⟩ = some (.int .i64 e)) :
    Calls Try.prog 27 #[.slice (some ⟨g, 0, none⟩) 5 5] w fun r w' => r = .returned (.int .i64 (firstN [a, b, c, d, e])) ∧ w = w' :=
  first_any g [a, b, c, d, e] 5 w rfl (by omega) (fun i hi => by match i, hi with | 0, _ => exact h0 | 1, _ => exact h1 | 2, _ => exact h2 | 3, _ => exact h3 | 4, _ => exact h4)
theorem ord_s {x y : Sp} (hx : x.ok = true) (hy : y.ok = true) : ordT (sKey x.tr x.id) (sKey y.tr y.id) = firstN [ordN x.tr y.tr, ordN x.id y.id] := by
  unfold ordT
  rw [sKey_less (ids hx) (ids hy), sKey_less (ids hy) (ids hx)]
  simp only [firstN, ordN]
  generalize x.tr = a
  generalize x.id = b
  generalize y.tr = c
  generalize y.id = d
  rcases Int.lt_trichotomy a c with h | h | h <;> rcases Int.lt_trichotomy b d with k | k | k <;> simp [h, k] <;> omega
theorem bl_cases (u v : List UInt8) : (Op.bytesLess u v = true ∧ Op.bytesLess v u = false ∧ (u == v) = false ∧ (v == u) = false) ∨ (Op.bytesLess u v = false ∧ Op.bytesLess v u = false ∧ u = v) ∨ (Op.bytesLess u v = false ∧ Op.bytesLess v u = true ∧ (u == v) = false ∧ (v == u) = false) := by
  cases h : Op.bytesLess u v with
  | true =>
    refine .inl ⟨rfl, bl_asymm h, ?_, ?_⟩ <;> (rw [beq_eq_false_iff_ne]; rintro rfl; rw [bl_irrefl] at h; cases h)
  | false =>
    cases k : Op.bytesLess v u with
    | true => refine .inr (.inr ⟨rfl, rfl, ?_, ?_⟩) <;> (rw [beq_eq_false_iff_ne]; rintro rfl; rw [bl_irrefl] at k; cases k)
    | false => exact .inr (.inl ⟨rfl, rfl, bl_total h k⟩)
theorem ord_x {x y : Sp} (hx : x.ok = true) (hy : y.ok = true) : ordT (xKey x.sv x.ho x.st x.tr x.id) (xKey y.sv y.ho y.st y.tr y.id) = firstN [ordT x.sv y.sv, ordT x.ho y.ho, ordN x.st y.st, ordN x.tr y.tr, ordN x.id y.id] := by
  have e1 := xKey_less hx hy
  have e2 := xKey_less hy hx
  unfold ordT
  rw [e1, e2]
  clear e1 e2
  simp only [firstN, ordN]
  generalize x.st = s
  generalize y.st = t
  generalize x.tr = a
  generalize x.id = b
  generalize y.tr = c
  generalize y.id = d
  rcases bl_cases x.sv y.sv with ⟨h1, h2, h3, h4⟩ | ⟨h1, h2, h3⟩ | ⟨h1, h2, h3, h4⟩
  · simp [h1]
  · rw [h3, bl_irrefl]
    rcases bl_cases x.ho y.ho with ⟨k1, k2, k3, k4⟩ | ⟨k1, k2, k3⟩ | ⟨k1, k2, k3, k4⟩
    · simp [k1]
    · rw [k3, bl_irrefl]
      rcases Int.lt_trichotomy s t with l | l | l
      · simp [l]
      · rcases Int.lt_trichotomy a c with h | h | h <;> rcases Int.lt_trichotomy b d with k | k | k <;> simp [l, h, k] <;> omega
      · simp [l]; omega
    · simp [k1, k2, k3]
  · simp [h1, h2, h3]
theorem fits_of {x : Sp} (h : x.ok = true) : Fits x := by
  obtain ⟨_, _, _, _, _, f, g, k⟩ := ok_of h
  have := nameOk_of f
  have := nameOk_of g
  exact ⟨by omega, by omega, by omega⟩
theorem keysApart_gx (x y : Sp) (w : World) (hfx : Fits x) (hfy : Fits y) (hg : greatK x = true) :
    Calls Try.prog 9 #[spVal x, spVal y] w fun e w' => e = .returned (.bool true) ∧ Below w.heap.size w w' := by
  have cgx := fun W => greatK_any x W hfx
  have cgy := fun W => greatK_any y W hfy
  have cx := fun W => check_any x W hfx
  have cy := fun W => check_any y W hfy
  obtain ⟨q1, q2, B⟩ := two_boxes x y w
  have CD := Lib.hid kdoes_true
  rw [hg] at cgx
  clear hg
  unfold spVal at *
  unfold boxP at *
  have CGX := Lib.hid cgx
  have CGY := Lib.hid cgy
  have CX := Lib.hid cx
  have CY := Lib.hid cy
  clear cgx cgy cx cy
  go_enter Try.func9, Try.ntmps9
  go_wp2_with fail
  generalize (w.alloc _).alloc _ = w0 at *
  obtain ⟨a0, a1, a2, a3, a4, a5, a6, a7⟩ := q1.cell
  try dsimp only at a0 a1 a2 a3 a4 a5 a6 a7
  obtain ⟨d0, d1, d2, d3, d4, d5, d6, d7⟩ := q2.cell
  try dsimp only at d0 d1 d2 d3 d4 d5 d6 d7
  go_wp2_with fail
  refine (CGX.out _).mono ?_
  rintro e1 w1 ⟨rfl, b1⟩
  clear a0 a1 a2 a3 a4 a5 a6 a7
  clear d0 d1 d2 d3 d4 d5 d6 d7
  have q1 := q1.later b1 q1.lt
  have q2 := q2.later b1 q2.lt
  have B := bt B b1
  clear b1
  obtain ⟨a0, a1, a2, a3, a4, a5, a6, a7⟩ := q1.cell
  try dsimp only at a0 a1 a2 a3 a4 a5 a6 a7
  obtain ⟨d0, d1, d2, d3, d4, d5, d6, d7⟩ := q2.cell
  try dsimp only at d0 d1 d2 d3 d4 d5 d6 d7
  go_wp2_with fail
  refine (CD.out _).mono ?_
  rintro e2 w2 ⟨rfl, b2⟩
  clear a0 a1 a2 a3 a4 a5 a6 a7
  clear d0 d1 d2 d3 d4 d5 d6 d7
  have q1 := q1.later b2 q1.lt
  have q2 := q2.later b2 q2.lt
  have B := bt B b2
  clear b2
  obtain ⟨a0, a1, a2, a3, a4, a5, a6, a7⟩ := q1.cell
  try dsimp only at a0 a1 a2 a3 a4 a5 a6 a7
  obtain ⟨d0, d1, d2, d3, d4, d5, d6, d7⟩ := q2.cell
  try dsimp only at d0 d1 d2 d3 d4 d5 d6 d7
  go_wp2_with fail
  go_ret
  exact ⟨rfl, B⟩
theorem keysApart_gy (x y : Sp) (w : World) (hfx : Fits x) (hfy : Fits y) (hg : greatK x = false) (hh : greatK y = true) :
    Calls Try.prog 9 #[spVal x, spVal y] w fun e w' => e = .returned (.bool true) ∧ Below w.heap.size w w' := by
  have cgx := fun W => greatK_any x W hfx
  have cgy := fun W => greatK_any y W hfy
  have cx := fun W => check_any x W hfx
  have cy := fun W => check_any y W hfy
  obtain ⟨q1, q2, B⟩ := two_boxes x y w
  have CD := Lib.hid kdoes_true
  rw [hg] at cgx
  rw [hh] at cgy
  clear hg hh
  unfold spVal at *
  unfold boxP at *
  have CGX := Lib.hid cgx
  have CGY := Lib.hid cgy
  have CX := Lib.hid cx
  have CY := Lib.hid cy
  clear cgx cgy cx cy
  go_enter Try.func9, Try.ntmps9
  go_wp2_with fail
  generalize (w.alloc _).alloc _ = w0 at *
  obtain ⟨a0, a1, a2, a3, a4, a5, a6, a7⟩ := q1.cell
  try dsimp only at a0 a1 a2 a3 a4 a5 a6 a7
  obtain ⟨d0, d1, d2, d3, d4, d5, d6, d7⟩ := q2.cell
  try dsimp only at d0 d1 d2 d3 d4 d5 d6 d7
  go_wp2_with fail
  refine (CGX.out _).mono ?_
  rintro e1 w1 ⟨rfl, b1⟩
  clear a0 a1 a2 a3 a4 a5 a6 a7
  clear d0 d1 d2 d3 d4 d5 d6 d7
  have q1 := q1.later b1 q1.lt
  have q2 := q2.later b1 q2.lt
  have B := bt B b1
  clear b1
  obtain ⟨a0, a1, a2, a3, a4, a5, a6, a7⟩ := q1.cell
  try dsimp only at a0 a1 a2 a3 a4 a5 a6 a7
  obtain ⟨d0, d1, d2, d3, d4, d5, d6, d7⟩ := q2.cell
  try dsimp only at d0 d1 d2 d3 d4 d5 d6 d7
  go_wp2_with fail
  refine (CGY.out _).mono ?_
  rintro e2 w2 ⟨rfl, b2⟩
  clear a0 a1 a2 a3 a4 a5 a6 a7
  clear d0 d1 d2 d3 d4 d5 d6 d7
  have q1 := q1.later b2 q1.lt
  have q2 := q2.later b2 q2.lt
  have B := bt B b2
  clear b2
  obtain ⟨a0, a1, a2, a3, a4, a5, a6, a7⟩ := q1.cell
  try dsimp only at a0 a1 a2 a3 a4 a5 a6 a7
  obtain ⟨d0, d1, d2, d3, d4, d5, d6, d7⟩ := q2.cell
  try dsimp only at d0 d1 d2 d3 d4 d5 d6 d7
  go_wp2_with fail
  refine (CD.out _).mono ?_
  rintro e3 w3 ⟨rfl, b3⟩
  clear a0 a1 a2 a3 a4 a5 a6 a7
  clear d0 d1 d2 d3 d4 d5 d6 d7
  have q1 := q1.later b3 q1.lt
  have q2 := q2.later b3 q2.lt
  have B := bt B b3
  clear b3
  obtain ⟨a0, a1, a2, a3, a4, a5, a6, a7⟩ := q1.cell
  try dsimp only at a0 a1 a2 a3 a4 a5 a6 a7
  obtain ⟨d0, d1, d2, d3, d4, d5, d6, d7⟩ := q2.cell
  try dsimp only at d0 d1 d2 d3 d4 d5 d6 d7
  go_wp2_with fail
  go_ret
  exact ⟨rfl, B⟩
theorem keysApart_nx (x y : Sp) (w : World) (hfx : Fits x) (hfy : Fits y) (hg : greatK x = false) (hh : greatK y = false) (hx : x.ok = false) :
    Calls Try.prog 9 #[spVal x, spVal y] w fun e w' => e = .returned (.bool true) ∧ Below w.heap.size w w' := by
  have cgx := fun W => greatK_any x W hfx
  have cgy := fun W => greatK_any y W hfy
  have cx := fun W => check_any x W hfx
  have cy := fun W => check_any y W hfy
  obtain ⟨q1, q2, B⟩ := two_boxes x y w
  have CD := Lib.hid kdoes_true
  rw [hg] at cgx
  rw [hh] at cgy
  rw [checkV_no hx] at cx
  clear hg hh hx
  unfold spVal at *
  unfold boxP at *
  have CGX := Lib.hid cgx
  have CGY := Lib.hid cgy
  have CX := Lib.hid cx
  have CY := Lib.hid cy
  clear cgx cgy cx cy
  go_enter Try.func9, Try.ntmps9
  go_wp2_with fail
  generalize (w.alloc _).alloc _ = w0 at *
  obtain ⟨a0, a1, a2, a3, a4, a5, a6, a7⟩ := q1.cell
  try dsimp only at a0 a1 a2 a3 a4 a5 a6 a7
  obtain ⟨d0, d1, d2, d3, d4, d5, d6, d7⟩ := q2.cell
  try dsimp only at d0 d1 d2 d3 d4 d5 d6 d7
  go_wp2_with fail
  refine (CGX.out _).mono ?_
  rintro e1 w1 ⟨rfl, b1⟩
  clear a0 a1 a2 a3 a4 a5 a6 a7
  clear d0 d1 d2 d3 d4 d5 d6 d7
  have q1 := q1.later b1 q1.lt
  have q2 := q2.later b1 q2.lt
  have B := bt B b1
  clear b1
  obtain ⟨a0, a1, a2, a3, a4, a5, a6, a7⟩ := q1.cell
  try dsimp only at a0 a1 a2 a3 a4 a5 a6 a7
  obtain ⟨d0, d1, d2, d3, d4, d5, d6, d7⟩ := q2.cell
  try dsimp only at d0 d1 d2 d3 d4 d5 d6 d7
  go_wp2_with fail
  refine (CGY.out _).mono ?_
  rintro e2 w2 ⟨rfl, b2⟩
  clear a0 a1 a2 a3 a4 a5 a6 a7
  clear d0 d1 d2 d3 d4 d5 d6 d7
  have q1 := q1.later b2 q1.lt
  have q2 := q2.later b2 q2.lt
  have B := bt B b2
  clear b2
  obtain ⟨a0, a1, a2, a3, a4, a5, a6, a7⟩ := q1.cell
  try dsimp only at a0 a1 a2 a3 a4 a5 a6 a7
  obtain ⟨d0, d1, d2, d3, d4, d5, d6, d7⟩ := q2.cell
  try dsimp only at d0 d1 d2 d3 d4 d5 d6 d7
  go_wp2_with fail
  refine (CX.out _).mono ?_
  rintro e3 w3 ⟨rfl, b3⟩
  clear a0 a1 a2 a3 a4 a5 a6 a7
  clear d0 d1 d2 d3 d4 d5 d6 d7
  have q1 := q1.later b3 q1.lt
  have q2 := q2.later b3 q2.lt
  have B := bt B b3
  clear b3
  obtain ⟨a0, a1, a2, a3, a4, a5, a6, a7⟩ := q1.cell
  try dsimp only at a0 a1 a2 a3 a4 a5 a6 a7
  obtain ⟨d0, d1, d2, d3, d4, d5, d6, d7⟩ := q2.cell
  try dsimp only at d0 d1 d2 d3 d4 d5 d6 d7
  go_wp2_with fail
  refine (CD.out _).mono ?_
  rintro e4 w4 ⟨rfl, b4⟩
  clear a0 a1 a2 a3 a4 a5 a6 a7
  clear d0 d1 d2 d3 d4 d5 d6 d7
  have q1 := q1.later b4 q1.lt
  have q2 := q2.later b4 q2.lt
  have B := bt B b4
  clear b4
  obtain ⟨a0, a1, a2, a3, a4, a5, a6, a7⟩ := q1.cell
  try dsimp only at a0 a1 a2 a3 a4 a5 a6 a7
  obtain ⟨d0, d1, d2, d3, d4, d5, d6, d7⟩ := q2.cell
  try dsimp only at d0 d1 d2 d3 d4 d5 d6 d7
  go_wp2_with fail
  go_ret
  exact ⟨rfl, B⟩
theorem keysApart_ny (x y : Sp) (w : World) (hfx : Fits x) (hfy : Fits y) (hg : greatK x = false) (hh : greatK y = false) (hx : x.ok = true) (hy : y.ok = false) :
    Calls Try.prog 9 #[spVal x, spVal y] w fun e w' => e = .returned (.bool true) ∧ Below w.heap.size w w' := by
  have cgx := fun W => greatK_any x W hfx
  have cgy := fun W => greatK_any y W hfy
  have cx := fun W => check_any x W hfx
  have cy := fun W => check_any y W hfy
  obtain ⟨q1, q2, B⟩ := two_boxes x y w
  have CD := Lib.hid kdoes_true
  rw [hg] at cgx
  rw [hh] at cgy
  rw [checkV_ok hx] at cx
  rw [checkV_no hy] at cy
  clear hg hh hx hy
  unfold spVal at *
  unfold boxP at *
  have CGX := Lib.hid cgx
  have CGY := Lib.hid cgy
  have CX := Lib.hid cx
  have CY := Lib.hid cy
  clear cgx cgy cx cy
  go_enter Try.func9, Try.ntmps9
  go_wp2_with fail
  generalize (w.alloc _).alloc _ = w0 at *
  obtain ⟨a0, a1, a2, a3, a4, a5, a6, a7⟩ := q1.cell
  try dsimp only at a0 a1 a2 a3 a4 a5 a6 a7
  obtain ⟨d0, d1, d2, d3, d4, d5, d6, d7⟩ := q2.cell
  try dsimp only at d0 d1 d2 d3 d4 d5 d6 d7
  go_wp2_with fail
  refine (CGX.out _).mono ?_
  rintro e1 w1 ⟨rfl, b1⟩
  clear a0 a1 a2 a3 a4 a5 a6 a7
  clear d0 d1 d2 d3 d4 d5 d6 d7
  have q1 := q1.later b1 q1.lt
  have q2 := q2.later b1 q2.lt
  have B := bt B b1
  clear b1
  obtain ⟨a0, a1, a2, a3, a4, a5, a6, a7⟩ := q1.cell
  try dsimp only at a0 a1 a2 a3 a4 a5 a6 a7
  obtain ⟨d0, d1, d2, d3, d4, d5, d6, d7⟩ := q2.cell
  try dsimp only at d0 d1 d2 d3 d4 d5 d6 d7
  go_wp2_with fail
  refine (CGY.out _).mono ?_
  rintro e2 w2 ⟨rfl, b2⟩
  clear a0 a1 a2 a3 a4 a5 a6 a7
  clear d0 d1 d2 d3 d4 d5 d6 d7
  have q1 := q1.later b2 q1.lt
  have q2 := q2.later b2 q2.lt
  have B := bt B b2
  clear b2
  obtain ⟨a0, a1, a2, a3, a4, a5, a6, a7⟩ := q1.cell
  try dsimp only at a0 a1 a2 a3 a4 a5 a6 a7
  obtain ⟨d0, d1, d2, d3, d4, d5, d6, d7⟩ := q2.cell
  try dsimp only at d0 d1 d2 d3 d4 d5 d6 d7
  go_wp2_with fail
  refine (CX.out _).mono ?_
  rintro e3 w3 ⟨rfl, b3⟩
  clear a0 a1 a2 a3 a4 a5 a6 a7
  clear d0 d1 d2 d3 d4 d5 d6 d7
  have q1 := q1.later b3 q1.lt
  have q2 := q2.later b3 q2.lt
  have B := bt B b3
  clear b3
  obtain ⟨a0, a1, a2, a3, a4, a5, a6, a7⟩ := q1.cell
  try dsimp only at a0 a1 a2 a3 a4 a5 a6 a7
  obtain ⟨d0, d1, d2, d3, d4, d5, d6, d7⟩ := q2.cell
  try dsimp only at d0 d1 d2 d3 d4 d5 d6 d7
  go_wp2_with fail
  refine (CY.out _).mono ?_
  rintro e4 w4 ⟨rfl, b4⟩
  clear a0 a1 a2 a3 a4 a5 a6 a7
  clear d0 d1 d2 d3 d4 d5 d6 d7
  have q1 := q1.later b4 q1.lt
  have q2 := q2.later b4 q2.lt
  have B := bt B b4
  clear b4
  obtain ⟨a0, a1, a2, a3, a4, a5, a6, a7⟩ := q1.cell
  try dsimp only at a0 a1 a2 a3 a4 a5 a6 a7
  obtain ⟨d0, d1, d2, d3, d4, d5, d6, d7⟩ := q2.cell
  try dsimp only at d0 d1 d2 d3 d4 d5 d6 d7
  go_wp2_with fail
  refine (CD.out _).mono ?_
  rintro e5 w5 ⟨rfl, b5⟩
  clear a0 a1 a2 a3 a4 a5 a6 a7
  clear d0 d1 d2 d3 d4 d5 d6 d7
  have q1 := q1.later b5 q1.lt
  have q2 := q2.later b5 q2.lt
  have B := bt B b5
  clear b5
  obtain ⟨a0, a1, a2, a3, a4, a5, a6, a7⟩ := q1.cell
  try dsimp only at a0 a1 a2 a3 a4 a5 a6 a7
  obtain ⟨d0, d1, d2, d3, d4, d5, d6, d7⟩ := q2.cell
  try dsimp only at d0 d1 d2 d3 d4 d5 d6 d7
  go_wp2_with fail
  go_ret
  exact ⟨rfl, B⟩
set_option maxHeartbeats 1000000 in
theorem keysApart_in (x y : Sp) (w : World) (hfx : Fits x) (hfy : Fits y) (hg : greatK x = false) (hh : greatK y = false) (hx : x.ok = true) (hy : y.ok = true) :
    Calls Try.prog 9 #[spVal x, spVal y] w fun e w' => e = .returned (.bool true) ∧ Below w.heap.size w w' := by
  have cgx := fun W => greatK_any x W hfx
  have cgy := fun W => greatK_any y W hfy
  have cx := fun W => check_any x W hfx
  have cy := fun W => check_any y W hfy
  obtain ⟨q1, q2, B⟩ := two_boxes x y w
  have CD := Lib.hid kdoes_true
  have kx := fun W => of_ok hx W
  have ky := fun W => of_ok hy W
  have ix := fun W => index_ok hx W
  have iy := fun W => index_ok hy W
  have rx := fun W => row_any (sKey x.tr x.id) (by rw [sKey_length]; omega) W
  have ry := fun W => row_any (sKey y.tr y.id) (by rw [sKey_length]; omega) W
  rw [rowK_s (ids hx)] at rx
  rw [rowK_s (ids hy)] at ry
  have hab : (sKey x.tr x.id == sKey y.tr y.id) = (decide (x.tr = y.tr) && decide (x.id = y.id)) := by
    rw [Bool.eq_iff_iff, beq_iff_eq, sKey_inj (ids hx) (ids hy)]
    simp
  have hxy : (decide (x.tr = y.tr) && decide (x.id = y.id)) = false → (xKey x.sv x.ho x.st x.tr x.id == xKey y.sv y.ho y.st y.tr y.id) = false := by
    intro h
    rw [beq_eq_false_iff_ne]
    intro e
    obtain ⟨e1, e2, _⟩ := xKey_inj hx hy e
    simp [e1, e2] at h
  have hay : (sKey x.tr x.id == xKey y.sv y.ho y.st y.tr y.id) = false := by
    rw [beq_eq_false_iff_ne, sKey, xKey]
    intro e
    injection e with e1
    exact absurd e1 (by decide)
  have hr : (115 :: big x.tr.toNat == 115 :: big y.tr.toNat) = decide (x.tr = y.tr) := by
    obtain ⟨⟨a1, a2⟩, _⟩ := ok_of hx
    obtain ⟨⟨b1, b2⟩, _⟩ := ok_of hy
    rw [← big_beq (by omega) (by omega) (by omega) (by omega)]
    rfl
  rw [hg] at cgx
  rw [hh] at cgy
  rw [checkV_ok hx] at cx
  rw [checkV_ok hy] at cy
  clear hg hh hx hy
  generalize sKey x.tr x.id = a at *
  generalize sKey y.tr y.id = b at *
  generalize xKey x.sv x.ho x.st x.tr x.id = u at *
  generalize xKey y.sv y.ho y.st y.tr y.id = v at *
  generalize big x.tr.toNat = m at *
  generalize big y.tr.toNat = n at *
  unfold spVal at *
  unfold boxP at *
  have CGX := Lib.hid cgx
  have CGY := Lib.hid cgy
  have CX := Lib.hid cx
  have CY := Lib.hid cy
  clear cgx cgy cx cy
  have KX := Lib.hid kx
  have KY := Lib.hid ky
  have IX := Lib.hid ix
  have IY := Lib.hid iy
  have RX := Lib.hid rx
  have RY := Lib.hid ry
  have HAB := Lib.hid hab
  have HXY := Lib.hid hxy
  have HAY := Lib.hid hay
  have HR := Lib.hid hr
  clear kx ky ix iy rx ry hab hxy hay hr
  go_enter Try.func9, Try.ntmps9
  go_wp2_with fail
  generalize (w.alloc _).alloc _ = w0 at *
  obtain ⟨a0, a1, a2, a3, a4, a5, a6, a7⟩ := q1.cell
  try dsimp only at a0 a1 a2 a3 a4 a5 a6 a7
  obtain ⟨d0, d1, d2, d3, d4, d5, d6, d7⟩ := q2.cell
  try dsimp only at d0 d1 d2 d3 d4 d5 d6 d7
  go_wp2_with fail
  refine (CGX.out _).mono ?_
  rintro e1 w1 ⟨rfl, b1⟩
  clear a0 a1 a2 a3 a4 a5 a6 a7
  clear d0 d1 d2 d3 d4 d5 d6 d7
  have q1 := q1.later b1 q1.lt
  have q2 := q2.later b1 q2.lt
  have B := bt B b1
  clear b1
  obtain ⟨a0, a1, a2, a3, a4, a5, a6, a7⟩ := q1.cell
  try dsimp only at a0 a1 a2 a3 a4 a5 a6 a7
  obtain ⟨d0, d1, d2, d3, d4, d5, d6, d7⟩ := q2.cell
  try dsimp only at d0 d1 d2 d3 d4 d5 d6 d7
  go_wp2_with fail
  refine (CGY.out _).mono ?_
  rintro e2 w2 ⟨rfl, b2⟩
  clear a0 a1 a2 a3 a4 a5 a6 a7
  clear d0 d1 d2 d3 d4 d5 d6 d7
  have q1 := q1.later b2 q1.lt
  have q2 := q2.later b2 q2.lt
  have B := bt B b2
  clear b2
  obtain ⟨a0, a1, a2, a3, a4, a5, a6, a7⟩ := q1.cell
  try dsimp only at a0 a1 a2 a3 a4 a5 a6 a7
  obtain ⟨d0, d1, d2, d3, d4, d5, d6, d7⟩ := q2.cell
  try dsimp only at d0 d1 d2 d3 d4 d5 d6 d7
  go_wp2_with fail
  refine (CX.out _).mono ?_
  rintro e3 w3 ⟨rfl, b3⟩
  clear a0 a1 a2 a3 a4 a5 a6 a7
  clear d0 d1 d2 d3 d4 d5 d6 d7
  have q1 := q1.later b3 q1.lt
  have q2 := q2.later b3 q2.lt
  have B := bt B b3
  clear b3
  obtain ⟨a0, a1, a2, a3, a4, a5, a6, a7⟩ := q1.cell
  try dsimp only at a0 a1 a2 a3 a4 a5 a6 a7
  obtain ⟨d0, d1, d2, d3, d4, d5, d6, d7⟩ := q2.cell
  try dsimp only at d0 d1 d2 d3 d4 d5 d6 d7
  go_wp2_with fail
  refine (CY.out _).mono ?_
  rintro e4 w4 ⟨rfl, b4⟩
  clear a0 a1 a2 a3 a4 a5 a6 a7
  clear d0 d1 d2 d3 d4 d5 d6 d7
  have q1 := q1.later b4 q1.lt
  have q2 := q2.later b4 q2.lt
  have B := bt B b4
  clear b4
  obtain ⟨a0, a1, a2, a3, a4, a5, a6, a7⟩ := q1.cell
  try dsimp only at a0 a1 a2 a3 a4 a5 a6 a7
  obtain ⟨d0, d1, d2, d3, d4, d5, d6, d7⟩ := q2.cell
  try dsimp only at d0 d1 d2 d3 d4 d5 d6 d7
  go_wp2_with fail
  refine (KX.out _).mono ?_
  rintro e5 w5 ⟨rfl, b5⟩
  clear a0 a1 a2 a3 a4 a5 a6 a7
  clear d0 d1 d2 d3 d4 d5 d6 d7
  have q1 := q1.later b5 q1.lt
  have q2 := q2.later b5 q2.lt
  have B := bt B b5
  clear b5
  obtain ⟨a0, a1, a2, a3, a4, a5, a6, a7⟩ := q1.cell
  try dsimp only at a0 a1 a2 a3 a4 a5 a6 a7
  obtain ⟨d0, d1, d2, d3, d4, d5, d6, d7⟩ := q2.cell
  try dsimp only at d0 d1 d2 d3 d4 d5 d6 d7
  go_wp2_with fail
  refine (KY.out _).mono ?_
  rintro e6 w6 ⟨rfl, b6⟩
  clear a0 a1 a2 a3 a4 a5 a6 a7
  clear d0 d1 d2 d3 d4 d5 d6 d7
  have q1 := q1.later b6 q1.lt
  have q2 := q2.later b6 q2.lt
  have B := bt B b6
  clear b6
  obtain ⟨a0, a1, a2, a3, a4, a5, a6, a7⟩ := q1.cell
  try dsimp only at a0 a1 a2 a3 a4 a5 a6 a7
  obtain ⟨d0, d1, d2, d3, d4, d5, d6, d7⟩ := q2.cell
  try dsimp only at d0 d1 d2 d3 d4 d5 d6 d7
  go_wp2_with fail
  refine (IX.out _).mono ?_
  rintro e7 w7 ⟨rfl, b7⟩
  clear a0 a1 a2 a3 a4 a5 a6 a7
  clear d0 d1 d2 d3 d4 d5 d6 d7
  have q1 := q1.later b7 q1.lt
  have q2 := q2.later b7 q2.lt
  have B := bt B b7
  clear b7
  obtain ⟨a0, a1, a2, a3, a4, a5, a6, a7⟩ := q1.cell
  try dsimp only at a0 a1 a2 a3 a4 a5 a6 a7
  obtain ⟨d0, d1, d2, d3, d4, d5, d6, d7⟩ := q2.cell
  try dsimp only at d0 d1 d2 d3 d4 d5 d6 d7
  go_wp2_with fail
  refine (IY.out _).mono ?_
  rintro e8 w8 ⟨rfl, b8⟩
  clear a0 a1 a2 a3 a4 a5 a6 a7
  clear d0 d1 d2 d3 d4 d5 d6 d7
  have q1 := q1.later b8 q1.lt
  have q2 := q2.later b8 q2.lt
  have B := bt B b8
  clear b8
  obtain ⟨a0, a1, a2, a3, a4, a5, a6, a7⟩ := q1.cell
  try dsimp only at a0 a1 a2 a3 a4 a5 a6 a7
  obtain ⟨d0, d1, d2, d3, d4, d5, d6, d7⟩ := q2.cell
  try dsimp only at d0 d1 d2 d3 d4 d5 d6 d7
  have hay := HAY.out
  have hay2 : (a != v) = true := by rw [bne, hay]; rfl
  have l1 := q1.lt
  have l2 := q2.lt
  have B7 := B
  by_cases h1 : x.tr = y.tr
  · have t1 : (x.tr == y.tr) = true := by rw [beq_iff_eq]; exact h1
    have hr : (115 :: m == 115 :: n) = true := by rw [HR.out]; simp [h1]
    by_cases h2 : x.id = y.id
    · have t2 : (x.id == y.id) = true := by rw [beq_iff_eq]; exact h2
      have hab : (a == b) = true := by rw [HAB.out]; simp [h1, h2]
      clear h1 h2
      go_upto_region 8 with fail
      refine wp_region_more (by kernel_rfl) (by kernel_rfl) ?_
      repeat (go_big_quiet_step (fail))
      go_big_quiet_step (exact Calls.more (RX.out _))
      repeat (go_big_quiet_step (fail))
      go_big_quiet_step (exact Calls.more (RX.out _))
      repeat (go_big_quiet_step (fail))
      go_big_quiet_step (exact Calls.more (RY.out _))
      repeat (go_big_quiet_step (fail))
      go_big_quiet_step (exact Calls.more (CD.out _))
      repeat (go_big_quiet_step (fail))
      refine wpQuiet_nil ?_
      rintro _ ⟨ex, rfl⟩
      have b9 := World.below_more w8 ex
      go_wp2_with fail
      go_ret
      exact ⟨rfl, bt B b9⟩
    · have t2 : (x.id == y.id) = false := by rw [beq_eq_false_iff_ne]; exact h2
      have hab : (a == b) = false := by rw [HAB.out]; simp [h1, h2]
      have huv : (u == v) = false := HXY.out (by simp [h2])
      have huv2 : (u != v) = true := by rw [bne, huv]; rfl
      clear h1 h2
      go_upto_region 8 with fail
      refine wp_region_more (by kernel_rfl) (by kernel_rfl) ?_
      repeat (go_big_quiet_step (fail))
      go_big_quiet_step (exact Calls.more (RX.out _))
      repeat (go_big_quiet_step (fail))
      go_big_quiet_step (exact Calls.more (RX.out _))
      repeat (go_big_quiet_step (fail))
      go_big_quiet_step (exact Calls.more (RY.out _))
      repeat (go_big_quiet_step (fail))
      go_big_quiet_step (exact Calls.more (CD.out _))
      repeat (go_big_quiet_step (fail))
      refine wpQuiet_nil ?_
      rintro _ ⟨ex, rfl⟩
      have b9 := World.below_more w8 ex
      go_wp2_with fail
      go_ret
      exact ⟨rfl, bt B b9⟩
  · have t1 : (x.tr == y.tr) = false := by rw [beq_eq_false_iff_ne]; exact h1
    have hr : (115 :: m == 115 :: n) = false := by rw [HR.out]; simp [h1]
    have hab : (a == b) = false := by rw [HAB.out]; simp [h1]
    have huv : (u == v) = false := HXY.out (by simp [h1])
    have huv2 : (u != v) = true := by rw [bne, huv]; rfl
    clear h1
    go_upto_region 8 with fail
    refine wp_region_more (by kernel_rfl) (by kernel_rfl) ?_
    repeat (go_big_quiet_step (fail))
    go_big_quiet_step (exact Calls.more (RX.out _))
    repeat (go_big_quiet_step (fail))
    go_big_quiet_step (exact Calls.more (RX.out _))
    repeat (go_big_quiet_step (fail))
    go_big_quiet_step (exact Calls.more (RY.out _))
    repeat (go_big_quiet_step (fail))
    go_big_quiet_step (exact Calls.more (CD.out _))
    repeat (go_big_quiet_step (fail))
    refine wpQuiet_nil ?_
    rintro _ ⟨ex, rfl⟩
    have b9 := World.below_more w8 ex
    go_wp2_with fail
    go_ret
    exact ⟨rfl, bt B b9⟩
  skip
theorem keysApart_law (x y : Sp) (hfx : Fits x) (hfy : Fits y) (w : World) :
    Calls Try.prog 9 #[spVal x, spVal y] w fun e w' => e = .returned (.bool true) ∧ Below w.heap.size w w' := by
  cases hg : greatK x with
  | true => exact keysApart_gx x y w hfx hfy hg
  | false =>
    cases hh : greatK y with
    | true => exact keysApart_gy x y w hfx hfy hg hh
    | false =>
      cases hx : x.ok with
      | false => exact keysApart_nx x y w hfx hfy hg hh hx
      | true =>
        cases hy : y.ok with
        | false => exact keysApart_ny x y w hfx hfy hg hh hx hy
        | true => exact keysApart_in x y w hfx hfy hg hh hx hy
end Go.Proofs.Ytojenagpnkhgfaa
