/- The walk of KeysOrder. -/
import Derived.Test.YtojenagpnkhgfaaKeysI
namespace Go.Proofs.Ytojenagpnkhgfaa
open Go.RowKit Spoor
theorem keysOrder_gx (x y : Sp) (w : World) (hfx : Fits x) (hfy : Fits y) (hg : greatK x = true) :
    Calls Try.prog 7 #[spVal x, spVal y] w fun e w' => e = .returned (.bool true) ∧ Below w.heap.size w w' := by
  have cgx := fun W => greatK_any x W hfx
  have cgy := fun W => greatK_any y W hfy
  have cx := fun W => check_any x W hfx
  have cy := fun W => check_any y W hfy
  obtain ⟨q1, q2, B⟩ := two_boxes x y w
  have CD := Lib.hid kdoes_true
  rw [hg] at cgx
  clear hg
  unfold spVal at *
  unfold boxP at *
  have CGX := Lib.hid cgx
  have CGY := Lib.hid cgy
  have CX := Lib.hid cx
  have CY := Lib.hid cy
  clear cgx cgy cx cy
  go_enter Try.func7, Try.ntmps7
  go_wp2_with fail
  generalize (w.alloc _).alloc _ = w0 at *
  obtain ⟨a0, a1, a2, a3, a4, a5, a6, a7⟩ := q1.cell
  try dsimp only at a0 a1 a2 a3 a4 a5 a6 a7
  obtain ⟨d0, d1, d2, d3, d4, d5, d6, d7⟩ := q2.cell
  try dsimp only at d0 d1 d2 d3 d4 d5 d6 d7
  go_wp2_with fail
  refine (CGX.out _).mono ?_
  rintro e1 w1 ⟨rfl, b1⟩
  clear a0 a1 a2 a3 a4 a5 a6 a7
  clear d0 d1 d2 d3 d4 d5 d6 d7
  have q1 := q1.later b1 q1.lt
  have q2 := q2.later b1 q2.lt
  have B := bt B b1
  clear b1
  obtain ⟨a0, a1, a2, a3, a4, a5, a6, a7⟩ := q1.cell
  try dsimp only at a0 a1 a2 a3 a4 a5 a6 a7
  obtain ⟨d0, d1, d2, d3, d4, d5, d6, d7⟩ := q2.cell
  try dsimp only at d0 d1 d2 d3 d4 d5 d6 d7
  go_wp2_with fail
  refine (CD.out _).mono ?_
  rintro e2 w2 ⟨rfl, b2⟩
  clear a0 a1 a2 a3 a4 a5 a6 a7
  clear d0 d1 d2 d3 d4 d5 d6 d7
  have q1 := q1.later b2 q1.lt
  have q2 := q2.later b2 q2.lt
  have B := bt B b2
  clear b2
  obtain ⟨a0, a1, a2, a3, a4, a5, a6, a7⟩ := q1.cell
  try dsimp only at a0 a1 a2 a3 a4 a5 a6 a7
  obtain ⟨d0, d1, d2, d3, d4, d5, d6, d7⟩ := q2.cell
  try dsimp only at d0 d1 d2 d3 d4 d5 d6 d7
  go_wp2_with fail
  go_ret
  exact ⟨rfl, B⟩
theorem keysOrder_gy (x y : Sp) (w : World) (hfx : Fits x) (hfy : Fits y) (hg : greatK x = false) (hh : greatK y = true) :
    Calls Try.prog 7 #[spVal x, spVal y] w fun e w' => e = .returned (.bool true) ∧ Below w.heap.size w w' := by
  have cgx := fun W => greatK_any x W hfx
  have cgy := fun W => greatK_any y W hfy
  have cx := fun W => check_any x W hfx
  have cy := fun W => check_any y W hfy
  obtain ⟨q1, q2, B⟩ := two_boxes x y w
  have CD := Lib.hid kdoes_true
  rw [hg] at cgx
  rw [hh] at cgy
  clear hg hh
  unfold spVal at *
  unfold boxP at *
  have CGX := Lib.hid cgx
  have CGY := Lib.hid cgy
  have CX := Lib.hid cx
  have CY := Lib.hid cy
  clear cgx cgy cx cy
  go_enter Try.func7, Try.ntmps7
  go_wp2_with fail
  generalize (w.alloc _).alloc _ = w0 at *
  obtain ⟨a0, a1, a2, a3, a4, a5, a6, a7⟩ := q1.cell
  try dsimp only at a0 a1 a2 a3 a4 a5 a6 a7
  obtain ⟨d0, d1, d2, d3, d4, d5, d6, d7⟩ := q2.cell
  try dsimp only at d0 d1 d2 d3 d4 d5 d6 d7
  go_wp2_with fail
  refine (CGX.out _).mono ?_
  rintro e1 w1 ⟨rfl, b1⟩
  clear a0 a1 a2 a3 a4 a5 a6 a7
  clear d0 d1 d2 d3 d4 d5 d6 d7
  have q1 := q1.later b1 q1.lt
  have q2 := q2.later b1 q2.lt
  have B := bt B b1
  clear b1
  obtain ⟨a0, a1, a2, a3, a4, a5, a6, a7⟩ := q1.cell
  try dsimp only at a0 a1 a2 a3 a4 a5 a6 a7
  obtain ⟨d0, d1, d2, d3, d4, d5, d6, d7⟩ := q2.cell
  try dsimp only at d0 d1 d2 d3 d4 d5 d6 d7
  go_wp2_with fail
  refine (CGY.out _).mono ?_
  rintro e2 w2 ⟨rfl, b2⟩
  clear a0 a1 a2 a3 a4 a5 a6 a7
  clear d0 d1 d2 d3 d4 d5 d6 d7
  have q1 := q1.later b2 q1.lt
  have q2 := q2.later b2 q2.lt
  have B := bt B b2
  clear b2
  obtain ⟨a0, a1, a2, a3, a4, a5, a6, a7⟩ := q1.cell
  try dsimp only at a0 a1 a2 a3 a4 a5 a6 a7
  obtain ⟨d0, d1, d2, d3, d4, d5, d6, d7⟩ := q2.cell
  try dsimp only at d0 d1 d2 d3 d4 d5 d6 d7
  go_wp2_with fail
  refine (CD.out _).mono ?_
  rintro e3 w3 ⟨rfl, b3⟩
  clear a0 a1 a2 a3 a4 a5 a6 a7
  clear d0 d1 d2 d3 d4 d5 d6 d7
  have q1 := q1.later b3 q1.lt
  have q2 := q2.later b3 q2.lt
  have B := bt B b3
  clear b3
  obtain ⟨a0, a1, a2, a3, a4, a5, a6, a7⟩ := q1.cell
  try dsimp only at a0 a1 a2 a3 a4 a5 a6 a7
  obtain ⟨d0, d1, d2, d3, d4, d5, d6, d7⟩ := q2.cell
  try dsimp only at d0 d1 d2 d3 d4 d5 d6 d7
  go_wp2_with fail
  go_ret
  exact ⟨rfl, B⟩
theorem keysOrder_nx (x y : Sp) (w : World) (hfx : Fits x) (hfy : Fits y) (hg : greatK x = false) (hh : greatK y = false) (hx : x.ok = false) :
    Calls Try.prog 7 #[spVal x, spVal y] w fun e w' => e = .returned (.bool true) ∧ Below w.heap.size w w' := by
  have cgx := fun W => greatK_any x W hfx
  have cgy := fun W => greatK_any y W hfy
  have cx := fun W => check_any x W hfx
  have cy := fun W => check_any y W hfy
  obtain ⟨q1, q2, B⟩ := two_boxes x y w
  have CD := Lib.hid kdoes_true
  rw [hg] at cgx
  rw [hh] at cgy
  rw [checkV_no hx] at cx
  clear hg hh hx
  unfold spVal at *
  unfold boxP at *
  have CGX := Lib.hid cgx
  have CGY := Lib.hid cgy
  have CX := Lib.hid cx
  have CY := Lib.hid cy
  clear cgx cgy cx cy
  go_enter Try.func7, Try.ntmps7
  go_wp2_with fail
  generalize (w.alloc _).alloc _ = w0 at *
  obtain ⟨a0, a1, a2, a3, a4, a5, a6, a7⟩ := q1.cell
  try dsimp only at a0 a1 a2 a3 a4 a5 a6 a7
  obtain ⟨d0, d1, d2, d3, d4, d5, d6, d7⟩ := q2.cell
  try dsimp only at d0 d1 d2 d3 d4 d5 d6 d7
  go_wp2_with fail
  refine (CGX.out _).mono ?_
  rintro e1 w1 ⟨rfl, b1⟩
  clear a0 a1 a2 a3 a4 a5 a6 a7
  clear d0 d1 d2 d3 d4 d5 d6 d7
  have q1 := q1.later b1 q1.lt
  have q2 := q2.later b1 q2.lt
  have B := bt B b1
  clear b1
  obtain ⟨a0, a1, a2, a3, a4, a5, a6, a7⟩ := q1.cell
  try dsimp only at a0 a1 a2 a3 a4 a5 a6 a7
  obtain ⟨d0, d1, d2, d3, d4, d5, d6, d7⟩ := q2.cell
  try dsimp only at d0 d1 d2 d3 d4 d5 d6 d7
  go_wp2_with fail
  refine (CGY.out _).mono ?_
  rintro e2 w2 ⟨rfl, b2⟩
  clear a0 a1 a2 a3 a4 a5 a6 a7
  clear d0 d1 d2 d3 d4 d5 d6 d7
  have q1 := q1.later b2 q1.lt
  have q2 := q2.later b2 q2.lt
  have B := bt B b2
  clear b2
  obtain ⟨a0, a1, a2, a3, a4, a5, a6, a7⟩ := q1.cell
  try dsimp only at a0 a1 a2 a3 a4 a5 a6 a7
  obtain ⟨d0, d1, d2, d3, d4, d5, d6, d7⟩ := q2.cell
  try dsimp only at d0 d1 d2 d3 d4 d5 d6 d7
  go_wp2_with fail
  refine (CX.out _).mono ?_
  rintro e3 w3 ⟨rfl, b3⟩
  clear a0 a1 a2 a3 a4 a5 a6 a7
  clear d0 d1 d2 d3 d4 d5 d6 d7
  have q1 := q1.later b3 q1.lt
  have q2 := q2.later b3 q2.lt
  have B := bt B b3
  clear b3
  obtain ⟨a0, a1, a2, a3, a4, a5, a6, a7⟩ := q1.cell
  try dsimp only at a0 a1 a2 a3 a4 a5 a6 a7
  obtain ⟨d0, d1, d2, d3, d4, d5, d6, d7⟩ := q2.cell
  try dsimp only at d0 d1 d2 d3 d4 d5 d6 d7
  go_wp2_with fail
  refine (CD.out _).mono ?_
  rintro e4 w4 ⟨rfl, b4⟩
  clear a0 a1 a2 a3 a4 a5 a6 a7
  clear d0 d1 d2 d3 d4 d5 d6 d7
  have q1 := q1.later b4 q1.lt
  have q2 := q2.later b4 q2.lt
  have B := bt B b4
  clear b4
  obtain ⟨a0, a1, a2, a3, a4, a5, a6, a7⟩ := q1.cell
  try dsimp only at a0 a1 a2 a3 a4 a5 a6 a7
  obtain ⟨d0, d1, d2, d3, d4, d5, d6, d7⟩ := q2.cell
  try dsimp only at d0 d1 d2 d3 d4 d5 d6 d7
  go_wp2_with fail
  go_ret
  exact ⟨rfl, B⟩
theorem keysOrder_ny (x y : Sp) (w : World) (hfx : Fits x) (hfy : Fits y) (hg : greatK x = false) (hh : greatK y = false) (hx : x.ok = true) (hy : y.ok = false) :
    Calls Try.prog 7 #[spVal x, spVal y] w fun e w' => e = .returned (.bool true) ∧ Below w.heap.size w w' := by
  have cgx := fun W => greatK_any x W hfx
  have cgy := fun W => greatK_any y W hfy
  have cx := fun W => check_any x W hfx
  have cy := fun W => check_any y W hfy
  obtain ⟨q1, q2, B⟩ := two_boxes x y w
  have CD := Lib.hid kdoes_true
  rw [hg] at cgx
  rw [hh] at cgy
  rw [checkV_ok hx] at cx
  rw [checkV_no hy] at cy
  clear hg hh hx hy
  unfold spVal at *
  unfold boxP at *
  have CGX := Lib.hid cgx
  have CGY := Lib.hid cgy
  have CX := Lib.hid cx
  have CY := Lib.hid cy
  clear cgx cgy cx cy
  go_enter Try.func7, Try.ntmps7
  go_wp2_with fail
  generalize (w.alloc _).alloc _ = w0 at *
  obtain ⟨a0, a1, a2, a3, a4, a5, a6, a7⟩ := q1.cell
  try dsimp only at a0 a1 a2 a3 a4 a5 a6 a7
  obtain ⟨d0, d1, d2, d3, d4, d5, d6, d7⟩ := q2.cell
  try dsimp only at d0 d1 d2 d3 d4 d5 d6 d7
  go_wp2_with fail
  refine (CGX.out _).mono ?_
  rintro e1 w1 ⟨rfl, b1⟩
  clear a0 a1 a2 a3 a4 a5 a6 a7
  clear d0 d1 d2 d3 d4 d5 d6 d7
  have q1 := q1.later b1 q1.lt
  have q2 := q2.later b1 q2.lt
  have B := bt B b1
  clear b1
  obtain ⟨a0, a1, a2, a3, a4, a5, a6, a7⟩ := q1.cell
  try dsimp only at a0 a1 a2 a3 a4 a5 a6 a7
  obtain ⟨d0, d1, d2, d3, d4, d5, d6, d7⟩ := q2.cell
  try dsimp only at d0 d1 d2 d3 d4 d5 d6 d7
  go_wp2_with fail
  refine (CGY.out _).mono ?_
  rintro e2 w2 ⟨rfl, b2⟩
  clear a0 a1 a2 a3 a4 a5 a6 a7
  clear d0 d1 d2 d3 d4 d5 d6 d7
  have q1 := q1.later b2 q1.lt
  have q2 := q2.later b2 q2.lt
  have B := bt B b2
  clear b2
  obtain ⟨a0, a1, a2, a3, a4, a5, a6, a7⟩ := q1.cell
  try dsimp only at a0 a1 a2 a3 a4 a5 a6 a7
  obtain ⟨d0, d1, d2, d3, d4, d5, d6, d7⟩ := q2.cell
  try dsimp only at d0 d1 d2 d3 d4 d5 d6 d7
  go_wp2_with fail
  refine (CX.out _).mono ?_
  rintro e3 w3 ⟨rfl, b3⟩
  clear a0 a1 a2 a3 a4 a5 a6 a7
  clear d0 d1 d2 d3 d4 d5 d6 d7
  have q1 := q1.later b3 q1.lt
  have q2 := q2.later b3 q2.lt
  have B := bt B b3
  clear b3
  obtain ⟨a0, a1, a2, a3, a4, a5, a6, a7⟩ := q1.cell
  try dsimp only at a0 a1 a2 a3 a4 a5 a6 a7
  obtain ⟨d0, d1, d2, d3, d4, d5, d6, d7⟩ := q2.cell
  try dsimp only at d0 d1 d2 d3 d4 d5 d6 d7
  go_wp2_with fail
  refine (CY.out _).mono ?_
  rintro e4 w4 ⟨rfl, b4⟩
  clear a0 a1 a2 a3 a4 a5 a6 a7
  clear d0 d1 d2 d3 d4 d5 d6 d7
  have q1 := q1.later b4 q1.lt
  have q2 := q2.later b4 q2.lt
  have B := bt B b4
  clear b4
  obtain ⟨a0, a1, a2, a3, a4, a5, a6, a7⟩ := q1.cell
  try dsimp only at a0 a1 a2 a3 a4 a5 a6 a7
  obtain ⟨d0, d1, d2, d3, d4, d5, d6, d7⟩ := q2.cell
  try dsimp only at d0 d1 d2 d3 d4 d5 d6 d7
  go_wp2_with fail
  refine (CD.out _).mono ?_
  rintro e5 w5 ⟨rfl, b5⟩
  clear a0 a1 a2 a3 a4 a5 a6 a7
  clear d0 d1 d2 d3 d4 d5 d6 d7
  have q1 := q1.later b5 q1.lt
  have q2 := q2.later b5 q2.lt
  have B := bt B b5
  clear b5
  obtain ⟨a0, a1, a2, a3, a4, a5, a6, a7⟩ := q1.cell
  try dsimp only at a0 a1 a2 a3 a4 a5 a6 a7
  obtain ⟨d0, d1, d2, d3, d4, d5, d6, d7⟩ := q2.cell
  try dsimp only at d0 d1 d2 d3 d4 d5 d6 d7
  go_wp2_with fail
  go_ret
  exact ⟨rfl, B⟩
set_option maxHeartbeats 1000000 in
theorem keysOrder_in (x y : Sp) (w : World) (hfx : Fits x) (hfy : Fits y) (hg : greatK x = false) (hh : greatK y = false) (hx : x.ok = true) (hy : y.ok = true) :
    Calls Try.prog 7 #[spVal x, spVal y] w fun e w' => e = .returned (.bool true) ∧ Below w.heap.size w w' := by
  have cgx := fun W => greatK_any x W hfx
  have cgy := fun W => greatK_any y W hfy
  have cx := fun W => check_any x W hfx
  have cy := fun W => check_any y W hfy
  obtain ⟨q1, q2, B⟩ := two_boxes x y w
  have CD := Lib.hid kdoes_true
  have kx := fun W => of_ok hx W
  have ky := fun W => of_ok hy W
  have ix := fun W => index_ok hx W
  have iy := fun W => index_ok hy W
  have o1 := fun W => ordT_any (sKey x.tr x.id) (sKey y.tr y.id) W
  have o2 := fun W => ordT_any (xKey x.sv x.ho x.st x.tr x.id) (xKey y.sv y.ho y.st y.tr y.id) W
  rw [ord_s hx hy] at o1
  rw [ord_x hx hy] at o2
  have o3 := fun W => ordT_any x.sv y.sv W
  have o4 := fun W => ordT_any x.ho y.ho W
  have n1 := fun W => ordN_any x.tr y.tr W
  have n2 := fun W => ordN_any x.id y.id W
  have n3 := fun W => ordN_any x.st y.st W
  have hlu := s_less_x x.tr x.id x
  have hlv := s_less_x x.tr x.id y
  rw [hg] at cgx
  rw [hh] at cgy
  rw [checkV_ok hx] at cx
  rw [checkV_ok hy] at cy
  clear hg hh hx hy
  generalize sKey x.tr x.id = a at *
  generalize sKey y.tr y.id = b at *
  generalize xKey x.sv x.ho x.st x.tr x.id = u at *
  generalize xKey y.sv y.ho y.st y.tr y.id = v at *
  generalize ordT x.sv y.sv = r3 at *
  generalize ordT x.ho y.ho = r4 at *
  generalize ordN x.tr y.tr = r5 at *
  generalize ordN x.id y.id = r6 at *
  generalize ordN x.st y.st = r7 at *
  obtain ⟨r1, hr1⟩ : ∃ r1, firstN [r5, r6] = r1 := ⟨_, rfl⟩
  obtain ⟨r2, hr2⟩ : ∃ r2, firstN [r3, r4, r7, r5, r6] = r2 := ⟨_, rfl⟩
  rw [hr1] at o1
  rw [hr2] at o2
  have f2 : ∀ g W, W.cell? ⟨g, 0, none⟩ = some (.int .i64 r5) → W.cell? ⟨g, 1, none⟩ = some (.int .i64 r6) → Calls Try.prog 27 #[.slice (some ⟨g, 0, none⟩) 2 2] W fun e w' => e = .returned (.int .i64 r1) ∧ W = w' := fun g W h0 h1 => by
    have := first_two g r5 r6 W h0 h1
    rwa [hr1] at this
  have f5 : ∀ g W, W.cell? ⟨g, 0, none⟩ = some (.int .i64 r3) → W.cell? ⟨g, 1, none⟩ = some (.int .i64 r4) → W.cell? ⟨g, 2, none⟩ = some (.int .i64 r7) → W.cell? ⟨g, 3, none⟩ = some (.int .i64 r5) → W.cell? ⟨g, 4, none⟩ = some (.int .i64 r6) → Calls Try.prog 27 #[.slice (some ⟨g, 0, none⟩) 5 5] W fun e w' => e = .returned (.int .i64 r2) ∧ W = w' := fun g W h0 h1 h2 h3 h4 => by
    have := first_five g r3 r4 r7 r5 r6 W h0 h1 h2 h3 h4
    rwa [hr2] at this
  clear hr1 hr2
  unfold spVal at *
  unfold boxP at *
  have CGX := Lib.hid cgx
  have CGY := Lib.hid cgy
  have CX := Lib.hid cx
  have CY := Lib.hid cy
  clear cgx cgy cx cy
  have KX := Lib.hid kx
  have KY := Lib.hid ky
  have IX := Lib.hid ix
  have IY := Lib.hid iy
  have O1 := Lib.hid o1
  have O2 := Lib.hid o2
  have O3 := Lib.hid o3
  have O4 := Lib.hid o4
  have N1 := Lib.hid n1
  have N2 := Lib.hid n2
  have N3 := Lib.hid n3
  have F2 := Lib.hid f2
  have F5 := Lib.hid f5
  have HLU := Lib.hid hlu
  have HLV := Lib.hid hlv
  clear kx ky ix iy o1 o2 o3 o4 n1 n2 n3 f2 f5 hlu hlv
  go_enter Try.func7, Try.ntmps7
  go_wp2_with fail
  generalize (w.alloc _).alloc _ = w0 at *
  obtain ⟨a0, a1, a2, a3, a4, a5, a6, a7⟩ := q1.cell
  try dsimp only at a0 a1 a2 a3 a4 a5 a6 a7
  obtain ⟨d0, d1, d2, d3, d4, d5, d6, d7⟩ := q2.cell
  try dsimp only at d0 d1 d2 d3 d4 d5 d6 d7
  go_wp2_with fail
  refine (CGX.out _).mono ?_
  rintro e1 w1 ⟨rfl, b1⟩
  clear a0 a1 a2 a3 a4 a5 a6 a7
  clear d0 d1 d2 d3 d4 d5 d6 d7
  have q1 := q1.later b1 q1.lt
  have q2 := q2.later b1 q2.lt
  have B := bt B b1
  clear b1
  obtain ⟨a0, a1, a2, a3, a4, a5, a6, a7⟩ := q1.cell
  try dsimp only at a0 a1 a2 a3 a4 a5 a6 a7
  obtain ⟨d0, d1, d2, d3, d4, d5, d6, d7⟩ := q2.cell
  try dsimp only at d0 d1 d2 d3 d4 d5 d6 d7
  go_wp2_with fail
  refine (CGY.out _).mono ?_
  rintro e2 w2 ⟨rfl, b2⟩
  clear a0 a1 a2 a3 a4 a5 a6 a7
  clear d0 d1 d2 d3 d4 d5 d6 d7
  have q1 := q1.later b2 q1.lt
  have q2 := q2.later b2 q2.lt
  have B := bt B b2
  clear b2
  obtain ⟨a0, a1, a2, a3, a4, a5, a6, a7⟩ := q1.cell
  try dsimp only at a0 a1 a2 a3 a4 a5 a6 a7
  obtain ⟨d0, d1, d2, d3, d4, d5, d6, d7⟩ := q2.cell
  try dsimp only at d0 d1 d2 d3 d4 d5 d6 d7
  go_wp2_with fail
  refine (CX.out _).mono ?_
  rintro e3 w3 ⟨rfl, b3⟩
  clear a0 a1 a2 a3 a4 a5 a6 a7
  clear d0 d1 d2 d3 d4 d5 d6 d7
  have q1 := q1.later b3 q1.lt
  have q2 := q2.later b3 q2.lt
  have B := bt B b3
  clear b3
  obtain ⟨a0, a1, a2, a3, a4, a5, a6, a7⟩ := q1.cell
  try dsimp only at a0 a1 a2 a3 a4 a5 a6 a7
  obtain ⟨d0, d1, d2, d3, d4, d5, d6, d7⟩ := q2.cell
  try dsimp only at d0 d1 d2 d3 d4 d5 d6 d7
  go_wp2_with fail
  refine (CY.out _).mono ?_
  rintro e4 w4 ⟨rfl, b4⟩
  clear a0 a1 a2 a3 a4 a5 a6 a7
  clear d0 d1 d2 d3 d4 d5 d6 d7
  have q1 := q1.later b4 q1.lt
  have q2 := q2.later b4 q2.lt
  have B := bt B b4
  clear b4
  obtain ⟨a0, a1, a2, a3, a4, a5, a6, a7⟩ := q1.cell
  try dsimp only at a0 a1 a2 a3 a4 a5 a6 a7
  obtain ⟨d0, d1, d2, d3, d4, d5, d6, d7⟩ := q2.cell
  try dsimp only at d0 d1 d2 d3 d4 d5 d6 d7
  go_wp2_with fail
  refine (KX.out _).mono ?_
  rintro e5 w5 ⟨rfl, b5⟩
  clear a0 a1 a2 a3 a4 a5 a6 a7
  clear d0 d1 d2 d3 d4 d5 d6 d7
  have q1 := q1.later b5 q1.lt
  have q2 := q2.later b5 q2.lt
  have B := bt B b5
  clear b5
  obtain ⟨a0, a1, a2, a3, a4, a5, a6, a7⟩ := q1.cell
  try dsimp only at a0 a1 a2 a3 a4 a5 a6 a7
  obtain ⟨d0, d1, d2, d3, d4, d5, d6, d7⟩ := q2.cell
  try dsimp only at d0 d1 d2 d3 d4 d5 d6 d7
  go_wp2_with fail
  refine (KY.out _).mono ?_
  rintro e6 w6 ⟨rfl, b6⟩
  clear a0 a1 a2 a3 a4 a5 a6 a7
  clear d0 d1 d2 d3 d4 d5 d6 d7
  have q1 := q1.later b6 q1.lt
  have q2 := q2.later b6 q2.lt
  have B := bt B b6
  clear b6
  obtain ⟨a0, a1, a2, a3, a4, a5, a6, a7⟩ := q1.cell
  try dsimp only at a0 a1 a2 a3 a4 a5 a6 a7
  obtain ⟨d0, d1, d2, d3, d4, d5, d6, d7⟩ := q2.cell
  try dsimp only at d0 d1 d2 d3 d4 d5 d6 d7
  go_wp2_with fail
  refine (IX.out _).mono ?_
  rintro e7 w7 ⟨rfl, b7⟩
  clear a0 a1 a2 a3 a4 a5 a6 a7
  clear d0 d1 d2 d3 d4 d5 d6 d7
  have q1 := q1.later b7 q1.lt
  have q2 := q2.later b7 q2.lt
  have B := bt B b7
  clear b7
  obtain ⟨a0, a1, a2, a3, a4, a5, a6, a7⟩ := q1.cell
  try dsimp only at a0 a1 a2 a3 a4 a5 a6 a7
  obtain ⟨d0, d1, d2, d3, d4, d5, d6, d7⟩ := q2.cell
  try dsimp only at d0 d1 d2 d3 d4 d5 d6 d7
  go_wp2_with fail
  refine (IY.out _).mono ?_
  rintro e8 w8 ⟨rfl, b8⟩
  clear a0 a1 a2 a3 a4 a5 a6 a7
  clear d0 d1 d2 d3 d4 d5 d6 d7
  have q1 := q1.later b8 q1.lt
  have q2 := q2.later b8 q2.lt
  have B := bt B b8
  clear b8
  obtain ⟨a0, a1, a2, a3, a4, a5, a6, a7⟩ := q1.cell
  try dsimp only at a0 a1 a2 a3 a4 a5 a6 a7
  obtain ⟨d0, d1, d2, d3, d4, d5, d6, d7⟩ := q2.cell
  try dsimp only at d0 d1 d2 d3 d4 d5 d6 d7
  have l1 := q1.lt
  have l2 := q2.lt
  have l3 : w.heap.size < w8.heap.size + 1 + 1 := by omega
  have l4 : w.heap.size + 1 < w8.heap.size + 1 + 1 := by omega
  have l5 : w.heap.size < w8.heap.size + 1 := by omega
  have l6 : w.heap.size + 1 < w8.heap.size + 2 := by omega
  have l7 : w.heap.size < w8.heap.size + 2 := by omega
  have hlu := HLU.out
  have hlv := HLV.out
  go_upto_region 9 with fail
  go_region_held3 (fun W => W.cell? ⟨w.heap.size, 0, none⟩ = some (.int .i64 x.tr) ∧ W.cell? ⟨w.heap.size, 1, none⟩ = some (.int .i64 x.id) ∧ W.cell? ⟨w.heap.size, 3, none⟩ = some (.string ⟨x.sv.toArray⟩) ∧ W.cell? ⟨w.heap.size, 4, none⟩ = some (.string ⟨x.ho.toArray⟩) ∧ W.cell? ⟨w.heap.size, 5, none⟩ = some (.int .i64 x.st) ∧ W.cell? ⟨w.heap.size + 1, 0, none⟩ = some (.int .i64 y.tr) ∧ W.cell? ⟨w.heap.size + 1, 1, none⟩ = some (.int .i64 y.id) ∧ W.cell? ⟨w.heap.size + 1, 3, none⟩ = some (.string ⟨y.sv.toArray⟩) ∧ W.cell? ⟨w.heap.size + 1, 4, none⟩ = some (.string ⟨y.ho.toArray⟩) ∧ W.cell? ⟨w.heap.size + 1, 5, none⟩ = some (.int .i64 y.st)) (go_keep)
    (first
      | (go_at_call_of 26 (Value.string ⟨a.toArray⟩); refine (O1.out _).mono ?_; rintro e w' ⟨rfl, rfl⟩)
      | (go_at_call_of 26 (Value.string ⟨u.toArray⟩); refine (O2.out _).mono ?_; rintro e w' ⟨rfl, rfl⟩)
      | (go_at_call_of 26 (Value.string ⟨x.sv.toArray⟩); refine (O3.out _).mono ?_; rintro e w' ⟨rfl, rfl⟩)
      | (go_at_call_of 26 (Value.string ⟨x.ho.toArray⟩); refine (O4.out _).mono ?_; rintro e w' ⟨rfl, rfl⟩)
      | (go_at_call_of 28 (Value.int .i64 x.tr); refine (N1.out _).mono ?_; rintro e w' ⟨rfl, rfl⟩)
      | (go_at_call_of 28 (Value.int .i64 x.id); refine (N2.out _).mono ?_; rintro e w' ⟨rfl, rfl⟩)
      | (go_at_call_of 28 (Value.int .i64 x.st); refine (N3.out _).mono ?_; rintro e w' ⟨rfl, rfl⟩)
      | (go_at_call 27; first | ((with_reducible refine (F2.out _ _ ?_ ?_).mono ?_); (exact new_cell (by simp) rfl); (exact new_cell (by simp) rfl); rintro e w' ⟨rfl, rfl⟩) | ((with_reducible refine (F5.out _ _ ?_ ?_ ?_ ?_ ?_).mono ?_); (exact new_cell (by simp) rfl); (exact new_cell (by simp) rfl); (exact new_cell (by simp) rfl); (exact new_cell (by simp) rfl); (exact new_cell (by simp) rfl); rintro e w' ⟨rfl, rfl⟩))
      | (go_at_call 16; refine (CD.out _).mono ?_; rintro e w9 ⟨rfl, b9⟩; obtain ⟨hcl, hfr⟩ := bcell b9))
  go_wp2_with fail
  go_ret
  refine ⟨rfl, bt ((B.drew.alloc ?_ _).alloc ?_ _) b9⟩
  · exact B.size
  · have := B.size
    simp
    omega
  skip
theorem keysOrder_law (x y : Sp) (hfx : Fits x) (hfy : Fits y) (w : World) :
    Calls Try.prog 7 #[spVal x, spVal y] w fun e w' => e = .returned (.bool true) ∧ Below w.heap.size w w' := by
  cases hg : greatK x with
  | true => exact keysOrder_gx x y w hfx hfy hg
  | false =>
    cases hh : greatK y with
    | true => exact keysOrder_gy x y w hfx hfy hg hh
    | false =>
      cases hx : x.ok with
      | false => exact keysOrder_nx x y w hfx hfy hg hh hx
      | true =>
        cases hy : y.ok with
        | false => exact keysOrder_ny x y w hfx hfy hg hh hx hy
        | true => exact keysOrder_in x y w hfx hfy hg hh hx hy
end Go.Proofs.Ytojenagpnkhgfaa
