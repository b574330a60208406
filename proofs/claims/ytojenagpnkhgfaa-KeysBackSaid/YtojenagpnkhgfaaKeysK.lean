/- The walk of KeysBack. -/
import Derived.Test.YtojenagpnkhgfaaKeysI
namespace Go.Proofs.Ytojenagpnkhgfaa
open Go.RowKit Spoor
theorem keysBack_g (x : Sp) (l : List UInt8) (w : World) (hf : Fits x) (hg : greatK x = true) :
    Calls Try.prog 6 #[spVal x, .string ⟨l.toArray⟩] w fun e w' => e = .returned (.bool true) ∧ Below w.heap.size w w' := by
  have cg := fun W => greatK_any x W hf
  have q1 := SpAt.boxed x w
  have B := (Below.refl w.heap.size w).alloc (Nat.le_refl _) (boxS x)
  have CD := Lib.hid kdoes_true
  rw [hg] at cg
  clear hg
  unfold spVal boxS at *
  have CG := Lib.hid cg
  clear cg
  go_enter Try.func6, Try.ntmps6
  go_wp2_with fail
  generalize w.alloc _ = w0 at *
  obtain ⟨a0, a1, a2, a3, a4, a5, a6, a7⟩ := q1.cell
  try dsimp only at a0 a1 a2 a3 a4 a5 a6 a7
  go_wp2_with fail
  refine (CG.out _).mono ?_
  rintro e1 w1 ⟨rfl, b1⟩
  clear a0 a1 a2 a3 a4 a5 a6 a7
  have q1 := q1.later b1 q1.lt
  have B := bt B b1
  clear b1
  obtain ⟨a0, a1, a2, a3, a4, a5, a6, a7⟩ := q1.cell
  try dsimp only at a0 a1 a2 a3 a4 a5 a6 a7
  go_wp2_with fail
  go_ret
  exact ⟨rfl, B⟩
theorem keysBack_l (x : Sp) (l : List UInt8) (w : World) (hf : Fits x) (hg : greatK x = false) (hl : (500 : Int) < l.length) :
    Calls Try.prog 6 #[spVal x, .string ⟨l.toArray⟩] w fun e w' => e = .returned (.bool true) ∧ Below w.heap.size w w' := by
  have cg := fun W => greatK_any x W hf
  have q1 := SpAt.boxed x w
  have B := (Below.refl w.heap.size w).alloc (Nat.le_refl _) (boxS x)
  have CD := Lib.hid kdoes_true
  rw [hg] at cg
  clear hg
  unfold spVal boxS at *
  have CG := Lib.hid cg
  clear cg
  go_enter Try.func6, Try.ntmps6
  go_wp2_with fail
  generalize w.alloc _ = w0 at *
  obtain ⟨a0, a1, a2, a3, a4, a5, a6, a7⟩ := q1.cell
  try dsimp only at a0 a1 a2 a3 a4 a5 a6 a7
  go_wp2_with fail
  refine (CG.out _).mono ?_
  rintro e1 w1 ⟨rfl, b1⟩
  clear a0 a1 a2 a3 a4 a5 a6 a7
  have q1 := q1.later b1 q1.lt
  have B := bt B b1
  clear b1
  obtain ⟨a0, a1, a2, a3, a4, a5, a6, a7⟩ := q1.cell
  try dsimp only at a0 a1 a2 a3 a4 a5 a6 a7
  go_wp2_with fail
  go_ret
  exact ⟨rfl, B⟩
set_option maxHeartbeats 1000000 in
theorem keysBack_nb (x : Sp) (l : List UInt8) (w : World) (hf : Fits x) (hg : greatK x = false) (hl : ¬ (500 : Int) < l.length) (hll : l.length ≤ 140737488351232) (hx : x.ok = false) (hp : parseK l = none) :
    Calls Try.prog 6 #[spVal x, .string ⟨l.toArray⟩] w fun e w' => e = .returned (.bool true) ∧ Below w.heap.size w w' := by
  have cg := fun W => greatK_any x W hf
  have q1 := SpAt.boxed x w
  have B := (Below.refl w.heap.size w).alloc (Nat.le_refl _) (boxS x)
  have CD := Lib.hid kdoes_true
  rw [hg] at cg
  have cp := fun W => parse_any l hll W
  have cc := fun W => check_any x W hf
  rw [hp] at cp
  unfold parseV kpVal KP.zero at cp
  try dsimp only at cp
  clear hp
  rw [checkV_no hx] at cc
  clear hx
  clear hg
  unfold spVal boxS at *
  have CG := Lib.hid cg
  have CP := Lib.hid cp
  have CC := Lib.hid cc
  clear cg cp cc
  go_enter Try.func6, Try.ntmps6
  go_wp2_with fail
  generalize w.alloc _ = w0 at *
  obtain ⟨a0, a1, a2, a3, a4, a5, a6, a7⟩ := q1.cell
  try dsimp only at a0 a1 a2 a3 a4 a5 a6 a7
  go_wp2_with fail
  refine (CG.out _).mono ?_
  rintro e1 w1 ⟨rfl, b1⟩
  clear a0 a1 a2 a3 a4 a5 a6 a7
  have q1 := q1.later b1 q1.lt
  have B := bt B b1
  clear b1
  obtain ⟨a0, a1, a2, a3, a4, a5, a6, a7⟩ := q1.cell
  try dsimp only at a0 a1 a2 a3 a4 a5 a6 a7
  go_wp2_with fail
  refine (CP.out _).mono ?_
  rintro e2 w2 ⟨rfl, b2⟩
  clear a0 a1 a2 a3 a4 a5 a6 a7
  have q1 := q1.later b2 q1.lt
  have B := bt B b2
  clear b2
  obtain ⟨a0, a1, a2, a3, a4, a5, a6, a7⟩ := q1.cell
  try dsimp only at a0 a1 a2 a3 a4 a5 a6 a7
  clear a0 a1 a2 a3 a4 a5 a6 a7
  go_upto_region 4 with fail
  have q1 := q1.alloc' (boxK KP.zero)
  have q2 := PtAt.boxed KP.zero w2
  have B := B.alloc B.size (boxK KP.zero)
  unfold boxK KP.zero at *
  try dsimp only at q1 q2 B
  generalize w2.alloc _ = w3 at *
  generalize w2.heap.size = g3 at *
  obtain ⟨a0, a1, a2, a3, a4, a5, a6, a7⟩ := q1.cell
  try dsimp only at a0 a1 a2 a3 a4 a5 a6 a7
  obtain ⟨d0, d1, d2, d3, d4, d5⟩ := q2.cell
  try dsimp only at d0 d1 d2 d3 d4 d5
  go_wp2_with fail
  refine (CC.out _).mono ?_
  rintro e4 w4 ⟨rfl, b4⟩
  clear a0 a1 a2 a3 a4 a5 a6 a7
  clear d0 d1 d2 d3 d4 d5
  have q1 := q1.later b4 q1.lt
  have q2 := q2.later b4 q2.lt
  have B := bt B b4
  clear b4
  obtain ⟨a0, a1, a2, a3, a4, a5, a6, a7⟩ := q1.cell
  try dsimp only at a0 a1 a2 a3 a4 a5 a6 a7
  obtain ⟨d0, d1, d2, d3, d4, d5⟩ := q2.cell
  try dsimp only at d0 d1 d2 d3 d4 d5
  go_wp2_with fail
  refine (CD.out _).mono ?_
  rintro e5 w5 ⟨rfl, b5⟩
  clear a0 a1 a2 a3 a4 a5 a6 a7
  clear d0 d1 d2 d3 d4 d5
  have q1 := q1.later b5 q1.lt
  have q2 := q2.later b5 q2.lt
  have B := bt B b5
  clear b5
  obtain ⟨a0, a1, a2, a3, a4, a5, a6, a7⟩ := q1.cell
  try dsimp only at a0 a1 a2 a3 a4 a5 a6 a7
  obtain ⟨d0, d1, d2, d3, d4, d5⟩ := q2.cell
  try dsimp only at d0 d1 d2 d3 d4 d5
  go_wp2_with fail
  go_ret
  exact ⟨rfl, B⟩
set_option maxHeartbeats 1000000 in
theorem keysBack_ng (x : Sp) (l : List UInt8) (w : World) (hf : Fits x) (hg : greatK x = false) (hl : ¬ (500 : Int) < l.length) (hll : l.length ≤ 140737488351232) (hx : x.ok = true) (hp : parseK l = none) :
    Calls Try.prog 6 #[spVal x, .string ⟨l.toArray⟩] w fun e w' => e = .returned (.bool true) ∧ Below w.heap.size w w' := by
  have cg := fun W => greatK_any x W hf
  have q1 := SpAt.boxed x w
  have B := (Below.refl w.heap.size w).alloc (Nat.le_refl _) (boxS x)
  have CD := Lib.hid kdoes_true
  rw [hg] at cg
  have cp := fun W => parse_any l hll W
  have cc := fun W => check_any x W hf
  rw [hp] at cp
  unfold parseV kpVal KP.zero at cp
  try dsimp only at cp
  clear hp
  have kx := fun W => of_ok hx W
  have ix := fun W => index_ok hx W
  have pa := fun W => parse_any (sKey x.tr x.id) (by rw [sKey_length]; omega) W
  have pb := fun W => parse_any (xKey x.sv x.ho x.st x.tr x.id) (by have := xKey_length hx; omega) W
  rw [parseK_sKey (ids hx)] at pa
  rw [parseK_xKey (like_ok hx)] at pb
  have hla : ((sKey x.tr x.id).length : Int) ≤ 51 := by rw [sKey_length]; omega
  have hlb : ((xKey x.sv x.ho x.st x.tr x.id).length : Int) ≤ 51 := by have := xKey_length hx; omega
  rw [checkV_ok hx] at cc
  clear hx
  generalize sKey x.tr x.id = a at *
  generalize xKey x.sv x.ho x.st x.tr x.id = b at *
  unfold parseV kpVal at pa pb
  try dsimp only at pa pb
  clear hg
  unfold spVal boxS at *
  have CG := Lib.hid cg
  have CP := Lib.hid cp
  have CC := Lib.hid cc
  have KX := Lib.hid kx
  have IX := Lib.hid ix
  have PA := Lib.hid pa
  have PB := Lib.hid pb
  clear cg cp cc kx ix pa pb
  go_enter Try.func6, Try.ntmps6
  go_wp2_with fail
  generalize w.alloc _ = w0 at *
  obtain ⟨a0, a1, a2, a3, a4, a5, a6, a7⟩ := q1.cell
  try dsimp only at a0 a1 a2 a3 a4 a5 a6 a7
  go_wp2_with fail
  refine (CG.out _).mono ?_
  rintro e1 w1 ⟨rfl, b1⟩
  clear a0 a1 a2 a3 a4 a5 a6 a7
  have q1 := q1.later b1 q1.lt
  have B := bt B b1
  clear b1
  obtain ⟨a0, a1, a2, a3, a4, a5, a6, a7⟩ := q1.cell
  try dsimp only at a0 a1 a2 a3 a4 a5 a6 a7
  go_wp2_with fail
  refine (CP.out _).mono ?_
  rintro e2 w2 ⟨rfl, b2⟩
  clear a0 a1 a2 a3 a4 a5 a6 a7
  have q1 := q1.later b2 q1.lt
  have B := bt B b2
  clear b2
  obtain ⟨a0, a1, a2, a3, a4, a5, a6, a7⟩ := q1.cell
  try dsimp only at a0 a1 a2 a3 a4 a5 a6 a7
  clear a0 a1 a2 a3 a4 a5 a6 a7
  go_upto_region 4 with fail
  have q1 := q1.alloc' (boxK KP.zero)
  have q2 := PtAt.boxed KP.zero w2
  have B := B.alloc B.size (boxK KP.zero)
  unfold boxK KP.zero at *
  try dsimp only at q1 q2 B
  generalize w2.alloc _ = w3 at *
  generalize w2.heap.size = g3 at *
  obtain ⟨a0, a1, a2, a3, a4, a5, a6, a7⟩ := q1.cell
  try dsimp only at a0 a1 a2 a3 a4 a5 a6 a7
  obtain ⟨d0, d1, d2, d3, d4, d5⟩ := q2.cell
  try dsimp only at d0 d1 d2 d3 d4 d5
  go_wp2_with fail
  refine (CC.out _).mono ?_
  rintro e4 w4 ⟨rfl, b4⟩
  clear a0 a1 a2 a3 a4 a5 a6 a7
  clear d0 d1 d2 d3 d4 d5
  have q1 := q1.later b4 q1.lt
  have q2 := q2.later b4 q2.lt
  have B := bt B b4
  clear b4
  obtain ⟨a0, a1, a2, a3, a4, a5, a6, a7⟩ := q1.cell
  try dsimp only at a0 a1 a2 a3 a4 a5 a6 a7
  obtain ⟨d0, d1, d2, d3, d4, d5⟩ := q2.cell
  try dsimp only at d0 d1 d2 d3 d4 d5
  go_wp2_with fail
  refine (KX.out _).mono ?_
  rintro e5 w5 ⟨rfl, b5⟩
  clear a0 a1 a2 a3 a4 a5 a6 a7
  clear d0 d1 d2 d3 d4 d5
  have q1 := q1.later b5 q1.lt
  have q2 := q2.later b5 q2.lt
  have B := bt B b5
  clear b5
  obtain ⟨a0, a1, a2, a3, a4, a5, a6, a7⟩ := q1.cell
  try dsimp only at a0 a1 a2 a3 a4 a5 a6 a7
  obtain ⟨d0, d1, d2, d3, d4, d5⟩ := q2.cell
  try dsimp only at d0 d1 d2 d3 d4 d5
  go_wp2_with fail
  refine (IX.out _).mono ?_
  rintro e6 w6 ⟨rfl, b6⟩
  clear a0 a1 a2 a3 a4 a5 a6 a7
  clear d0 d1 d2 d3 d4 d5
  have q1 := q1.later b6 q1.lt
  have q2 := q2.later b6 q2.lt
  have B := bt B b6
  clear b6
  obtain ⟨a0, a1, a2, a3, a4, a5, a6, a7⟩ := q1.cell
  try dsimp only at a0 a1 a2 a3 a4 a5 a6 a7
  obtain ⟨d0, d1, d2, d3, d4, d5⟩ := q2.cell
  try dsimp only at d0 d1 d2 d3 d4 d5
  go_wp2_with fail
  refine (PA.out _).mono ?_
  rintro e7 w7 ⟨rfl, b7⟩
  clear a0 a1 a2 a3 a4 a5 a6 a7
  clear d0 d1 d2 d3 d4 d5
  have q1 := q1.later b7 q1.lt
  have q2 := q2.later b7 q2.lt
  have B := bt B b7
  clear b7
  obtain ⟨a0, a1, a2, a3, a4, a5, a6, a7⟩ := q1.cell
  try dsimp only at a0 a1 a2 a3 a4 a5 a6 a7
  obtain ⟨d0, d1, d2, d3, d4, d5⟩ := q2.cell
  try dsimp only at d0 d1 d2 d3 d4 d5
  clear a0 a1 a2 a3 a4 a5 a6 a7
  clear d0 d1 d2 d3 d4 d5
  go_upto_region 15 with fail
  have q1 := q1.alloc' (boxK ⟨115, x.tr, x.id, 0, [], []⟩)
  have q2 := q2.alloc' (boxK ⟨115, x.tr, x.id, 0, [], []⟩)
  have q3 := PtAt.boxed ⟨115, x.tr, x.id, 0, [], []⟩ w7
  have B := B.alloc B.size (boxK ⟨115, x.tr, x.id, 0, [], []⟩)
  unfold boxK at *
  try dsimp only at q1 q2 q3 B
  generalize w7.alloc _ = w8 at *
  generalize w7.heap.size = g8 at *
  obtain ⟨a0, a1, a2, a3, a4, a5, a6, a7⟩ := q1.cell
  try dsimp only at a0 a1 a2 a3 a4 a5 a6 a7
  obtain ⟨d0, d1, d2, d3, d4, d5⟩ := q2.cell
  try dsimp only at d0 d1 d2 d3 d4 d5
  obtain ⟨f0, f1, f2, f3, f4, f5⟩ := q3.cell
  try dsimp only at f0 f1 f2 f3 f4 f5
  go_wp2_with fail
  refine (PB.out _).mono ?_
  rintro e9 w9 ⟨rfl, b9⟩
  clear a0 a1 a2 a3 a4 a5 a6 a7
  clear d0 d1 d2 d3 d4 d5
  clear f0 f1 f2 f3 f4 f5
  have q1 := q1.later b9 q1.lt
  have q2 := q2.later b9 q2.lt
  have q3 := q3.later b9 q3.lt
  have B := bt B b9
  clear b9
  obtain ⟨a0, a1, a2, a3, a4, a5, a6, a7⟩ := q1.cell
  try dsimp only at a0 a1 a2 a3 a4 a5 a6 a7
  obtain ⟨d0, d1, d2, d3, d4, d5⟩ := q2.cell
  try dsimp only at d0 d1 d2 d3 d4 d5
  obtain ⟨f0, f1, f2, f3, f4, f5⟩ := q3.cell
  try dsimp only at f0 f1 f2 f3 f4 f5
  clear a0 a1 a2 a3 a4 a5 a6 a7
  clear d0 d1 d2 d3 d4 d5
  clear f0 f1 f2 f3 f4 f5
  go_upto_region 16 with fail
  have q1 := q1.alloc' (boxK ⟨120, x.tr, x.id, x.st, x.sv, x.ho⟩)
  have q2 := q2.alloc' (boxK ⟨120, x.tr, x.id, x.st, x.sv, x.ho⟩)
  have q3 := q3.alloc' (boxK ⟨120, x.tr, x.id, x.st, x.sv, x.ho⟩)
  have q4 := PtAt.boxed ⟨120, x.tr, x.id, x.st, x.sv, x.ho⟩ w9
  have B := B.alloc B.size (boxK ⟨120, x.tr, x.id, x.st, x.sv, x.ho⟩)
  unfold boxK at *
  try dsimp only at q1 q2 q3 q4 B
  generalize w9.alloc _ = w10 at *
  generalize w9.heap.size = g10 at *
  obtain ⟨a0, a1, a2, a3, a4, a5, a6, a7⟩ := q1.cell
  try dsimp only at a0 a1 a2 a3 a4 a5 a6 a7
  obtain ⟨d0, d1, d2, d3, d4, d5⟩ := q2.cell
  try dsimp only at d0 d1 d2 d3 d4 d5
  obtain ⟨f0, f1, f2, f3, f4, f5⟩ := q3.cell
  try dsimp only at f0 f1 f2 f3 f4 f5
  obtain ⟨h0, h1, h2, h3, h4, h5⟩ := q4.cell
  try dsimp only at h0 h1 h2 h3 h4 h5
  go_wp2_with fail
  refine (CD.out _).mono ?_
  rintro e11 w11 ⟨rfl, b11⟩
  clear a0 a1 a2 a3 a4 a5 a6 a7
  clear d0 d1 d2 d3 d4 d5
  clear f0 f1 f2 f3 f4 f5
  clear h0 h1 h2 h3 h4 h5
  have q1 := q1.later b11 q1.lt
  have q2 := q2.later b11 q2.lt
  have q3 := q3.later b11 q3.lt
  have q4 := q4.later b11 q4.lt
  have B := bt B b11
  clear b11
  obtain ⟨a0, a1, a2, a3, a4, a5, a6, a7⟩ := q1.cell
  try dsimp only at a0 a1 a2 a3 a4 a5 a6 a7
  obtain ⟨d0, d1, d2, d3, d4, d5⟩ := q2.cell
  try dsimp only at d0 d1 d2 d3 d4 d5
  obtain ⟨f0, f1, f2, f3, f4, f5⟩ := q3.cell
  try dsimp only at f0 f1 f2 f3 f4 f5
  obtain ⟨h0, h1, h2, h3, h4, h5⟩ := q4.cell
  try dsimp only at h0 h1 h2 h3 h4 h5
  go_wp2_with fail
  go_ret
  exact ⟨rfl, B⟩
set_option maxHeartbeats 1000000 in
theorem keysBack_sb (x : Sp) (l : List UInt8) (w : World) (hf : Fits x) (hg : greatK x = false) (hl : ¬ (500 : Int) < l.length) (hll : l.length ≤ 140737488351232) (hx : x.ok = false) (p : KP) (hp : parseK l = some p) (hk : p.kind = 115) :
    Calls Try.prog 6 #[spVal x, .string ⟨l.toArray⟩] w fun e w' => e = .returned (.bool true) ∧ Below w.heap.size w w' := by
  have cg := fun W => greatK_any x W hf
  have q1 := SpAt.boxed x w
  have B := (Below.refl w.heap.size w).alloc (Nat.le_refl _) (boxS x)
  have CD := Lib.hid kdoes_true
  rw [hg] at cg
  have cp := fun W => parse_any l hll W
  have cc := fun W => check_any x W hf
  rw [hp] at cp
  obtain ⟨hkey, hor⟩ := parseK_some hp
  obtain ⟨h1, h2, h3⟩ : p.st = 0 ∧ p.sv = [] ∧ p.ho = [] := by
    rcases hor with h | h
    · exact ⟨h.2.1, h.2.2.1, h.2.2.2⟩
    · rw [hk] at h; cases h
  obtain ⟨kind, tr, id, st, sv, ho⟩ := p
  dsimp only at hk h1 h2 h3
  subst hk h1 h2 h3
  rw [ofKey_key] at hkey
  have co := fun W => of_any tr id W
  rw [hkey] at co
  unfold errV at co
  unfold parseV kpVal at cp
  try dsimp only at cp
  clear hp hkey hor
  rw [checkV_no hx] at cc
  clear hx
  clear hg
  unfold spVal boxS at *
  have CG := Lib.hid cg
  have CP := Lib.hid cp
  have CC := Lib.hid cc
  have CO := Lib.hid co
  clear cg cp cc co
  go_enter Try.func6, Try.ntmps6
  go_wp2_with fail
  generalize w.alloc _ = w0 at *
  obtain ⟨a0, a1, a2, a3, a4, a5, a6, a7⟩ := q1.cell
  try dsimp only at a0 a1 a2 a3 a4 a5 a6 a7
  go_wp2_with fail
  refine (CG.out _).mono ?_
  rintro e1 w1 ⟨rfl, b1⟩
  clear a0 a1 a2 a3 a4 a5 a6 a7
  have q1 := q1.later b1 q1.lt
  have B := bt B b1
  clear b1
  obtain ⟨a0, a1, a2, a3, a4, a5, a6, a7⟩ := q1.cell
  try dsimp only at a0 a1 a2 a3 a4 a5 a6 a7
  go_wp2_with fail
  refine (CP.out _).mono ?_
  rintro e2 w2 ⟨rfl, b2⟩
  clear a0 a1 a2 a3 a4 a5 a6 a7
  have q1 := q1.later b2 q1.lt
  have B := bt B b2
  clear b2
  obtain ⟨a0, a1, a2, a3, a4, a5, a6, a7⟩ := q1.cell
  try dsimp only at a0 a1 a2 a3 a4 a5 a6 a7
  clear a0 a1 a2 a3 a4 a5 a6 a7
  go_upto_region 4 with fail
  have q1 := q1.alloc' (boxK ⟨115, tr, id, 0, [], []⟩)
  have q2 := PtAt.boxed ⟨115, tr, id, 0, [], []⟩ w2
  have B := B.alloc B.size (boxK ⟨115, tr, id, 0, [], []⟩)
  unfold boxK at *
  try dsimp only at q1 q2 B
  generalize w2.alloc _ = w3 at *
  generalize w2.heap.size = g3 at *
  obtain ⟨a0, a1, a2, a3, a4, a5, a6, a7⟩ := q1.cell
  try dsimp only at a0 a1 a2 a3 a4 a5 a6 a7
  obtain ⟨d0, d1, d2, d3, d4, d5⟩ := q2.cell
  try dsimp only at d0 d1 d2 d3 d4 d5
  go_wp2_with fail
  refine (CO.out _).mono ?_
  rintro e4 w4 ⟨rfl, b4⟩
  clear a0 a1 a2 a3 a4 a5 a6 a7
  clear d0 d1 d2 d3 d4 d5
  have q1 := q1.later b4 q1.lt
  have q2 := q2.later b4 q2.lt
  have B := bt B b4
  clear b4
  obtain ⟨a0, a1, a2, a3, a4, a5, a6, a7⟩ := q1.cell
  try dsimp only at a0 a1 a2 a3 a4 a5 a6 a7
  obtain ⟨d0, d1, d2, d3, d4, d5⟩ := q2.cell
  try dsimp only at d0 d1 d2 d3 d4 d5
  go_wp2_with fail
  refine (CC.out _).mono ?_
  rintro e5 w5 ⟨rfl, b5⟩
  clear a0 a1 a2 a3 a4 a5 a6 a7
  clear d0 d1 d2 d3 d4 d5
  have q1 := q1.later b5 q1.lt
  have q2 := q2.later b5 q2.lt
  have B := bt B b5
  clear b5
  obtain ⟨a0, a1, a2, a3, a4, a5, a6, a7⟩ := q1.cell
  try dsimp only at a0 a1 a2 a3 a4 a5 a6 a7
  obtain ⟨d0, d1, d2, d3, d4, d5⟩ := q2.cell
  try dsimp only at d0 d1 d2 d3 d4 d5
  go_wp2_with fail
  refine (CD.out _).mono ?_
  rintro e6 w6 ⟨rfl, b6⟩
  clear a0 a1 a2 a3 a4 a5 a6 a7
  clear d0 d1 d2 d3 d4 d5
  have q1 := q1.later b6 q1.lt
  have q2 := q2.later b6 q2.lt
  have B := bt B b6
  clear b6
  obtain ⟨a0, a1, a2, a3, a4, a5, a6, a7⟩ := q1.cell
  try dsimp only at a0 a1 a2 a3 a4 a5 a6 a7
  obtain ⟨d0, d1, d2, d3, d4, d5⟩ := q2.cell
  try dsimp only at d0 d1 d2 d3 d4 d5
  go_wp2_with fail
  go_ret
  exact ⟨rfl, B⟩
set_option maxHeartbeats 1000000 in
theorem keysBack_sg (x : Sp) (l : List UInt8) (w : World) (hf : Fits x) (hg : greatK x = false) (hl : ¬ (500 : Int) < l.length) (hll : l.length ≤ 140737488351232) (hx : x.ok = true) (p : KP) (hp : parseK l = some p) (hk : p.kind = 115) :
    Calls Try.prog 6 #[spVal x, .string ⟨l.toArray⟩] w fun e w' => e = .returned (.bool true) ∧ Below w.heap.size w w' := by
  have cg := fun W => greatK_any x W hf
  have q1 := SpAt.boxed x w
  have B := (Below.refl w.heap.size w).alloc (Nat.le_refl _) (boxS x)
  have CD := Lib.hid kdoes_true
  rw [hg] at cg
  have cp := fun W => parse_any l hll W
  have cc := fun W => check_any x W hf
  rw [hp] at cp
  obtain ⟨hkey, hor⟩ := parseK_some hp
  obtain ⟨h1, h2, h3⟩ : p.st = 0 ∧ p.sv = [] ∧ p.ho = [] := by
    rcases hor with h | h
    · exact ⟨h.2.1, h.2.2.1, h.2.2.2⟩
    · rw [hk] at h; cases h
  obtain ⟨kind, tr, id, st, sv, ho⟩ := p
  dsimp only at hk h1 h2 h3
  subst hk h1 h2 h3
  rw [ofKey_key] at hkey
  have co := fun W => of_any tr id W
  rw [hkey] at co
  unfold errV at co
  unfold parseV kpVal at cp
  try dsimp only at cp
  clear hp hkey hor
  have kx := fun W => of_ok hx W
  have ix := fun W => index_ok hx W
  have pa := fun W => parse_any (sKey x.tr x.id) (by rw [sKey_length]; omega) W
  have pb := fun W => parse_any (xKey x.sv x.ho x.st x.tr x.id) (by have := xKey_length hx; omega) W
  rw [parseK_sKey (ids hx)] at pa
  rw [parseK_xKey (like_ok hx)] at pb
  have hla : ((sKey x.tr x.id).length : Int) ≤ 51 := by rw [sKey_length]; omega
  have hlb : ((xKey x.sv x.ho x.st x.tr x.id).length : Int) ≤ 51 := by have := xKey_length hx; omega
  rw [checkV_ok hx] at cc
  clear hx
  generalize sKey x.tr x.id = a at *
  generalize xKey x.sv x.ho x.st x.tr x.id = b at *
  unfold parseV kpVal at pa pb
  try dsimp only at pa pb
  clear hg
  unfold spVal boxS at *
  have CG := Lib.hid cg
  have CP := Lib.hid cp
  have CC := Lib.hid cc
  have CO := Lib.hid co
  have KX := Lib.hid kx
  have IX := Lib.hid ix
  have PA := Lib.hid pa
  have PB := Lib.hid pb
  clear cg cp cc co kx ix pa pb
  go_enter Try.func6, Try.ntmps6
  go_wp2_with fail
  generalize w.alloc _ = w0 at *
  obtain ⟨a0, a1, a2, a3, a4, a5, a6, a7⟩ := q1.cell
  try dsimp only at a0 a1 a2 a3 a4 a5 a6 a7
  go_wp2_with fail
  refine (CG.out _).mono ?_
  rintro e1 w1 ⟨rfl, b1⟩
  clear a0 a1 a2 a3 a4 a5 a6 a7
  have q1 := q1.later b1 q1.lt
  have B := bt B b1
  clear b1
  obtain ⟨a0, a1, a2, a3, a4, a5, a6, a7⟩ := q1.cell
  try dsimp only at a0 a1 a2 a3 a4 a5 a6 a7
  go_wp2_with fail
  refine (CP.out _).mono ?_
  rintro e2 w2 ⟨rfl, b2⟩
  clear a0 a1 a2 a3 a4 a5 a6 a7
  have q1 := q1.later b2 q1.lt
  have B := bt B b2
  clear b2
  obtain ⟨a0, a1, a2, a3, a4, a5, a6, a7⟩ := q1.cell
  try dsimp only at a0 a1 a2 a3 a4 a5 a6 a7
  clear a0 a1 a2 a3 a4 a5 a6 a7
  go_upto_region 4 with fail
  have q1 := q1.alloc' (boxK ⟨115, tr, id, 0, [], []⟩)
  have q2 := PtAt.boxed ⟨115, tr, id, 0, [], []⟩ w2
  have B := B.alloc B.size (boxK ⟨115, tr, id, 0, [], []⟩)
  unfold boxK at *
  try dsimp only at q1 q2 B
  generalize w2.alloc _ = w3 at *
  generalize w2.heap.size = g3 at *
  obtain ⟨a0, a1, a2, a3, a4, a5, a6, a7⟩ := q1.cell
  try dsimp only at a0 a1 a2 a3 a4 a5 a6 a7
  obtain ⟨d0, d1, d2, d3, d4, d5⟩ := q2.cell
  try dsimp only at d0 d1 d2 d3 d4 d5
  go_wp2_with fail
  refine (CO.out _).mono ?_
  rintro e4 w4 ⟨rfl, b4⟩
  clear a0 a1 a2 a3 a4 a5 a6 a7
  clear d0 d1 d2 d3 d4 d5
  have q1 := q1.later b4 q1.lt
  have q2 := q2.later b4 q2.lt
  have B := bt B b4
  clear b4
  obtain ⟨a0, a1, a2, a3, a4, a5, a6, a7⟩ := q1.cell
  try dsimp only at a0 a1 a2 a3 a4 a5 a6 a7
  obtain ⟨d0, d1, d2, d3, d4, d5⟩ := q2.cell
  try dsimp only at d0 d1 d2 d3 d4 d5
  go_wp2_with fail
  refine (CC.out _).mono ?_
  rintro e5 w5 ⟨rfl, b5⟩
  clear a0 a1 a2 a3 a4 a5 a6 a7
  clear d0 d1 d2 d3 d4 d5
  have q1 := q1.later b5 q1.lt
  have q2 := q2.later b5 q2.lt
  have B := bt B b5
  clear b5
  obtain ⟨a0, a1, a2, a3, a4, a5, a6, a7⟩ := q1.cell
  try dsimp only at a0 a1 a2 a3 a4 a5 a6 a7
  obtain ⟨d0, d1, d2, d3, d4, d5⟩ := q2.cell
  try dsimp only at d0 d1 d2 d3 d4 d5
  go_wp2_with fail
  refine (KX.out _).mono ?_
  rintro e6 w6 ⟨rfl, b6⟩
  clear a0 a1 a2 a3 a4 a5 a6 a7
  clear d0 d1 d2 d3 d4 d5
  have q1 := q1.later b6 q1.lt
  have q2 := q2.later b6 q2.lt
  have B := bt B b6
  clear b6
  obtain ⟨a0, a1, a2, a3, a4, a5, a6, a7⟩ := q1.cell
  try dsimp only at a0 a1 a2 a3 a4 a5 a6 a7
  obtain ⟨d0, d1, d2, d3, d4, d5⟩ := q2.cell
  try dsimp only at d0 d1 d2 d3 d4 d5
  go_wp2_with fail
  refine (IX.out _).mono ?_
  rintro e7 w7 ⟨rfl, b7⟩
  clear a0 a1 a2 a3 a4 a5 a6 a7
  clear d0 d1 d2 d3 d4 d5
  have q1 := q1.later b7 q1.lt
  have q2 := q2.later b7 q2.lt
  have B := bt B b7
  clear b7
  obtain ⟨a0, a1, a2, a3, a4, a5, a6, a7⟩ := q1.cell
  try dsimp only at a0 a1 a2 a3 a4 a5 a6 a7
  obtain ⟨d0, d1, d2, d3, d4, d5⟩ := q2.cell
  try dsimp only at d0 d1 d2 d3 d4 d5
  go_wp2_with fail
  refine (PA.out _).mono ?_
  rintro e8 w8 ⟨rfl, b8⟩
  clear a0 a1 a2 a3 a4 a5 a6 a7
  clear d0 d1 d2 d3 d4 d5
  have q1 := q1.later b8 q1.lt
  have q2 := q2.later b8 q2.lt
  have B := bt B b8
  clear b8
  obtain ⟨a0, a1, a2, a3, a4, a5, a6, a7⟩ := q1.cell
  try dsimp only at a0 a1 a2 a3 a4 a5 a6 a7
  obtain ⟨d0, d1, d2, d3, d4, d5⟩ := q2.cell
  try dsimp only at d0 d1 d2 d3 d4 d5
  clear a0 a1 a2 a3 a4 a5 a6 a7
  clear d0 d1 d2 d3 d4 d5
  go_upto_region 15 with fail
  have q1 := q1.alloc' (boxK ⟨115, x.tr, x.id, 0, [], []⟩)
  have q2 := q2.alloc' (boxK ⟨115, x.tr, x.id, 0, [], []⟩)
  have q3 := PtAt.boxed ⟨115, x.tr, x.id, 0, [], []⟩ w8
  have B := B.alloc B.size (boxK ⟨115, x.tr, x.id, 0, [], []⟩)
  unfold boxK at *
  try dsimp only at q1 q2 q3 B
  generalize w8.alloc _ = w9 at *
  generalize w8.heap.size = g9 at *
  obtain ⟨a0, a1, a2, a3, a4, a5, a6, a7⟩ := q1.cell
  try dsimp only at a0 a1 a2 a3 a4 a5 a6 a7
  obtain ⟨d0, d1, d2, d3, d4, d5⟩ := q2.cell
  try dsimp only at d0 d1 d2 d3 d4 d5
  obtain ⟨f0, f1, f2, f3, f4, f5⟩ := q3.cell
  try dsimp only at f0 f1 f2 f3 f4 f5
  go_wp2_with fail
  refine (PB.out _).mono ?_
  rintro e10 w10 ⟨rfl, b10⟩
  clear a0 a1 a2 a3 a4 a5 a6 a7
  clear d0 d1 d2 d3 d4 d5
  clear f0 f1 f2 f3 f4 f5
  have q1 := q1.later b10 q1.lt
  have q2 := q2.later b10 q2.lt
  have q3 := q3.later b10 q3.lt
  have B := bt B b10
  clear b10
  obtain ⟨a0, a1, a2, a3, a4, a5, a6, a7⟩ := q1.cell
  try dsimp only at a0 a1 a2 a3 a4 a5 a6 a7
  obtain ⟨d0, d1, d2, d3, d4, d5⟩ := q2.cell
  try dsimp only at d0 d1 d2 d3 d4 d5
  obtain ⟨f0, f1, f2, f3, f4, f5⟩ := q3.cell
  try dsimp only at f0 f1 f2 f3 f4 f5
  clear a0 a1 a2 a3 a4 a5 a6 a7
  clear d0 d1 d2 d3 d4 d5
  clear f0 f1 f2 f3 f4 f5
  go_upto_region 16 with fail
  have q1 := q1.alloc' (boxK ⟨120, x.tr, x.id, x.st, x.sv, x.ho⟩)
  have q2 := q2.alloc' (boxK ⟨120, x.tr, x.id, x.st, x.sv, x.ho⟩)
  have q3 := q3.alloc' (boxK ⟨120, x.tr, x.id, x.st, x.sv, x.ho⟩)
  have q4 := PtAt.boxed ⟨120, x.tr, x.id, x.st, x.sv, x.ho⟩ w10
  have B := B.alloc B.size (boxK ⟨120, x.tr, x.id, x.st, x.sv, x.ho⟩)
  unfold boxK at *
  try dsimp only at q1 q2 q3 q4 B
  generalize w10.alloc _ = w11 at *
  generalize w10.heap.size = g11 at *
  obtain ⟨a0, a1, a2, a3, a4, a5, a6, a7⟩ := q1.cell
  try dsimp only at a0 a1 a2 a3 a4 a5 a6 a7
  obtain ⟨d0, d1, d2, d3, d4, d5⟩ := q2.cell
  try dsimp only at d0 d1 d2 d3 d4 d5
  obtain ⟨f0, f1, f2, f3, f4, f5⟩ := q3.cell
  try dsimp only at f0 f1 f2 f3 f4 f5
  obtain ⟨h0, h1, h2, h3, h4, h5⟩ := q4.cell
  try dsimp only at h0 h1 h2 h3 h4 h5
  go_wp2_with fail
  refine (CD.out _).mono ?_
  rintro e12 w12 ⟨rfl, b12⟩
  clear a0 a1 a2 a3 a4 a5 a6 a7
  clear d0 d1 d2 d3 d4 d5
  clear f0 f1 f2 f3 f4 f5
  clear h0 h1 h2 h3 h4 h5
  have q1 := q1.later b12 q1.lt
  have q2 := q2.later b12 q2.lt
  have q3 := q3.later b12 q3.lt
  have q4 := q4.later b12 q4.lt
  have B := bt B b12
  clear b12
  obtain ⟨a0, a1, a2, a3, a4, a5, a6, a7⟩ := q1.cell
  try dsimp only at a0 a1 a2 a3 a4 a5 a6 a7
  obtain ⟨d0, d1, d2, d3, d4, d5⟩ := q2.cell
  try dsimp only at d0 d1 d2 d3 d4 d5
  obtain ⟨f0, f1, f2, f3, f4, f5⟩ := q3.cell
  try dsimp only at f0 f1 f2 f3 f4 f5
  obtain ⟨h0, h1, h2, h3, h4, h5⟩ := q4.cell
  try dsimp only at h0 h1 h2 h3 h4 h5
  go_wp2_with fail
  go_ret
  exact ⟨rfl, B⟩
set_option maxHeartbeats 1000000 in
theorem keysBack_xb (x : Sp) (l : List UInt8) (w : World) (hf : Fits x) (hg : greatK x = false) (hl : ¬ (500 : Int) < l.length) (hll : l.length ≤ 140737488351232) (hx : x.ok = false) (p : KP) (hp : parseK l = some p) (hk : p.kind = 120) :
    Calls Try.prog 6 #[spVal x, .string ⟨l.toArray⟩] w fun e w' => e = .returned (.bool true) ∧ Below w.heap.size w w' := by
  have cg := fun W => greatK_any x W hf
  have q1 := SpAt.boxed x w
  have B := (Below.refl w.heap.size w).alloc (Nat.le_refl _) (boxS x)
  have CD := Lib.hid kdoes_true
  rw [hg] at cg
  have cp := fun W => parse_any l hll W
  have cc := fun W => check_any x W hf
  rw [hp] at cp
  obtain ⟨hkey, hor⟩ := parseK_some hp
  obtain ⟨kind, tr, id, st, sv, ho⟩ := p
  dsimp only at hk
  subst hk
  have hok : (⟨tr, id, 0, sv, ho, st, 0, []⟩ : Sp).ok = true := by
    unfold KP.key at hkey
    split at hkey
    · rename_i h
      rwa [like_x] at h
    · cases hkey
  have hxk : xKey sv ho st tr id = l := by
    unfold KP.key at hkey
    split at hkey
    · simpa using hkey
    · cases hkey
  obtain ⟨z, ze, hz⟩ := errV_form (ofKey tr id)
  have co := fun W => of_any tr id W
  rw [hz] at co
  have ci := fun W => index_ok hok W
  dsimp only at ci
  rw [hxk] at ci
  unfold parseV kpVal at cp
  try dsimp only at cp
  clear hp hkey hor hz hxk hok
  rw [checkV_no hx] at cc
  clear hx
  clear hg
  unfold spVal boxS at *
  have CG := Lib.hid cg
  have CP := Lib.hid cp
  have CC := Lib.hid cc
  have CO := Lib.hid co
  have CI := Lib.hid ci
  clear cg cp cc co ci
  go_enter Try.func6, Try.ntmps6
  go_wp2_with fail
  generalize w.alloc _ = w0 at *
  obtain ⟨a0, a1, a2, a3, a4, a5, a6, a7⟩ := q1.cell
  try dsimp only at a0 a1 a2 a3 a4 a5 a6 a7
  go_wp2_with fail
  refine (CG.out _).mono ?_
  rintro e1 w1 ⟨rfl, b1⟩
  clear a0 a1 a2 a3 a4 a5 a6 a7
  have q1 := q1.later b1 q1.lt
  have B := bt B b1
  clear b1
  obtain ⟨a0, a1, a2, a3, a4, a5, a6, a7⟩ := q1.cell
  try dsimp only at a0 a1 a2 a3 a4 a5 a6 a7
  go_wp2_with fail
  refine (CP.out _).mono ?_
  rintro e2 w2 ⟨rfl, b2⟩
  clear a0 a1 a2 a3 a4 a5 a6 a7
  have q1 := q1.later b2 q1.lt
  have B := bt B b2
  clear b2
  obtain ⟨a0, a1, a2, a3, a4, a5, a6, a7⟩ := q1.cell
  try dsimp only at a0 a1 a2 a3 a4 a5 a6 a7
  clear a0 a1 a2 a3 a4 a5 a6 a7
  go_upto_region 4 with fail
  have q1 := q1.alloc' (boxK ⟨120, tr, id, st, sv, ho⟩)
  have q2 := PtAt.boxed ⟨120, tr, id, st, sv, ho⟩ w2
  have B := B.alloc B.size (boxK ⟨120, tr, id, st, sv, ho⟩)
  unfold boxK at *
  try dsimp only at q1 q2 B
  generalize w2.alloc _ = w3 at *
  generalize w2.heap.size = g3 at *
  obtain ⟨a0, a1, a2, a3, a4, a5, a6, a7⟩ := q1.cell
  try dsimp only at a0 a1 a2 a3 a4 a5 a6 a7
  obtain ⟨d0, d1, d2, d3, d4, d5⟩ := q2.cell
  try dsimp only at d0 d1 d2 d3 d4 d5
  go_wp2_with fail
  refine (CO.out _).mono ?_
  rintro e4 w4 ⟨rfl, b4⟩
  clear a0 a1 a2 a3 a4 a5 a6 a7
  clear d0 d1 d2 d3 d4 d5
  have q1 := q1.later b4 q1.lt
  have q2 := q2.later b4 q2.lt
  have B := bt B b4
  clear b4
  obtain ⟨a0, a1, a2, a3, a4, a5, a6, a7⟩ := q1.cell
  try dsimp only at a0 a1 a2 a3 a4 a5 a6 a7
  obtain ⟨d0, d1, d2, d3, d4, d5⟩ := q2.cell
  try dsimp only at d0 d1 d2 d3 d4 d5
  go_wp2_with fail
  refine (CI.out _).mono ?_
  rintro e5 w5 ⟨rfl, b5⟩
  clear a0 a1 a2 a3 a4 a5 a6 a7
  clear d0 d1 d2 d3 d4 d5
  have q1 := q1.later b5 q1.lt
  have q2 := q2.later b5 q2.lt
  have B := bt B b5
  clear b5
  obtain ⟨a0, a1, a2, a3, a4, a5, a6, a7⟩ := q1.cell
  try dsimp only at a0 a1 a2 a3 a4 a5 a6 a7
  obtain ⟨d0, d1, d2, d3, d4, d5⟩ := q2.cell
  try dsimp only at d0 d1 d2 d3 d4 d5
  go_wp2_with fail
  refine (CC.out _).mono ?_
  rintro e6 w6 ⟨rfl, b6⟩
  clear a0 a1 a2 a3 a4 a5 a6 a7
  clear d0 d1 d2 d3 d4 d5
  have q1 := q1.later b6 q1.lt
  have q2 := q2.later b6 q2.lt
  have B := bt B b6
  clear b6
  obtain ⟨a0, a1, a2, a3, a4, a5, a6, a7⟩ := q1.cell
  try dsimp only at a0 a1 a2 a3 a4 a5 a6 a7
  obtain ⟨d0, d1, d2, d3, d4, d5⟩ := q2.cell
  try dsimp only at d0 d1 d2 d3 d4 d5
  go_wp2_with fail
  refine (CD.out _).mono ?_
  rintro e7 w7 ⟨rfl, b7⟩
  clear a0 a1 a2 a3 a4 a5 a6 a7
  clear d0 d1 d2 d3 d4 d5
  have q1 := q1.later b7 q1.lt
  have q2 := q2.later b7 q2.lt
  have B := bt B b7
  clear b7
  obtain ⟨a0, a1, a2, a3, a4, a5, a6, a7⟩ := q1.cell
  try dsimp only at a0 a1 a2 a3 a4 a5 a6 a7
  obtain ⟨d0, d1, d2, d3, d4, d5⟩ := q2.cell
  try dsimp only at d0 d1 d2 d3 d4 d5
  go_wp2_with fail
  go_ret
  exact ⟨rfl, B⟩
set_option maxHeartbeats 1000000 in
theorem keysBack_xg (x : Sp) (l : List UInt8) (w : World) (hf : Fits x) (hg : greatK x = false) (hl : ¬ (500 : Int) < l.length) (hll : l.length ≤ 140737488351232) (hx : x.ok = true) (p : KP) (hp : parseK l = some p) (hk : p.kind = 120) :
    Calls Try.prog 6 #[spVal x, .string ⟨l.toArray⟩] w fun e w' => e = .returned (.bool true) ∧ Below w.heap.size w w' := by
  have cg := fun W => greatK_any x W hf
  have q1 := SpAt.boxed x w
  have B := (Below.refl w.heap.size w).alloc (Nat.le_refl _) (boxS x)
  have CD := Lib.hid kdoes_true
  rw [hg] at cg
  have cp := fun W => parse_any l hll W
  have cc := fun W => check_any x W hf
  rw [hp] at cp
  obtain ⟨hkey, hor⟩ := parseK_some hp
  obtain ⟨kind, tr, id, st, sv, ho⟩ := p
  dsimp only at hk
  subst hk
  have hok : (⟨tr, id, 0, sv, ho, st, 0, []⟩ : Sp).ok = true := by
    unfold KP.key at hkey
    split at hkey
    · rename_i h
      rwa [like_x] at h
    · cases hkey
  have hxk : xKey sv ho st tr id = l := by
    unfold KP.key at hkey
    split at hkey
    · simpa using hkey
    · cases hkey
  obtain ⟨z, ze, hz⟩ := errV_form (ofKey tr id)
  have co := fun W => of_any tr id W
  rw [hz] at co
  have ci := fun W => index_ok hok W
  dsimp only at ci
  rw [hxk] at ci
  unfold parseV kpVal at cp
  try dsimp only at cp
  clear hp hkey hor hz hxk hok
  have kx := fun W => of_ok hx W
  have ix := fun W => index_ok hx W
  have pa := fun W => parse_any (sKey x.tr x.id) (by rw [sKey_length]; omega) W
  have pb := fun W => parse_any (xKey x.sv x.ho x.st x.tr x.id) (by have := xKey_length hx; omega) W
  rw [parseK_sKey (ids hx)] at pa
  rw [parseK_xKey (like_ok hx)] at pb
  have hla : ((sKey x.tr x.id).length : Int) ≤ 51 := by rw [sKey_length]; omega
  have hlb : ((xKey x.sv x.ho x.st x.tr x.id).length : Int) ≤ 51 := by have := xKey_length hx; omega
  rw [checkV_ok hx] at cc
  clear hx
  generalize sKey x.tr x.id = a at *
  generalize xKey x.sv x.ho x.st x.tr x.id = b at *
  unfold parseV kpVal at pa pb
  try dsimp only at pa pb
  clear hg
  unfold spVal boxS at *
  have CG := Lib.hid cg
  have CP := Lib.hid cp
  have CC := Lib.hid cc
  have CO := Lib.hid co
  have CI := Lib.hid ci
  have KX := Lib.hid kx
  have IX := Lib.hid ix
  have PA := Lib.hid pa
  have PB := Lib.hid pb
  clear cg cp cc co ci kx ix pa pb
  go_enter Try.func6, Try.ntmps6
  go_wp2_with fail
  generalize w.alloc _ = w0 at *
  obtain ⟨a0, a1, a2, a3, a4, a5, a6, a7⟩ := q1.cell
  try dsimp only at a0 a1 a2 a3 a4 a5 a6 a7
  go_wp2_with fail
  refine (CG.out _).mono ?_
  rintro e1 w1 ⟨rfl, b1⟩
  clear a0 a1 a2 a3 a4 a5 a6 a7
  have q1 := q1.later b1 q1.lt
  have B := bt B b1
  clear b1
  obtain ⟨a0, a1, a2, a3, a4, a5, a6, a7⟩ := q1.cell
  try dsimp only at a0 a1 a2 a3 a4 a5 a6 a7
  go_wp2_with fail
  refine (CP.out _).mono ?_
  rintro e2 w2 ⟨rfl, b2⟩
  clear a0 a1 a2 a3 a4 a5 a6 a7
  have q1 := q1.later b2 q1.lt
  have B := bt B b2
  clear b2
  obtain ⟨a0, a1, a2, a3, a4, a5, a6, a7⟩ := q1.cell
  try dsimp only at a0 a1 a2 a3 a4 a5 a6 a7
  clear a0 a1 a2 a3 a4 a5 a6 a7
  go_upto_region 4 with fail
  have q1 := q1.alloc' (boxK ⟨120, tr, id, st, sv, ho⟩)
  have q2 := PtAt.boxed ⟨120, tr, id, st, sv, ho⟩ w2
  have B := B.alloc B.size (boxK ⟨120, tr, id, st, sv, ho⟩)
  unfold boxK at *
  try dsimp only at q1 q2 B
  generalize w2.alloc _ = w3 at *
  generalize w2.heap.size = g3 at *
  obtain ⟨a0, a1, a2, a3, a4, a5, a6, a7⟩ := q1.cell
  try dsimp only at a0 a1 a2 a3 a4 a5 a6 a7
  obtain ⟨d0, d1, d2, d3, d4, d5⟩ := q2.cell
  try dsimp only at d0 d1 d2 d3 d4 d5
  go_wp2_with fail
  refine (CO.out _).mono ?_
  rintro e4 w4 ⟨rfl, b4⟩
  clear a0 a1 a2 a3 a4 a5 a6 a7
  clear d0 d1 d2 d3 d4 d5
  have q1 := q1.later b4 q1.lt
  have q2 := q2.later b4 q2.lt
  have B := bt B b4
  clear b4
  obtain ⟨a0, a1, a2, a3, a4, a5, a6, a7⟩ := q1.cell
  try dsimp only at a0 a1 a2 a3 a4 a5 a6 a7
  obtain ⟨d0, d1, d2, d3, d4, d5⟩ := q2.cell
  try dsimp only at d0 d1 d2 d3 d4 d5
  go_wp2_with fail
  refine (CI.out _).mono ?_
  rintro e5 w5 ⟨rfl, b5⟩
  clear a0 a1 a2 a3 a4 a5 a6 a7
  clear d0 d1 d2 d3 d4 d5
  have q1 := q1.later b5 q1.lt
  have q2 := q2.later b5 q2.lt
  have B := bt B b5
  clear b5
  obtain ⟨a0, a1, a2, a3, a4, a5, a6, a7⟩ := q1.cell
  try dsimp only at a0 a1 a2 a3 a4 a5 a6 a7
  obtain ⟨d0, d1, d2, d3, d4, d5⟩ := q2.cell
  try dsimp only at d0 d1 d2 d3 d4 d5
  go_wp2_with fail
  refine (CC.out _).mono ?_
  rintro e6 w6 ⟨rfl, b6⟩
  clear a0 a1 a2 a3 a4 a5 a6 a7
  clear d0 d1 d2 d3 d4 d5
  have q1 := q1.later b6 q1.lt
  have q2 := q2.later b6 q2.lt
  have B := bt B b6
  clear b6
  obtain ⟨a0, a1, a2, a3, a4, a5, a6, a7⟩ := q1.cell
  try dsimp only at a0 a1 a2 a3 a4 a5 a6 a7
  obtain ⟨d0, d1, d2, d3, d4, d5⟩ := q2.cell
  try dsimp only at d0 d1 d2 d3 d4 d5
  go_wp2_with fail
  refine (KX.out _).mono ?_
  rintro e7 w7 ⟨rfl, b7⟩
  clear a0 a1 a2 a3 a4 a5 a6 a7
  clear d0 d1 d2 d3 d4 d5
  have q1 := q1.later b7 q1.lt
  have q2 := q2.later b7 q2.lt
  have B := bt B b7
  clear b7
  obtain ⟨a0, a1, a2, a3, a4, a5, a6, a7⟩ := q1.cell
  try dsimp only at a0 a1 a2 a3 a4 a5 a6 a7
  obtain ⟨d0, d1, d2, d3, d4, d5⟩ := q2.cell
  try dsimp only at d0 d1 d2 d3 d4 d5
  go_wp2_with fail
  refine (IX.out _).mono ?_
  rintro e8 w8 ⟨rfl, b8⟩
  clear a0 a1 a2 a3 a4 a5 a6 a7
  clear d0 d1 d2 d3 d4 d5
  have q1 := q1.later b8 q1.lt
  have q2 := q2.later b8 q2.lt
  have B := bt B b8
  clear b8
  obtain ⟨a0, a1, a2, a3, a4, a5, a6, a7⟩ := q1.cell
  try dsimp only at a0 a1 a2 a3 a4 a5 a6 a7
  obtain ⟨d0, d1, d2, d3, d4, d5⟩ := q2.cell
  try dsimp only at d0 d1 d2 d3 d4 d5
  go_wp2_with fail
  refine (PA.out _).mono ?_
  rintro e9 w9 ⟨rfl, b9⟩
  clear a0 a1 a2 a3 a4 a5 a6 a7
  clear d0 d1 d2 d3 d4 d5
  have q1 := q1.later b9 q1.lt
  have q2 := q2.later b9 q2.lt
  have B := bt B b9
  clear b9
  obtain ⟨a0, a1, a2, a3, a4, a5, a6, a7⟩ := q1.cell
  try dsimp only at a0 a1 a2 a3 a4 a5 a6 a7
  obtain ⟨d0, d1, d2, d3, d4, d5⟩ := q2.cell
  try dsimp only at d0 d1 d2 d3 d4 d5
  clear a0 a1 a2 a3 a4 a5 a6 a7
  clear d0 d1 d2 d3 d4 d5
  go_upto_region 15 with fail
  have q1 := q1.alloc' (boxK ⟨115, x.tr, x.id, 0, [], []⟩)
  have q2 := q2.alloc' (boxK ⟨115, x.tr, x.id, 0, [], []⟩)
  have q3 := PtAt.boxed ⟨115, x.tr, x.id, 0, [], []⟩ w9
  have B := B.alloc B.size (boxK ⟨115, x.tr, x.id, 0, [], []⟩)
  unfold boxK at *
  try dsimp only at q1 q2 q3 B
  generalize w9.alloc _ = w10 at *
  generalize w9.heap.size = g10 at *
  obtain ⟨a0, a1, a2, a3, a4, a5, a6, a7⟩ := q1.cell
  try dsimp only at a0 a1 a2 a3 a4 a5 a6 a7
  obtain ⟨d0, d1, d2, d3, d4, d5⟩ := q2.cell
  try dsimp only at d0 d1 d2 d3 d4 d5
  obtain ⟨f0, f1, f2, f3, f4, f5⟩ := q3.cell
  try dsimp only at f0 f1 f2 f3 f4 f5
  go_wp2_with fail
  refine (PB.out _).mono ?_
  rintro e11 w11 ⟨rfl, b11⟩
  clear a0 a1 a2 a3 a4 a5 a6 a7
  clear d0 d1 d2 d3 d4 d5
  clear f0 f1 f2 f3 f4 f5
  have q1 := q1.later b11 q1.lt
  have q2 := q2.later b11 q2.lt
  have q3 := q3.later b11 q3.lt
  have B := bt B b11
  clear b11
  obtain ⟨a0, a1, a2, a3, a4, a5, a6, a7⟩ := q1.cell
  try dsimp only at a0 a1 a2 a3 a4 a5 a6 a7
  obtain ⟨d0, d1, d2, d3, d4, d5⟩ := q2.cell
  try dsimp only at d0 d1 d2 d3 d4 d5
  obtain ⟨f0, f1, f2, f3, f4, f5⟩ := q3.cell
  try dsimp only at f0 f1 f2 f3 f4 f5
  clear a0 a1 a2 a3 a4 a5 a6 a7
  clear d0 d1 d2 d3 d4 d5
  clear f0 f1 f2 f3 f4 f5
  go_upto_region 16 with fail
  have q1 := q1.alloc' (boxK ⟨120, x.tr, x.id, x.st, x.sv, x.ho⟩)
  have q2 := q2.alloc' (boxK ⟨120, x.tr, x.id, x.st, x.sv, x.ho⟩)
  have q3 := q3.alloc' (boxK ⟨120, x.tr, x.id, x.st, x.sv, x.ho⟩)
  have q4 := PtAt.boxed ⟨120, x.tr, x.id, x.st, x.sv, x.ho⟩ w11
  have B := B.alloc B.size (boxK ⟨120, x.tr, x.id, x.st, x.sv, x.ho⟩)
  unfold boxK at *
  try dsimp only at q1 q2 q3 q4 B
  generalize w11.alloc _ = w12 at *
  generalize w11.heap.size = g12 at *
  obtain ⟨a0, a1, a2, a3, a4, a5, a6, a7⟩ := q1.cell
  try dsimp only at a0 a1 a2 a3 a4 a5 a6 a7
  obtain ⟨d0, d1, d2, d3, d4, d5⟩ := q2.cell
  try dsimp only at d0 d1 d2 d3 d4 d5
  obtain ⟨f0, f1, f2, f3, f4, f5⟩ := q3.cell
  try dsimp only at f0 f1 f2 f3 f4 f5
  obtain ⟨h0, h1, h2, h3, h4, h5⟩ := q4.cell
  try dsimp only at h0 h1 h2 h3 h4 h5
  go_wp2_with fail
  refine (CD.out _).mono ?_
  rintro e13 w13 ⟨rfl, b13⟩
  clear a0 a1 a2 a3 a4 a5 a6 a7
  clear d0 d1 d2 d3 d4 d5
  clear f0 f1 f2 f3 f4 f5
  clear h0 h1 h2 h3 h4 h5
  have q1 := q1.later b13 q1.lt
  have q2 := q2.later b13 q2.lt
  have q3 := q3.later b13 q3.lt
  have q4 := q4.later b13 q4.lt
  have B := bt B b13
  clear b13
  obtain ⟨a0, a1, a2, a3, a4, a5, a6, a7⟩ := q1.cell
  try dsimp only at a0 a1 a2 a3 a4 a5 a6 a7
  obtain ⟨d0, d1, d2, d3, d4, d5⟩ := q2.cell
  try dsimp only at d0 d1 d2 d3 d4 d5
  obtain ⟨f0, f1, f2, f3, f4, f5⟩ := q3.cell
  try dsimp only at f0 f1 f2 f3 f4 f5
  obtain ⟨h0, h1, h2, h3, h4, h5⟩ := q4.cell
  try dsimp only at h0 h1 h2 h3 h4 h5
  go_wp2_with fail
  go_ret
  exact ⟨rfl, B⟩
theorem keysBack_law (x : Sp) (s : ByteArray) (hf : Fits x) (hs : s.size ≤ 140737488351232) (w : World) :
    Calls Try.prog 6 #[spVal x, .string s] w fun e w' => e = .returned (.bool true) ∧ Below w.heap.size w w' := by
  obtain ⟨l, rfl⟩ : ∃ l : List UInt8, s = ⟨l.toArray⟩ := ⟨s.data.toList, by simp⟩
  have hl : l.length ≤ 140737488351232 := by simpa only [ByteArray.size_mk', List.size_toArray] using hs
  cases hg : greatK x with
  | true => exact keysBack_g x l w hf hg
  | false =>
    by_cases h5 : (500 : Int) < l.length
    · exact keysBack_l x l w hf hg h5
    · cases hp : parseK l with
      | none =>
        cases hx : x.ok with
        | true => exact keysBack_ng x l w hf hg h5 hl hx hp
        | false => exact keysBack_nb x l w hf hg h5 hl hx hp
      | some p =>
        have hor := (parseK_some hp).2
        by_cases hk : p.kind = 115
        · cases hx : x.ok with
          | true => exact keysBack_sg x l w hf hg h5 hl hx p hp hk
          | false => exact keysBack_sb x l w hf hg h5 hl hx p hp hk
        · have hk : p.kind = 120 := by
            rcases hor with h | h
            · exact absurd h.1 hk
            · exact h
          cases hx : x.ok with
          | true => exact keysBack_xg x l w hf hg h5 hl hx p hp hk
          | false => exact keysBack_xb x l w hf hg h5 hl hx p hp hk
end Go.Proofs.Ytojenagpnkhgfaa
