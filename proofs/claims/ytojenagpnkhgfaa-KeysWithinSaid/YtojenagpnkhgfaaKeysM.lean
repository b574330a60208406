/- The walk of KeysWithin, of a span's own trace. -/
import Derived.Test.YtojenagpnkhgfaaKeysL
namespace Go.Proofs.Ytojenagpnkhgfaa
open Go.RowKit Spoor

set_option maxRecDepth 100000 in
set_option maxHeartbeats 8000000 in
theorem keysWithin_1 (x : Sp) (t s0 s1 : Int) (w : World) (hf : Fits x) (hg : greatK x = false) (hx : x.ok = true) (t5 : (t == x.tr) = true) :
    Calls Try.prog 8 #[spVal x, .int .i64 t, val2i s0 s1] w fun e w' => e = .returned (.bool true) ∧ Below w.heap.size w w' := by
  have cg := fun W => greatK_any x W hf
  have cc := fun W => check_any x W hf
  obtain ⟨q1, q2, B⟩ := within_boxes x s0 s1 w
  have CD := Lib.hid kdoes_true
  have hns : x.sv.length ≤ 140737488351232 ∧ x.ho.length ≤ 140737488351232 := ⟨hf.1, hf.2.1⟩
  have kx := fun W => of_ok hx W
  have ix := fun W => index_ok hx W
  have tt := fun W => trace_any t W
  have sa := fun W => stretch_any x.sv x.ho s0 s1 hns.1 hns.2 W
  have sb := fun W => stretch_any x.ho x.sv s0 s1 hns.2 hns.1 W
  have ow := fun W => trace_any x.tr W
  have rk := fun W => row_any (sKey x.tr x.id) (by rw [sKey_length]; omega) W
  have rx := fun W => row_any (xKey x.sv x.ho x.st x.tr x.id) (by have := xKey_length hx; omega) W
  rw [rowK_s (ids hx)] at rk
  rw [rowK_x hx] at rx
  have hown : traceK x.tr = (115 :: big x.tr.toNat, 115 :: big (x.tr + 1).toNat) := by
    have := ids hx
    unfold traceK
    rw [if_pos (by simp at this; exact this.1)]
  rw [hown] at ow
  obtain ⟨hA1, hA⟩ := within_trace hx t
  obtain ⟨hB1, hB⟩ := within_own hx s0 s1
  obtain ⟨hC1, hC⟩ := within_other hx s0 s1
  rw [hg] at cg
  rw [checkV_ok hx] at cc
  unfold pairV at tt sa sb ow
  clear hg hx hown hns
  generalize (traceK t).1 = f at *
  generalize (traceK t).2 = f2 at *
  generalize (stretchK x.sv x.ho s0 s1).1 = a at *
  generalize (stretchK x.sv x.ho s0 s1).2 = b at *
  generalize (stretchK x.ho x.sv s0 s1).1 = c at *
  generalize (stretchK x.ho x.sv s0 s1).2 = d at *
  generalize sKey x.tr x.id = k at *
  generalize xKey x.sv x.ho x.st x.tr x.id = X at *
  try dsimp only at ow
  generalize big x.tr.toNat = m at *
  generalize big (x.tr + 1).toNat = m1 at *
  have HT5 := Lib.hid t5
  clear t5
  have HA1 := Lib.hid hA1
  have HB1 := Lib.hid hB1
  have HC1 := Lib.hid hC1
  have HA := Lib.hid hA
  have HB := Lib.hid hB
  have HC := Lib.hid hC
  clear hA1 hB1 hC1 hA hB hC
  unfold spVal at *
  unfold boxP val2i boxI at *
  have CG := Lib.hid cg
  have CC := Lib.hid cc
  have KX := Lib.hid kx
  have IX := Lib.hid ix
  have TT := Lib.hid tt
  have SA := Lib.hid sa
  have SB := Lib.hid sb
  have OW := Lib.hid ow
  have RK := Lib.hid rk
  have RX := Lib.hid rx
  clear cg cc kx ix tt sa sb ow rk rx
  go_enter Try.func8, Try.ntmps8
  go_wp2_with fail
  generalize (w.alloc _).alloc _ = w0 at *
  obtain ⟨a0, a1, a2, a3, a4, a5, a6, a7⟩ := q1.cell
  try dsimp only at a0 a1 a2 a3 a4 a5 a6 a7
  obtain ⟨d0, d1⟩ := q2.cell
  try dsimp only at d0 d1
  go_wp2_with fail
  refine (CG.out _).mono ?_
  rintro e1 w1 ⟨rfl, b1⟩
  clear a0 a1 a2 a3 a4 a5 a6 a7
  clear d0 d1
  have q1 := q1.later b1 q1.lt
  have q2 := q2.later b1 q2.lt
  have B := bt B b1
  clear b1
  obtain ⟨a0, a1, a2, a3, a4, a5, a6, a7⟩ := q1.cell
  try dsimp only at a0 a1 a2 a3 a4 a5 a6 a7
  obtain ⟨d0, d1⟩ := q2.cell
  try dsimp only at d0 d1
  go_wp2_with fail
  refine (CC.out _).mono ?_
  rintro e2 w2 ⟨rfl, b2⟩
  clear a0 a1 a2 a3 a4 a5 a6 a7
  clear d0 d1
  have q1 := q1.later b2 q1.lt
  have q2 := q2.later b2 q2.lt
  have B := bt B b2
  clear b2
  obtain ⟨a0, a1, a2, a3, a4, a5, a6, a7⟩ := q1.cell
  try dsimp only at a0 a1 a2 a3 a4 a5 a6 a7
  obtain ⟨d0, d1⟩ := q2.cell
  try dsimp only at d0 d1
  go_wp2_with fail
  refine (KX.out _).mono ?_
  rintro e3 w3 ⟨rfl, b3⟩
  clear a0 a1 a2 a3 a4 a5 a6 a7
  clear d0 d1
  have q1 := q1.later b3 q1.lt
  have q2 := q2.later b3 q2.lt
  have B := bt B b3
  clear b3
  obtain ⟨a0, a1, a2, a3, a4, a5, a6, a7⟩ := q1.cell
  try dsimp only at a0 a1 a2 a3 a4 a5 a6 a7
  obtain ⟨d0, d1⟩ := q2.cell
  try dsimp only at d0 d1
  go_wp2_with fail
  refine (IX.out _).mono ?_
  rintro e4 w4 ⟨rfl, b4⟩
  clear a0 a1 a2 a3 a4 a5 a6 a7
  clear d0 d1
  have q1 := q1.later b4 q1.lt
  have q2 := q2.later b4 q2.lt
  have B := bt B b4
  clear b4
  obtain ⟨a0, a1, a2, a3, a4, a5, a6, a7⟩ := q1.cell
  try dsimp only at a0 a1 a2 a3 a4 a5 a6 a7
  obtain ⟨d0, d1⟩ := q2.cell
  try dsimp only at d0 d1
  go_wp2_with fail
  refine (TT.out _).mono ?_
  rintro e5 w5 ⟨rfl, b5⟩
  clear a0 a1 a2 a3 a4 a5 a6 a7
  clear d0 d1
  have q1 := q1.later b5 q1.lt
  have q2 := q2.later b5 q2.lt
  have B := bt B b5
  clear b5
  obtain ⟨a0, a1, a2, a3, a4, a5, a6, a7⟩ := q1.cell
  try dsimp only at a0 a1 a2 a3 a4 a5 a6 a7
  obtain ⟨d0, d1⟩ := q2.cell
  try dsimp only at d0 d1
  go_wp2_with fail
  refine (SA.out _).mono ?_
  rintro e6 w6 ⟨rfl, b6⟩
  clear a0 a1 a2 a3 a4 a5 a6 a7
  clear d0 d1
  have q1 := q1.later b6 q1.lt
  have q2 := q2.later b6 q2.lt
  have B := bt B b6
  clear b6
  obtain ⟨a0, a1, a2, a3, a4, a5, a6, a7⟩ := q1.cell
  try dsimp only at a0 a1 a2 a3 a4 a5 a6 a7
  obtain ⟨d0, d1⟩ := q2.cell
  try dsimp only at d0 d1
  go_wp2_with fail
  refine (SB.out _).mono ?_
  rintro e7 w7 ⟨rfl, b7⟩
  clear a0 a1 a2 a3 a4 a5 a6 a7
  clear d0 d1
  have q1 := q1.later b7 q1.lt
  have q2 := q2.later b7 q2.lt
  have B := bt B b7
  clear b7
  obtain ⟨a0, a1, a2, a3, a4, a5, a6, a7⟩ := q1.cell
  try dsimp only at a0 a1 a2 a3 a4 a5 a6 a7
  obtain ⟨d0, d1⟩ := q2.cell
  try dsimp only at d0 d1
  go_wp2_with fail
  refine (OW.out _).mono ?_
  rintro e8 w8 ⟨rfl, b8⟩
  clear a0 a1 a2 a3 a4 a5 a6 a7
  clear d0 d1
  have q1 := q1.later b8 q1.lt
  have q2 := q2.later b8 q2.lt
  have B := bt B b8
  clear b8
  obtain ⟨a0, a1, a2, a3, a4, a5, a6, a7⟩ := q1.cell
  try dsimp only at a0 a1 a2 a3 a4 a5 a6 a7
  obtain ⟨d0, d1⟩ := q2.cell
  try dsimp only at d0 d1
  go_upto_region 9 with fail
  have hI : ∃ I : Bool, (decide (s0 ≤ x.st) && decide (x.st ≤ s1)) = I := ⟨_, rfl⟩
  obtain ⟨I, hI⟩ := hI
  have HI := Lib.hid hI
  clear hI
  go_cut [19] (fun v wx => v = .bool I ∧ w8 = wx)
  case first =>
    by_cases i1 : s0 ≤ x.st
    · by_cases i2 : x.st ≤ s1
      · have hI : true = I := by rw [← HI.out, decide_eq_true i1, decide_eq_true i2]; rfl
        subst hI
        clear HA HB HC HI
        go_wp2_with fail
        go_meet
        exact ⟨rfl, rfl⟩
      · have hI : false = I := by rw [← HI.out, decide_eq_false i2, Bool.and_false]
        subst hI
        clear HA HB HC HI
        go_wp2_with fail
        go_meet
        exact ⟨rfl, rfl⟩
    · have hI : false = I := by rw [← HI.out, decide_eq_false i1, Bool.false_and]
      subst hI
      clear HA HB HC HI
      go_wp2_with fail
      go_meet
      exact ⟨rfl, rfl⟩
  case rest =>
    obtain ⟨rfl, rfl⟩ := hcut
    have hA1 := HA1.out
    have hB1 := HB1.out
    have hC1 := HC1.out
    have hA := HA.out
    have hB := HB.out
    have hC := HC.out
    rw [HI.out] at hB hC
    clear HA1 HB1 HC1 HA HB HC HI
    have t5 := HT5.out
    rw [t5] at hA
    obtain ⟨t1, t2⟩ : Op.bytesLess f k = true ∧ Op.bytesLess k f2 = true := by simpa using hA
    cases I with
    | true =>
      obtain ⟨u1, u2⟩ : Op.bytesLess a X = true ∧ Op.bytesLess X b = true := by simpa using hB
      cases u5 : (x.ho == x.sv) with
      | true =>
        rw [u5] at hC
        obtain ⟨u3, u4⟩ : Op.bytesLess c X = true ∧ Op.bytesLess X d = true := by simpa using hC
        try clear hA hB hC
        go_wp2_with fail
        refine (RK.out _).mono ?_
        rintro e9 w9 ⟨rfl, b9⟩
        have B := bt B b9
        have q1 := q1.later b9 q1.lt
        go_wp2_with fail
        refine (RX.out _).mono ?_
        rintro e10 w10 ⟨rfl, b10⟩
        have B := bt B b10
        have q1 := q1.later b10 q1.lt
        obtain ⟨_, _, _, z3, z4, _, _, _⟩ := q1.cell
        go_wp2_with fail
        refine (CD.out _).mono ?_
        rintro e11 w11 ⟨rfl, b11⟩
        have B := bt B b11
        go_wp2_with fail
        go_ret
        exact ⟨rfl, B⟩
      | false =>
        rw [u5] at hC
        cases u3 : Op.bytesLess c X with
        | true =>
          have u4 : Op.bytesLess X d = false := by rw [u3] at hC; simpa using hC
          try clear hA hB hC
          go_wp2_with fail
          refine (RK.out _).mono ?_
          rintro e9 w9 ⟨rfl, b9⟩
          have B := bt B b9
          have q1 := q1.later b9 q1.lt
          go_wp2_with fail
          refine (RX.out _).mono ?_
          rintro e10 w10 ⟨rfl, b10⟩
          have B := bt B b10
          have q1 := q1.later b10 q1.lt
          obtain ⟨_, _, _, z3, z4, _, _, _⟩ := q1.cell
          go_wp2_with fail
          refine (CD.out _).mono ?_
          rintro e11 w11 ⟨rfl, b11⟩
          have B := bt B b11
          go_wp2_with fail
          go_ret
          exact ⟨rfl, B⟩
        | false =>
          try clear hA hB hC
          go_wp2_with fail
          refine (RK.out _).mono ?_
          rintro e9 w9 ⟨rfl, b9⟩
          have B := bt B b9
          have q1 := q1.later b9 q1.lt
          go_wp2_with fail
          refine (RX.out _).mono ?_
          rintro e10 w10 ⟨rfl, b10⟩
          have B := bt B b10
          have q1 := q1.later b10 q1.lt
          obtain ⟨_, _, _, z3, z4, _, _, _⟩ := q1.cell
          go_wp2_with fail
          refine (CD.out _).mono ?_
          rintro e11 w11 ⟨rfl, b11⟩
          have B := bt B b11
          go_wp2_with fail
          go_ret
          exact ⟨rfl, B⟩
    | false =>
      cases u1 : Op.bytesLess a X with
      | true =>
        have u2 : Op.bytesLess X b = false := by rw [u1] at hB; simpa using hB
        cases u3 : Op.bytesLess c X with
        | true =>
          have u4 : Op.bytesLess X d = false := by rw [u3] at hC; simpa using hC
          try clear hA hB hC
          go_wp2_with fail
          refine (RK.out _).mono ?_
          rintro e9 w9 ⟨rfl, b9⟩
          have B := bt B b9
          have q1 := q1.later b9 q1.lt
          go_wp2_with fail
          refine (RX.out _).mono ?_
          rintro e10 w10 ⟨rfl, b10⟩
          have B := bt B b10
          have q1 := q1.later b10 q1.lt
          obtain ⟨_, _, _, z3, z4, _, _, _⟩ := q1.cell
          go_wp2_with fail
          refine (CD.out _).mono ?_
          rintro e11 w11 ⟨rfl, b11⟩
          have B := bt B b11
          go_wp2_with fail
          go_ret
          exact ⟨rfl, B⟩
        | false =>
          try clear hA hB hC
          go_wp2_with fail
          refine (RK.out _).mono ?_
          rintro e9 w9 ⟨rfl, b9⟩
          have B := bt B b9
          have q1 := q1.later b9 q1.lt
          go_wp2_with fail
          refine (RX.out _).mono ?_
          rintro e10 w10 ⟨rfl, b10⟩
          have B := bt B b10
          have q1 := q1.later b10 q1.lt
          obtain ⟨_, _, _, z3, z4, _, _, _⟩ := q1.cell
          go_wp2_with fail
          refine (CD.out _).mono ?_
          rintro e11 w11 ⟨rfl, b11⟩
          have B := bt B b11
          go_wp2_with fail
          go_ret
          exact ⟨rfl, B⟩
      | false =>
        cases u3 : Op.bytesLess c X with
        | true =>
          have u4 : Op.bytesLess X d = false := by rw [u3] at hC; simpa using hC
          try clear hA hB hC
          go_wp2_with fail
          refine (RK.out _).mono ?_
          rintro e9 w9 ⟨rfl, b9⟩
          have B := bt B b9
          have q1 := q1.later b9 q1.lt
          go_wp2_with fail
          refine (RX.out _).mono ?_
          rintro e10 w10 ⟨rfl, b10⟩
          have B := bt B b10
          have q1 := q1.later b10 q1.lt
          obtain ⟨_, _, _, z3, z4, _, _, _⟩ := q1.cell
          go_wp2_with fail
          refine (CD.out _).mono ?_
          rintro e11 w11 ⟨rfl, b11⟩
          have B := bt B b11
          go_wp2_with fail
          go_ret
          exact ⟨rfl, B⟩
        | false =>
          try clear hA hB hC
          go_wp2_with fail
          refine (RK.out _).mono ?_
          rintro e9 w9 ⟨rfl, b9⟩
          have B := bt B b9
          have q1 := q1.later b9 q1.lt
          go_wp2_with fail
          refine (RX.out _).mono ?_
          rintro e10 w10 ⟨rfl, b10⟩
          have B := bt B b10
          have q1 := q1.later b10 q1.lt
          obtain ⟨_, _, _, z3, z4, _, _, _⟩ := q1.cell
          go_wp2_with fail
          refine (CD.out _).mono ?_
          rintro e11 w11 ⟨rfl, b11⟩
          have B := bt B b11
          go_wp2_with fail
          go_ret
          exact ⟨rfl, B⟩
end Go.Proofs.Ytojenagpnkhgfaa
