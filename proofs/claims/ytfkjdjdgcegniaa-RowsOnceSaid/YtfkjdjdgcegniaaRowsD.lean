/- The walks on one cell: whether it says nothing any more. -/
import Derived.Test.YtfkjdjdgcegniaaRowsC
namespace Go.Proofs.Ytfkjdjdgcegniaa
set_option maxRecDepth 16000
open Go.RowKit Spoor
set_option linter.unusedVariables false

set_option maxHeartbeats 1000000 in
theorem dropped_any (c : Ce) (now : Int) (w : World) (hf : FitsC c) (hn : I64 now) : Calls Try.prog 17 #[ceVal c, .int .i64 now] w fun e w' => e = .returned (.bool (dropR c now)) ∧ Below w.heap.size w w' := by
  have q0 := CeAt.boxed c w
  have b0 := (Below.refl w.heap.size w).alloc (Nat.le_refl _) (boxC c)
  have cd := fun W => span_any c W hf
  cases hs : spanR c with
  | some x =>
    have hr : dropR c now = lateB x.st now := by unfold dropR; rw [hs]
    rw [hr]
    rw [hs] at cd
    have ce := fun W => expired_any x now W (spanR_st hs) hn
    have CD := Lib.hid cd
    have CE := Lib.hid ce
    obtain ⟨k0, k1, k2⟩ := q0.cell
    have B := Lib.hid b0
    clear cd ce hs hr q0 b0 hf hn
    generalize lateB x.st now = R at *
    unfold spanV spVal at CD
    unfold spVal at CE
    unfold boxC at *
    unfold ceVal at *
    go_enter Try.func17, Try.ntmps17
    go_wp2_with fail
    refine (CD.out _).mono ?_
    rintro e w1 ⟨rfl, b1⟩
    have qx := SpAt.boxed x w1
    have B := Lib.hid (btP (btP B.out b1) (spBox x w1))
    obtain ⟨d0, d1, d2, d3, d4, d5, d6, d7⟩ := qx.cell
    clear b1 qx k0 k1 k2
    go_wp2_with fail
    refine (CE.out _).mono ?_
    rintro e w2 ⟨rfl, b2⟩
    go_wp2_with fail
    go_ret
    exact ⟨rfl, btP B.out b2⟩
  | none =>
    rw [hs] at cd
    have cp := fun W => parse_any c.k hf.1 W
    have CD := Lib.hid cd
    obtain ⟨k0, k1, k2⟩ := q0.cell
    have Q0 := Lib.hid q0
    have B := Lib.hid b0
    unfold spanV spVal at CD
    unfold boxC at *
    unfold ceVal at *
    cases hp : parseK c.k with
    | none =>
      have hr : dropR c now = false := by unfold dropR; rw [hs, hp]
      rw [hr]
      rw [hp] at cp
      unfold parseV kpVal at cp
      have CP := Lib.hid cp
      clear cd cp hs hr q0 b0 hf hp hn
      go_enter Try.func17, Try.ntmps17
      go_wp2_with fail
      refine (CD.out _).mono ?_
      rintro e w1 ⟨rfl, b1⟩
      have Q0 := Lib.hid (CeAt.later (CeAt.later Q0.out b1 (CeAt.lt Q0.out)) (spBox Sp.zero w1) (Nat.lt_of_lt_of_le (CeAt.lt Q0.out) b1.size))
      have B := Lib.hid (btP (btP B.out b1) (spBox Sp.zero w1))
      clear b1 k0 k1 k2
      obtain ⟨k0, k1, k2⟩ := CeAt.cell Q0.out
      go_wp2_with fail
      refine (CP.out _).mono ?_
      rintro e w2 ⟨rfl, b2⟩
      have B := Lib.hid (btP B.out b2)
      have B := Lib.hid (B.out.alloc B.out.size (boxK KP.zero))
      unfold boxK at B
      clear b2 k0 k1 k2
      go_wp2_with fail
      go_ret
      exact ⟨rfl, B.out⟩
    | some p =>
      have hr : dropR c now = (decide (p.kind = 120) && lateB p.st now) := by unfold dropR; rw [hs, hp]
      rw [hr]
      rw [hp] at cp
      unfold parseV kpVal at cp
      have CP := Lib.hid cp
      have PS := Lib.hid (parseK_st hp)
      clear cd cp hs hr q0 b0 hf hp
      by_cases hk : p.kind = 120
      · have cl := fun W => late_any p.st now W (PS.out hk) hn
        have CL := Lib.hid cl
        clear cl PS hn
        rw [decide_eq_true hk, Bool.true_and]
        obtain ⟨pk, ptr, pid, pst, psv, pho⟩ := p
        simp only at hk
        subst hk
        dsimp only at *
        skip
        generalize lateB pst now = R at *
        go_enter Try.func17, Try.ntmps17
        go_wp2_with fail
        refine (CD.out _).mono ?_
        rintro e w1 ⟨rfl, b1⟩
        have Q0 := Lib.hid (CeAt.later (CeAt.later Q0.out b1 (CeAt.lt Q0.out)) (spBox Sp.zero w1) (Nat.lt_of_lt_of_le (CeAt.lt Q0.out) b1.size))
        have B := Lib.hid (btP (btP B.out b1) (spBox Sp.zero w1))
        clear b1 k0 k1 k2
        obtain ⟨k0, k1, k2⟩ := CeAt.cell Q0.out
        go_wp2_with fail
        refine (CP.out _).mono ?_
        rintro e w2 ⟨rfl, b2⟩
        have B := Lib.hid (btP B.out b2)
        have B := Lib.hid (B.out.alloc B.out.size (boxK ⟨120, ptr, pid, pst, psv, pho⟩))
        have qp := PtAt.boxed ⟨120, ptr, pid, pst, psv, pho⟩ w2
        obtain ⟨p0, p1, p2, p3, p4, p5⟩ := qp.cell
        unfold boxK at *
        clear b2 k0 k1 k2 qp
        go_wp2_with fail
        refine (CL.out _).mono ?_
        rintro e w3 ⟨rfl, rfl⟩
        go_wp2_with fail
        go_ret
        exact ⟨rfl, B.out⟩
      · rw [decide_eq_false hk, Bool.false_and]
        have hkb : ((p.kind : Int) == 120) = false := by rw [beq_eq_false_iff_ne]; omega
        clear PS hn hk
        go_enter Try.func17, Try.ntmps17
        go_wp2_with fail
        refine (CD.out _).mono ?_
        rintro e w1 ⟨rfl, b1⟩
        have Q0 := Lib.hid (CeAt.later (CeAt.later Q0.out b1 (CeAt.lt Q0.out)) (spBox Sp.zero w1) (Nat.lt_of_lt_of_le (CeAt.lt Q0.out) b1.size))
        have B := Lib.hid (btP (btP B.out b1) (spBox Sp.zero w1))
        clear b1 k0 k1 k2
        obtain ⟨k0, k1, k2⟩ := CeAt.cell Q0.out
        go_wp2_with fail
        refine (CP.out _).mono ?_
        rintro e w2 ⟨rfl, b2⟩
        have B := Lib.hid (btP B.out b2)
        have B := Lib.hid (B.out.alloc B.out.size (boxK p))
        have qp := PtAt.boxed p w2
        obtain ⟨p0, p1, p2, p3, p4, p5⟩ := qp.cell
        unfold boxK at *
        clear b2 k0 k1 k2 qp
        go_wp2_with fail
        go_ret
        exact ⟨rfl, B.out⟩
set_option maxHeartbeats 1000000 in
theorem refDropped_any (c : Ce) (now : Int) (w : World) (hf : FitsC c) (hn : I64 now) : Calls Try.prog 18 #[ceVal c, .int .i64 now] w fun e w' => e = .returned (.bool (dropR c now)) ∧ Below w.heap.size w w' := by
  have q0 := CeAt.boxed c w
  have b0 := (Below.refl w.heap.size w).alloc (Nat.le_refl _) (boxC c)
  have cd := fun W => refSpan_any c W hf
  cases hs : spanR c with
  | some x =>
    have hr : dropR c now = lateB x.st now := by unfold dropR; rw [hs]
    rw [hr]
    rw [hs] at cd
    have ce := fun W => refExpired_any x now W (spanR_st hs) hn
    have CD := Lib.hid cd
    have CE := Lib.hid ce
    obtain ⟨k0, k1, k2⟩ := q0.cell
    have B := Lib.hid b0
    clear cd ce hs hr q0 b0 hf hn
    generalize lateB x.st now = R at *
    unfold spanV spVal at CD
    unfold spVal at CE
    unfold boxC at *
    unfold ceVal at *
    go_enter Try.func18, Try.ntmps18
    go_wp2_with fail
    refine (CD.out _).mono ?_
    rintro e w1 ⟨rfl, b1⟩
    have qx := SpAt.boxed x w1
    have B := Lib.hid (btP (btP B.out b1) (spBox x w1))
    obtain ⟨d0, d1, d2, d3, d4, d5, d6, d7⟩ := qx.cell
    clear b1 qx k0 k1 k2
    go_wp2_with fail
    refine (CE.out _).mono ?_
    rintro e w2 ⟨rfl, b2⟩
    go_wp2_with fail
    go_ret
    exact ⟨rfl, btP B.out b2⟩
  | none =>
    rw [hs] at cd
    have cp := fun W => refParse_any c.k hf.1 W
    have CD := Lib.hid cd
    obtain ⟨k0, k1, k2⟩ := q0.cell
    have Q0 := Lib.hid q0
    have B := Lib.hid b0
    unfold spanV spVal at CD
    unfold boxC at *
    unfold ceVal at *
    cases hp : parseK c.k with
    | none =>
      have hr : dropR c now = false := by unfold dropR; rw [hs, hp]
      rw [hr]
      rw [hp] at cp
      unfold parseV kpVal at cp
      have CP := Lib.hid cp
      clear cd cp hs hr q0 b0 hf hp hn
      go_enter Try.func18, Try.ntmps18
      go_wp2_with fail
      refine (CD.out _).mono ?_
      rintro e w1 ⟨rfl, b1⟩
      have Q0 := Lib.hid (CeAt.later (CeAt.later Q0.out b1 (CeAt.lt Q0.out)) (spBox Sp.zero w1) (Nat.lt_of_lt_of_le (CeAt.lt Q0.out) b1.size))
      have B := Lib.hid (btP (btP B.out b1) (spBox Sp.zero w1))
      clear b1 k0 k1 k2
      obtain ⟨k0, k1, k2⟩ := CeAt.cell Q0.out
      go_wp2_with fail
      refine (CP.out _).mono ?_
      rintro e w2 ⟨rfl, b2⟩
      have B := Lib.hid (btP B.out b2)
      have B := Lib.hid (B.out.alloc B.out.size (boxR KP.zero))
      unfold boxR at B
      clear b2 k0 k1 k2
      go_wp2_with fail
      go_ret
      exact ⟨rfl, B.out⟩
    | some p =>
      have hr : dropR c now = (decide (p.kind = 120) && lateB p.st now) := by unfold dropR; rw [hs, hp]
      rw [hr]
      rw [hp] at cp
      unfold parseV kpVal at cp
      have CP := Lib.hid cp
      have PS := Lib.hid (parseK_st hp)
      clear cd cp hs hr q0 b0 hf hp
      by_cases hk : p.kind = 120
      · have cl := fun W => refExpired_any ⟨0, 0, 0, [], [], p.st, 0, []⟩ now W (PS.out hk) hn
        have CL := Lib.hid cl
        clear cl PS hn
        rw [decide_eq_true hk, Bool.true_and]
        obtain ⟨pk, ptr, pid, pst, psv, pho⟩ := p
        simp only at hk
        subst hk
        dsimp only at *
        unfold spVal at CL
        generalize lateB pst now = R at *
        go_enter Try.func18, Try.ntmps18
        go_wp2_with fail
        refine (CD.out _).mono ?_
        rintro e w1 ⟨rfl, b1⟩
        have Q0 := Lib.hid (CeAt.later (CeAt.later Q0.out b1 (CeAt.lt Q0.out)) (spBox Sp.zero w1) (Nat.lt_of_lt_of_le (CeAt.lt Q0.out) b1.size))
        have B := Lib.hid (btP (btP B.out b1) (spBox Sp.zero w1))
        clear b1 k0 k1 k2
        obtain ⟨k0, k1, k2⟩ := CeAt.cell Q0.out
        go_wp2_with fail
        refine (CP.out _).mono ?_
        rintro e w2 ⟨rfl, b2⟩
        have B := Lib.hid (btP B.out b2)
        have B := Lib.hid (B.out.alloc B.out.size (boxR ⟨120, ptr, pid, pst, psv, pho⟩))
        have qp := RtAt.boxed ⟨120, ptr, pid, pst, psv, pho⟩ w2
        obtain ⟨p0, p1, p2, p3, p4, p5⟩ := qp.cell
        unfold boxR at *
        clear b2 k0 k1 k2 qp
        go_wp2_with fail
        refine (CL.out _).mono ?_
        rintro e w3 ⟨rfl, b3⟩
        go_wp2_with fail
        go_ret
        exact ⟨rfl, btP B.out b3⟩
      · rw [decide_eq_false hk, Bool.false_and]
        have hkb : ((p.kind : Int) == 120) = false := by rw [beq_eq_false_iff_ne]; omega
        clear PS hn hk
        go_enter Try.func18, Try.ntmps18
        go_wp2_with fail
        refine (CD.out _).mono ?_
        rintro e w1 ⟨rfl, b1⟩
        have Q0 := Lib.hid (CeAt.later (CeAt.later Q0.out b1 (CeAt.lt Q0.out)) (spBox Sp.zero w1) (Nat.lt_of_lt_of_le (CeAt.lt Q0.out) b1.size))
        have B := Lib.hid (btP (btP B.out b1) (spBox Sp.zero w1))
        clear b1 k0 k1 k2
        obtain ⟨k0, k1, k2⟩ := CeAt.cell Q0.out
        go_wp2_with fail
        refine (CP.out _).mono ?_
        rintro e w2 ⟨rfl, b2⟩
        have B := Lib.hid (btP B.out b2)
        have B := Lib.hid (B.out.alloc B.out.size (boxR p))
        have qp := RtAt.boxed p w2
        obtain ⟨p0, p1, p2, p3, p4, p5⟩ := qp.cell
        unfold boxR at *
        clear b2 k0 k1 k2 qp
        go_wp2_with fail
        go_ret
        exact ⟨rfl, B.out⟩
end Go.Proofs.Ytfkjdjdgcegniaa
