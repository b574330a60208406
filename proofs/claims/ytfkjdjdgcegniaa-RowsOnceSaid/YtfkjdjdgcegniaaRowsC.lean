/- The walks on one cell: the span that it has, whether it says nothing any more. -/
import Derived.Test.YtfkjdjdgcegniaaRowsB
namespace Go.Proofs.Ytfkjdjdgcegniaa
set_option maxRecDepth 16000
open Go.RowKit Spoor
set_option linter.unusedVariables false

theorem decode_list (t : List UInt8) (w : World) (h : t.length ≤ 140737488351232) : Calls Try.prog 33 #[.string ⟨t.toArray⟩] w fun e w' => e = .returned (decodeV (decodeSp t)) ∧ Below w.heap.size w w' :=
  decode_any ⟨t.toArray⟩ w (by show t.toArray.size ≤ _; simpa using h)
theorem refDecode_list (t : List UInt8) (w : World) (h : t.length ≤ 140737488351232) : Calls Try.prog 34 #[.string ⟨t.toArray⟩] w fun e w' => e = .returned (decodeV (decodeSp t)) ∧ Below w.heap.size w w' :=
  refDecode_any ⟨t.toArray⟩ w (by show t.toArray.size ≤ _; simpa using h)
def spanV : Option Sp → Value
  | none => .tuple #[spVal Sp.zero, .bool false]
  | some x => .tuple #[spVal x, .bool true]
def boxX (x : Sp) : Obj := .cells #[.int .i64 x.tr, .int .i64 x.id, .int .i64 x.pa, .string ⟨x.sv.toArray⟩, .string ⟨x.ho.toArray⟩, .int .i64 x.st, .int .i64 x.du, .string ⟨x.no.toArray⟩] 23
theorem new_two (c : Ce) (w : World) : CeAt w.heap.size c ((w.alloc (boxC c)).alloc (boxX Sp.zero)) ∧ SpAt (w.heap.size + 1) Sp.zero ((w.alloc (boxC c)).alloc (boxX Sp.zero)) ∧ Below w.heap.size w ((w.alloc (boxC c)).alloc (boxX Sp.zero)) := by
  refine ⟨(CeAt.boxed c w).alloc' _, ?_, ((Below.refl _ _).alloc (Nat.le_refl _) _).alloc (by simp) _⟩
  have := SpAt.boxed Sp.zero (w.alloc (boxC c))
  rwa [alloc_size] at this
set_option maxHeartbeats 1000000 in
theorem span_any (c : Ce) (w : World) (hf : FitsC c) : Calls Try.prog 13 #[ceVal c] w fun e w' => e = .returned (spanV (spanR c)) ∧ Below w.heap.size w w' := by
  obtain ⟨q0, q1, b0⟩ := new_two c w
  have cd := fun W => decode_list c.v W hf.2.1
  obtain ⟨R, hR⟩ : ∃ R, spanV (spanR c) = R := ⟨_, rfl⟩
  rw [hR]
  have HR := Lib.hid hR
  clear hR
  cases hd : decodeSp c.v with
  | none =>
    have hs : spanR c = none := by unfold spanR; rw [hd]
    rw [hd] at cd
    have CD := Lib.hid cd
    have HS := Lib.hid hs
    obtain ⟨k0, k1, k2⟩ := q0.cell
    have Q1 := Lib.hid q1
    have B := Lib.hid b0
    clear cd hd hs q0 q1 b0 hf
    unfold decodeV spVal at CD
    unfold boxC boxX Sp.zero at *
    unfold ceVal
    go_enter Try.func13, Try.ntmps13
    go_wp2_with fail
    refine (CD.out _).mono ?_
    rintro e w1 ⟨rfl, b1⟩
    have hat : SpAt (w.heap.size + 1) Sp.zero w1 := Q1.out.later b1 Q1.out.lt
    have hlt := hat.lt
    obtain ⟨c0, c1, c2, c3, c4, c5, c6, c7⟩ := hat.cell
    obtain ⟨f0, f1, f2, f3, f4, f5, f6, f7⟩ := hat.frees
    have B := Lib.hid (btP B.out b1)
    clear b1 hat k0 k1 k2 Q1
    go_wp2_with fail
    refine bodyPost_ret (v := R) ?_ rfl ⟨rfl, ?_⟩
    · rw [← HR.out, HS.out]
      simp [results, spanV, spVal, Sp.zero, Try.results13, go_sem, *]
    · exact (below_set8 B.out (Nat.le_succ _) _ _ _ _ _ _ _ _).alloc (by simp; exact B.out.size) _
  | some x =>
    have hx : x.ok = true := (decodeSp_some hd).1
    have co := fun W => of_any x.tr x.id W
    rw [ofKey_ok hx] at co
    unfold errV at co
    rw [hd] at cd
    have CD := Lib.hid cd
    have CO := Lib.hid co
    have Q0 := Lib.hid q0
    obtain ⟨k0, k1, k2⟩ := q0.cell
    have Q1 := Lib.hid q1
    have B := Lib.hid b0
    have hs : spanR c = if sKey x.tr x.id = c.k then some x else none := by unfold spanR; rw [hd]
    have HS := Lib.hid hs
    clear cd hd hs co q0 q1 b0 hf hx
    generalize sKey x.tr x.id = K at *
    unfold decodeV spVal at CD
    unfold boxC boxX Sp.zero at *
    unfold ceVal
    by_cases hk : K = c.k
    · skip
      have HK := Lib.hid hk
      subst hk
      go_enter Try.func13, Try.ntmps13
      go_wp2_with fail
      refine (CD.out _).mono ?_
      rintro e w1 ⟨rfl, b1⟩
      have Q1 := Lib.hid (SpAt.later Q1.out b1 (SpAt.lt Q1.out))
      have Q0 := Lib.hid (CeAt.later Q0.out b1 (CeAt.lt Q0.out))
      have B := Lib.hid (btP B.out b1)
      have qx := SpAt.boxed x w1
      have bx := spBox x w1
      have Q1 := Lib.hid (SpAt.later Q1.out bx (SpAt.lt Q1.out))
      have Q0 := Lib.hid (CeAt.later Q0.out bx (CeAt.lt Q0.out))
      have B := Lib.hid (btP B.out bx)
      have QX := Lib.hid qx
      obtain ⟨d0, d1, d2, d3, d4, d5, d6, d7⟩ := qx.cell
      clear b1 bx qx k0 k1 k2
      go_wp2_with fail
      refine (CO.out _).mono ?_
      rintro e w2 ⟨rfl, b2⟩
      have hat : SpAt (w.heap.size + 1) Sp.zero w2 := SpAt.later Q1.out b2 (SpAt.lt Q1.out)
      have hc : CeAt w.heap.size c w2 := CeAt.later Q0.out b2 (CeAt.lt Q0.out)
      have hxx : SpAt w1.heap.size x w2 := SpAt.later QX.out b2 (SpAt.lt QX.out)
      have hlt := hat.lt
      obtain ⟨c0, c1, c2, c3, c4, c5, c6, c7⟩ := hat.cell
      obtain ⟨f0, f1, f2, f3, f4, f5, f6, f7⟩ := hat.frees
      obtain ⟨k0, k1, k2⟩ := hc.cell
      have B := Lib.hid (btP B.out b2)
      clear d0 d1 d2 d3 d4 d5 d6 d7
      obtain ⟨d0, d1, d2, d3, d4, d5, d6, d7⟩ := hxx.cell
      clear b2 hat hc hxx Q0 Q1 QX
      go_wp2_with fail
      refine bodyPost_ret (v := R) ?_ rfl ⟨rfl, ?_⟩
      · rw [← HR.out, HS.out, if_pos HK.out]
        simp [results, spanV, spVal, Sp.zero, Try.results13, go_sem, *]
      · exact below_set8 B.out (Nat.le_succ _) _ _ _ _ _ _ _ _
    · skip
      have HK := Lib.hid hk
      have hkb : (K == c.k) = false := beq_eq_false_iff_ne.2 hk
      go_enter Try.func13, Try.ntmps13
      go_wp2_with fail
      refine (CD.out _).mono ?_
      rintro e w1 ⟨rfl, b1⟩
      have Q1 := Lib.hid (SpAt.later Q1.out b1 (SpAt.lt Q1.out))
      have Q0 := Lib.hid (CeAt.later Q0.out b1 (CeAt.lt Q0.out))
      have B := Lib.hid (btP B.out b1)
      have qx := SpAt.boxed x w1
      have bx := spBox x w1
      have Q1 := Lib.hid (SpAt.later Q1.out bx (SpAt.lt Q1.out))
      have Q0 := Lib.hid (CeAt.later Q0.out bx (CeAt.lt Q0.out))
      have B := Lib.hid (btP B.out bx)
      have QX := Lib.hid qx
      obtain ⟨d0, d1, d2, d3, d4, d5, d6, d7⟩ := qx.cell
      clear b1 bx qx k0 k1 k2
      go_wp2_with fail
      refine (CO.out _).mono ?_
      rintro e w2 ⟨rfl, b2⟩
      have hat : SpAt (w.heap.size + 1) Sp.zero w2 := SpAt.later Q1.out b2 (SpAt.lt Q1.out)
      have hc : CeAt w.heap.size c w2 := CeAt.later Q0.out b2 (CeAt.lt Q0.out)
      have hxx : SpAt w1.heap.size x w2 := SpAt.later QX.out b2 (SpAt.lt QX.out)
      have hlt := hat.lt
      obtain ⟨c0, c1, c2, c3, c4, c5, c6, c7⟩ := hat.cell
      obtain ⟨f0, f1, f2, f3, f4, f5, f6, f7⟩ := hat.frees
      obtain ⟨k0, k1, k2⟩ := hc.cell
      have B := Lib.hid (btP B.out b2)
      clear d0 d1 d2 d3 d4 d5 d6 d7
      obtain ⟨d0, d1, d2, d3, d4, d5, d6, d7⟩ := hxx.cell
      clear b2 hat hc hxx Q0 Q1 QX
      go_wp2_with fail
      refine bodyPost_ret (v := R) ?_ rfl ⟨rfl, ?_⟩
      · rw [← HR.out, HS.out, if_neg HK.out]
        simp [results, spanV, spVal, Sp.zero, Try.results13, go_sem, *]
      · exact below_set8 B.out (Nat.le_succ _) _ _ _ _ _ _ _ _
set_option maxHeartbeats 1000000 in
theorem refSpan_any (c : Ce) (w : World) (hf : FitsC c) : Calls Try.prog 14 #[ceVal c] w fun e w' => e = .returned (spanV (spanR c)) ∧ Below w.heap.size w w' := by
  obtain ⟨q0, q1, b0⟩ := new_two c w
  have cd := fun W => refDecode_list c.v W hf.2.1
  obtain ⟨R, hR⟩ : ∃ R, spanV (spanR c) = R := ⟨_, rfl⟩
  rw [hR]
  have HR := Lib.hid hR
  clear hR
  cases hd : decodeSp c.v with
  | none =>
    have hs : spanR c = none := by unfold spanR; rw [hd]
    rw [hd] at cd
    have CD := Lib.hid cd
    have HS := Lib.hid hs
    obtain ⟨k0, k1, k2⟩ := q0.cell
    have Q1 := Lib.hid q1
    have B := Lib.hid b0
    clear cd hd hs q0 q1 b0 hf
    unfold decodeV spVal at CD
    unfold boxC boxX Sp.zero at *
    unfold ceVal
    go_enter Try.func14, Try.ntmps14
    go_wp2_with fail
    refine (CD.out _).mono ?_
    rintro e w1 ⟨rfl, b1⟩
    have hat : SpAt (w.heap.size + 1) Sp.zero w1 := Q1.out.later b1 Q1.out.lt
    have hlt := hat.lt
    obtain ⟨c0, c1, c2, c3, c4, c5, c6, c7⟩ := hat.cell
    obtain ⟨f0, f1, f2, f3, f4, f5, f6, f7⟩ := hat.frees
    have B := Lib.hid (btP B.out b1)
    clear b1 hat k0 k1 k2 Q1
    go_wp2_with fail
    refine bodyPost_ret (v := R) ?_ rfl ⟨rfl, ?_⟩
    · rw [← HR.out, HS.out]
      simp [results, spanV, spVal, Sp.zero, Try.results14, go_sem, *]
    · exact (below_set8 B.out (Nat.le_succ _) _ _ _ _ _ _ _ _).alloc (by simp; exact B.out.size) _
  | some x =>
    have hx : x.ok = true := (decodeSp_some hd).1
    have co := fun W => refOf_any x.tr x.id W
    rw [ofKey_ok hx] at co
    unfold errV at co
    rw [hd] at cd
    have CD := Lib.hid cd
    have CO := Lib.hid co
    have Q0 := Lib.hid q0
    obtain ⟨k0, k1, k2⟩ := q0.cell
    have Q1 := Lib.hid q1
    have B := Lib.hid b0
    have hs : spanR c = if sKey x.tr x.id = c.k then some x else none := by unfold spanR; rw [hd]
    have HS := Lib.hid hs
    clear cd hd hs co q0 q1 b0 hf hx
    generalize sKey x.tr x.id = K at *
    unfold decodeV spVal at CD
    unfold boxC boxX Sp.zero at *
    unfold ceVal
    by_cases hk : K = c.k
    · skip
      have HK := Lib.hid hk
      subst hk
      go_enter Try.func14, Try.ntmps14
      go_wp2_with fail
      refine (CD.out _).mono ?_
      rintro e w1 ⟨rfl, b1⟩
      have Q1 := Lib.hid (SpAt.later Q1.out b1 (SpAt.lt Q1.out))
      have Q0 := Lib.hid (CeAt.later Q0.out b1 (CeAt.lt Q0.out))
      have B := Lib.hid (btP B.out b1)
      have qx := SpAt.boxed x w1
      have bx := spBox x w1
      have Q1 := Lib.hid (SpAt.later Q1.out bx (SpAt.lt Q1.out))
      have Q0 := Lib.hid (CeAt.later Q0.out bx (CeAt.lt Q0.out))
      have B := Lib.hid (btP B.out bx)
      have QX := Lib.hid qx
      obtain ⟨d0, d1, d2, d3, d4, d5, d6, d7⟩ := qx.cell
      clear b1 bx qx k0 k1 k2
      go_wp2_with fail
      refine (CO.out _).mono ?_
      rintro e w2 ⟨rfl, b2⟩
      have hat : SpAt (w.heap.size + 1) Sp.zero w2 := SpAt.later Q1.out b2 (SpAt.lt Q1.out)
      have hc : CeAt w.heap.size c w2 := CeAt.later Q0.out b2 (CeAt.lt Q0.out)
      have hxx : SpAt w1.heap.size x w2 := SpAt.later QX.out b2 (SpAt.lt QX.out)
      have hlt := hat.lt
      obtain ⟨c0, c1, c2, c3, c4, c5, c6, c7⟩ := hat.cell
      obtain ⟨f0, f1, f2, f3, f4, f5, f6, f7⟩ := hat.frees
      obtain ⟨k0, k1, k2⟩ := hc.cell
      have B := Lib.hid (btP B.out b2)
      clear d0 d1 d2 d3 d4 d5 d6 d7
      obtain ⟨d0, d1, d2, d3, d4, d5, d6, d7⟩ := hxx.cell
      clear b2 hat hc hxx Q0 Q1 QX
      go_wp2_with fail
      refine bodyPost_ret (v := R) ?_ rfl ⟨rfl, ?_⟩
      · rw [← HR.out, HS.out, if_pos HK.out]
        simp [results, spanV, spVal, Sp.zero, Try.results14, go_sem, *]
      · exact below_set8 B.out (Nat.le_succ _) _ _ _ _ _ _ _ _
    · skip
      have HK := Lib.hid hk
      have hkb : (K == c.k) = false := beq_eq_false_iff_ne.2 hk
      go_enter Try.func14, Try.ntmps14
      go_wp2_with fail
      refine (CD.out _).mono ?_
      rintro e w1 ⟨rfl, b1⟩
      have Q1 := Lib.hid (SpAt.later Q1.out b1 (SpAt.lt Q1.out))
      have Q0 := Lib.hid (CeAt.later Q0.out b1 (CeAt.lt Q0.out))
      have B := Lib.hid (btP B.out b1)
      have qx := SpAt.boxed x w1
      have bx := spBox x w1
      have Q1 := Lib.hid (SpAt.later Q1.out bx (SpAt.lt Q1.out))
      have Q0 := Lib.hid (CeAt.later Q0.out bx (CeAt.lt Q0.out))
      have B := Lib.hid (btP B.out bx)
      have QX := Lib.hid qx
      obtain ⟨d0, d1, d2, d3, d4, d5, d6, d7⟩ := qx.cell
      clear b1 bx qx k0 k1 k2
      go_wp2_with fail
      refine (CO.out _).mono ?_
      rintro e w2 ⟨rfl, b2⟩
      have hat : SpAt (w.heap.size + 1) Sp.zero w2 := SpAt.later Q1.out b2 (SpAt.lt Q1.out)
      have hc : CeAt w.heap.size c w2 := CeAt.later Q0.out b2 (CeAt.lt Q0.out)
      have hxx : SpAt w1.heap.size x w2 := SpAt.later QX.out b2 (SpAt.lt QX.out)
      have hlt := hat.lt
      obtain ⟨c0, c1, c2, c3, c4, c5, c6, c7⟩ := hat.cell
      obtain ⟨f0, f1, f2, f3, f4, f5, f6, f7⟩ := hat.frees
      obtain ⟨k0, k1, k2⟩ := hc.cell
      have B := Lib.hid (btP B.out b2)
      clear d0 d1 d2 d3 d4 d5 d6 d7
      obtain ⟨d0, d1, d2, d3, d4, d5, d6, d7⟩ := hxx.cell
      clear b2 hat hc hxx Q0 Q1 QX
      go_wp2_with fail
      refine bodyPost_ret (v := R) ?_ rfl ⟨rfl, ?_⟩
      · rw [← HR.out, HS.out, if_neg HK.out]
        simp [results, spanV, spVal, Sp.zero, Try.results14, go_sem, *]
      · exact below_set8 B.out (Nat.le_succ _) _ _ _ _ _ _ _ _
theorem spanR_st {c : Ce} {x : Sp} (h : spanR c = some x) : I64 x.st := by
  have := ok_of (spanR_some h).1
  unfold I64
  omega
theorem parseK_st {l : List UInt8} {p : KP} (h : parseK l = some p) (hk : p.kind = 120) : I64 p.st := by
  have h1 := (parseK_some h).1
  unfold KP.key at h1
  split at h1
  · rename_i hl
    unfold KP.like at hl
    rw [hk, if_neg (by decide)] at hl
    have := ok_of hl
    unfold I64
    simp only at this
    omega
  · cases h1
end Go.Proofs.Ytfkjdjdgcegniaa
