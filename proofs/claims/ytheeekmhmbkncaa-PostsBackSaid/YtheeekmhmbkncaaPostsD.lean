/- The walks on the document's acks. -/
import Derived.Test.YtheeekmhmbkncaaPostsC
namespace Go.Proofs.Ytheeekmhmbkncaa
open Go.RowKit Spoor

set_option maxHeartbeats 4000000 in
theorem refEncodeAck_any (a : Ak) (w : World) :
    Calls Try.prog 13 #[akVal a] w fun e w' => e = .returned (encAkV a) ∧ Below w.heap.size w w' := by
  have c1 := fun W => number_any a.ho a.fi W
  have b0 := (Below.refl w.heap.size w).alloc (Nat.le_refl _) (boxA a)
  unfold encAkV akVal
  unfold boxA at b0
  have hok : a.ok = (hoOk a.ho && (reOk a.fi && (decide (a.fi ≤ a.ne) && reOk a.ne))) := rfl
  cases h1 : (hoOk a.ho && reOk a.fi) with
  | false =>
    have hno : a.ok = false := by rw [hok, ← Bool.and_assoc, h1, Bool.false_and]
    rw [hno]
    rw [h1] at c1
    simp only [Bool.false_eq_true, if_false]
    have C1 := Lib.hid c1
    clear c1 hok h1 hno
    go_enter Try.func13, Try.ntmps13
    go_wp2_with fail
    refine (C1.out _).mono ?_
    rintro e w1 ⟨rfl, rfl⟩
    go_wp2_with fail
    go_ret2
    exact ⟨rfl, b0⟩
  | true =>
    rw [h1] at c1
    by_cases h3 : a.ne < a.fi
    · have hno : a.ok = false := by rw [hok, ← Bool.and_assoc, h1, decide_eq_false (by omega : ¬ a.fi ≤ a.ne)]; rfl
      rw [hno]
      simp only [Bool.false_eq_true, if_false]
      have C1 := Lib.hid c1
      clear c1 hok h1 hno
      go_enter Try.func13, Try.ntmps13
      go_wp2_with fail
      refine (C1.out _).mono ?_
      rintro e w1 ⟨rfl, rfl⟩
      go_wp2_with fail
      go_ret2
      exact ⟨rfl, b0⟩
    · have e3 := decide_eq_false h3
      by_cases h4 : a.ne ≤ 2147483647
      · have h12 := h1
        simp only [Bool.and_eq_true, hoOk, reOk, decide_eq_true_eq] at h12
        have hok2 : a.ok = true := by rw [hok, ← Bool.and_assoc, h1, decide_eq_true (by omega : a.fi ≤ a.ne)]; simp [reOk]; omega
        obtain ⟨k1, k2, k3, k4, k5, k6⟩ := okAck hok2
        rw [hok2]
        simp only [if_true]
        have C1 := Lib.hid c1
        have P1 : Hid (∀ W, Calls Try.prog 27 #[.int .i64 a.ho] W fun e w' => e = .returned (.string ⟨(put a.ho.toNat).toArray⟩) ∧ Below W.heap.size W w') := Lib.hid (fun W => by
          have := refPut_nat a.ho.toNat W (by omega)
          rwa [show ((a.ho.toNat : Nat) : Int) = a.ho by omega] at this)
        have P2 : Hid (∀ W, Calls Try.prog 27 #[.int .i64 a.fi] W fun e w' => e = .returned (.string ⟨(put a.fi.toNat).toArray⟩) ∧ Below W.heap.size W w') := Lib.hid (fun W => by
          have := refPut_nat a.fi.toNat W (by omega)
          rwa [show ((a.fi.toNat : Nat) : Int) = a.fi by omega] at this)
        have P3 : Hid (∀ W, Calls Try.prog 27 #[.int .i64 (a.ne - a.fi)] W fun e w' => e = .returned (.string ⟨(put (a.ne - a.fi).toNat).toArray⟩) ∧ Below W.heap.size W w') := Lib.hid (fun W => by
          have := refPut_nat (a.ne - a.fi).toNat W (by omega)
          rwa [show (((a.ne - a.fi).toNat : Nat) : Int) = a.ne - a.fi by omega] at this)
        have hbytes : a.bytes = [65] ++ put a.ho.toNat ++ put a.fi.toNat ++ put (a.ne - a.fi).toNat := by simp [Ak.bytes, putN]
        have L1 := put_length9 a.ho.toNat (by omega)
        have L2 := put_length9 a.fi.toNat (by omega)
        have L3 := put_length9 (a.ne - a.fi).toNat (by omega)
        generalize put a.ho.toNat = A at *
        generalize put a.fi.toNat = B at *
        generalize put (a.ne - a.fi).toNat = C at *
        have HB := Lib.hid hbytes
        clear c1 hok h1 hok2 h12 hbytes
        go_enter Try.func13, Try.ntmps13
        go_wp2_with fail
        refine (C1.out _).mono ?_
        rintro e w1 ⟨rfl, rfl⟩
        go_wp2_with fail
        refine wp_region_more (by kernel_rfl) (by kernel_rfl) ?_
        repeat (go_big_quiet_step (fail))
        go_big_quiet_step (exact Calls.more (P1.out _))
        repeat (go_big_quiet_step (fail))
        go_big_quiet_step (exact Calls.more (P2.out _))
        repeat (go_big_quiet_step (fail))
        go_big_quiet_step (exact Calls.more (P3.out _))
        repeat (go_big_quiet_step (fail))
        refine wpQuiet_nil ?_
        rintro _ ⟨ex, rfl⟩
        have b2 := World.below_more (w.alloc (.cells #[.int .i64 a.ho, .int .i64 a.fi, .int .i64 a.ne] 26)) ex
        go_wp2_with fail
        go_ret2
        exact ⟨by rw [HB.out]; simp only [List.append_toArray, ByteArray.mk_append_mk]; rfl, btP b0 b2⟩
      · have hno : a.ok = false := by rw [hok, ← Bool.and_assoc, h1, decide_eq_true (by omega : a.fi ≤ a.ne)]; simp [reOk]; omega
        rw [hno]
        simp only [Bool.false_eq_true, if_false]
        have C1 := Lib.hid c1
        clear c1 hok h1 hno
        go_enter Try.func13, Try.ntmps13
        go_wp2_with fail
        refine (C1.out _).mono ?_
        rintro e w1 ⟨rfl, rfl⟩
        go_wp2_with fail
        go_ret2
        exact ⟨rfl, b0⟩
theorem decAk_ref {s r : List UInt8} {h f m : Nat} (hg : getsR 65 s = some ([h, f, m], r)) :
    decAk s = if (⟨(h : Int), (f : Int), (f : Int) + m⟩ : Ak).ok = true ∧ (⟨(h : Int), (f : Int), (f : Int) + m⟩ : Ak).bytes = s then some ⟨(h : Int), (f : Int), (f : Int) + m⟩ else none := by
  split
  · rename_i e
    have := decAk_bytes e.1
    rwa [e.2] at this
  · rename_i e
    cases hd : decAk s with
    | none => rfl
    | some x =>
      exfalso
      have h2 := decAk_some hd
      rw [decAk_gets, hg] at hd
      cases r with
      | cons c t => simp at hd
      | nil =>
        simp only at hd
        split at hd
        · simp only [Option.some.injEq] at hd
          subst hd
          exact e h2
        · cases hd
theorem decAk_no {s : List UInt8} (h : getsR 65 s = none) : decAk s = none := by rw [decAk_gets, h]
theorem gets_cons (c : UInt8) (l : List UInt8) : getsR c (c :: l) = stepR 3 [] l := by
  unfold getsR stepR behind
  simp only [if_true, List.nil_append]
  cases nums 3 l <;> rfl
theorem refGetN_any (s : List UInt8) (n : Nat) (W : World) (hs : s.length ≤ 140737488351232) :
    Calls Try.prog 35 #[.string ⟨s.toArray⟩, .int .i64 n] W fun e w' => e = .returned (getV n (get (s.drop n))) ∧ Below W.heap.size W w' := by
  have h := refGet_any ⟨s.toArray⟩ (n : Int) W (by show s.toArray.size ≤ maxLen; simp [maxLen]; omega)
  have e : getAt s (n : Int) = getV n (get (s.drop n)) := by unfold getAt; rw [if_neg (by omega), Int.toNat_natCast]
  rw [← e]
  exact h
end Go.Proofs.Ytheeekmhmbkncaa
