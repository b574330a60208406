/- The walk on the document's bytes of a batch. -/
import Derived.Test.YtheeekmhmbkncaaPostsF
namespace Go.Proofs.Ytheeekmhmbkncaa
open Go.RowKit Spoor

theorem BaAt.frees {g : Nat} {b : Ba} {s : Value} {w : World} (h : BaAt g b s w) : w.frozen? ⟨g, 0, none⟩ = false ∧ w.frozen? ⟨g, 1, none⟩ = false ∧ w.frozen? ⟨g, 2, none⟩ = false :=
  ⟨frozen_of_row w g _ _ _ h, frozen_of_row w g _ _ _ h, frozen_of_row w g _ _ _ h⟩
structure RB (w : World) (b : Ba) (s : Value) (n : Nat) (k : Nat) (acc : List UInt8) (wr : World) : Prop where
  eb : EB w b w.heap.size s n k acc wr
  ba : BaAt w.heap.size b s wr
theorem RB.later {w : World} {b : Ba} {s : Value} {n k : Nat} {acc : List UInt8} {wr w' : World} (h : RB w b s n k acc wr) (hb : Below wr.heap.size wr w') : RB w b s n k acc w' := ⟨h.eb.later hb, h.ba.later hb⟩
theorem RB.step {w : World} {b : Ba} {s : Value} {k : Nat} {acc : List UInt8} {wr : World} (h : RB w b s b.sp.length k acc wr) (hn : numsOk b.ho b.fi b.sp.length = true) (hk : k < b.sp.length) (hok : (b.sp.getD k Sp.zero).ok = true) : RB w b s b.sp.length (k + 1) (acc ++ putText (b.sp.getD k Sp.zero).bytes) wr := ⟨h.eb.step hn hk hok, h.ba⟩
set_option maxHeartbeats 8000000 in
theorem refEncodeBatch_any (b : Ba) (s : Value) (w : World) (hs : SlS s b.sp w) (hf : ∀ x ∈ b.sp, Fits x) (hl : b.sp.length ≤ 100000) :
    Calls Try.prog 11 #[baVal b s] w fun e w' => e = .returned (encBaV b) ∧ Below w.heap.size w w' := by
  have c1 := fun W => number_any b.ho b.fi W
  have c3 := fun W => number_any b.ho (b.fi + b.sp.length) W
  have b0 := (Below.refl w.heap.size w).alloc (Nat.le_refl _) (boxB b s)
  have q0 := BaAt.boxed b s w
  have hs0 := hs.later b0
  have hok : b.ok = ((hoOk b.ho && (reOk b.fi && (reOk (b.fi + b.sp.length) && decide (1 ≤ b.sp.length ∧ b.sp.length ≤ 8)))) && b.sp.all Sp.ok) := rfl
  have hsf : ∃ A cap, s = .slice A b.sp.length cap ∧ b.sp.length ≤ cap ∧ cap ≤ maxLen := by
    obtain ⟨A, cap, h1, h2, h3, _⟩ := hs
    exact ⟨A, cap, h1, h2, h3⟩
  obtain ⟨A, cap, hse, hcap, hmax⟩ := hsf
  obtain ⟨m, hm⟩ : ∃ m, b.sp.length = m := ⟨_, rfl⟩
  unfold encBaV baVal
  unfold boxB at b0 q0 hs0
  rw [hm] at c3 hok hse hcap hl
  unfold maxLen at hmax
  cases h1 : (hoOk b.ho && reOk b.fi) with
  | false =>
    have hno : b.ok = false := by rw [hok, ← Bool.and_assoc, h1, Bool.false_and, Bool.false_and]
    rw [hno]
    rw [h1] at c1
    simp only [Bool.false_eq_true, if_false]
    have C1 := Lib.hid c1
    clear c1 c3 hok h1 q0 hs0 hs hf hno
    subst hse
    go_enter Try.func11, Try.ntmps11
    go_wp2_with fail
    refine (C1.out _).mono ?_
    rintro e w1 ⟨rfl, rfl⟩
    go_wp2_with fail
    go_ret2
    exact ⟨rfl, b0⟩
  | true =>
    have h12 := h1
    simp only [Bool.and_eq_true, hoOk, reOk, decide_eq_true_eq] at h12
    rw [h1] at c1
    have C1 := Lib.hid c1
    clear c1
    by_cases h4 : 1 ≤ m ∧ m ≤ 8
    · have hm1 : ¬ ((m : Int) < 1) := by omega
      have hm8 : ¬ ((8 : Int) < (m : Int)) := by omega
      cases h3 : (hoOk b.ho && reOk (b.fi + (m : Int))) with
      | false =>
        have hno : b.ok = false := by
          rw [hok]
          have hh : hoOk b.ho = true := by simp only [Bool.and_eq_true] at h1; exact h1.1
          rw [hh, Bool.true_and] at h3
          rw [h3]; simp
        rw [hno]
        simp only [Bool.false_eq_true, if_false]
        rw [h3] at c3
        have C3 := Lib.hid c3
        clear c3 hok h1 h3 q0 hs0 hs hf hno h4
        subst hse
        go_enter Try.func11, Try.ntmps11
        go_wp2_with fail
        refine (C1.out _).mono ?_
        rintro e w1 ⟨rfl, rfl⟩
        go_wp2_with fail
        refine (C3.out _).mono ?_
        rintro e w1 ⟨rfl, rfl⟩
        go_wp2_with fail
        go_ret2
        exact ⟨rfl, b0⟩
      | true =>
        rw [h3] at c3
        have C3 := Lib.hid c3
        clear c3
        have hnum : numsOk b.ho b.fi b.sp.length = true := by
          simp only [Bool.and_eq_true] at h1 h3
          unfold numsOk; rw [hm, h1.1, h1.2, h3.2, decide_eq_true h4]; rfl
        have hp := okNums hnum
        have P1 : Hid (∀ W, Calls Try.prog 27 #[.int .i64 b.ho] W fun e w' => e = .returned (.string ⟨(put b.ho.toNat).toArray⟩) ∧ Below W.heap.size W w') := Lib.hid (fun W => by
          have := refPut_nat b.ho.toNat W (by omega)
          rwa [show ((b.ho.toNat : Nat) : Int) = b.ho by omega] at this)
        have P2 : Hid (∀ W, Calls Try.prog 27 #[.int .i64 b.fi] W fun e w' => e = .returned (.string ⟨(put b.fi.toNat).toArray⟩) ∧ Below W.heap.size W w') := Lib.hid (fun W => by
          have := refPut_nat b.fi.toNat W (by omega)
          rwa [show ((b.fi.toNat : Nat) : Int) = b.fi by omega] at this)
        have P3 : Hid (∀ W, Calls Try.prog 27 #[.int .i64 (m : Int)] W fun e w' => e = .returned (.string ⟨(put m).toArray⟩) ∧ Below W.heap.size W w') := Lib.hid (fun W => refPut_nat m W (by omega))
        have L1 := put_length9 b.ho.toNat (by omega)
        have L2 := put_length9 b.fi.toNat (by omega)
        have L3 := put_length9 m (by omega)
        have hac0 : (66 : UInt8) :: putN [b.ho.toNat, b.fi.toNat, m] = [66] ++ put b.ho.toNat ++ put b.fi.toNat ++ put m := by simp [putN]
        have E0 : RB w b s b.sp.length 0 (66 :: putN [b.ho.toNat, b.fi.toNat, m]) (w.alloc (.cells #[.int .i64 b.ho, .int .i64 b.fi, s] 24)) := by
          have e : (66 : UInt8) :: putN [b.ho.toNat, b.fi.toNat, m] = 66 :: (putN [b.ho.toNat, b.fi.toNat, b.sp.length] ++ putSp (b.sp.take 0)) := by simp [putSp, hm]
          refine ⟨⟨by omega, by simp, e, ?_, hs0, b0⟩, q0⟩
          rw [e]
          exact EB.head hnum (by omega) (by simp)
        have HN := Lib.hid hnum
        have HF := Lib.hid hf
        have HM := Lib.hid hm
        have h4a := h4.1
        have h4b := h4.2
        obtain ⟨V, hV⟩ : ∃ V, (if b.ok = true then Value.tuple #[.string ⟨b.bytes.toArray⟩, .int .i64 0] else .tuple #[.string ⟨#[]⟩, .int .i64 2]) = V := ⟨_, rfl⟩
        rw [hV]
        have HV := Lib.hid hV
        rw [hm] at E0
        rw [hac0] at E0
        generalize put b.ho.toNat = X1 at *
        generalize put b.fi.toNat = X2 at *
        generalize put m = X3 at *
        subst hse
        have EE := Lib.hid E0
        clear hac0 hV hm hok hp h1 h3 hnum hf hs hs0 h4 q0 E0
        go_enter Try.func11, Try.ntmps11
        go_wp2_with fail
        refine (C1.out _).mono ?_
        rintro e w1 ⟨rfl, rfl⟩
        go_wp2_with fail
        refine (C3.out _).mono ?_
        rintro e w1 ⟨rfl, rfl⟩
        go_wp2_with fail
        refine wp_region_more (by kernel_rfl) (by kernel_rfl) ?_
        repeat (go_big_quiet_step (fail))
        go_big_quiet_step (exact Calls.more (P1.out _))
        repeat (go_big_quiet_step (fail))
        go_big_quiet_step (exact Calls.more (P2.out _))
        repeat (go_big_quiet_step (fail))
        go_big_quiet_step (exact Calls.more (P3.out _))
        repeat (go_big_quiet_step (fail))
        refine wpQuiet_nil ?_
        rintro _ ⟨ex, rfl⟩
        have E1 := EE.out.later (World.below_more (w.alloc (.cells #[.int .i64 b.ho, .int .i64 b.fi, .slice A m cap] 24)) ex)
        generalize (w.alloc (.cells #[.int .i64 b.ho, .int .i64 b.fi, .slice A m cap] 24)).more ex = w1 at *
        have hstr : Value.string ((⟨#[66]⟩ : ByteArray) ++ ⟨X1.toArray⟩ ++ ⟨X2.toArray⟩ ++ ⟨X3.toArray⟩) = .string ⟨([66] ++ X1 ++ X2 ++ X3).toArray⟩ := by simp only [ByteArray.mk_append_mk]
        rw [hstr]
        obtain ⟨ac0, hac⟩ : ∃ x : List UInt8, [66] ++ X1 ++ X2 ++ X3 = x := ⟨_, rfl⟩
        rw [hac] at E1 ⊢
        clear hstr hac
        clear EE P1 P2 P3 C1 C3
        go_wp2_with fail
        go_loopw [4, 5] (fun t i wr => ∃ (k : Nat) (acc : List UInt8), i = .int .i64 k ∧ t = .string ⟨acc.toArray⟩ ∧ RB w b (.slice A m cap) m k acc wr) (fun _ i _ => m - (intOf i).toNat)
        case atStart => exact ⟨0, ac0, rfl, rfl, E1⟩
        case round =>
          clear E1
          obtain ⟨k, acc, rfl, rfl, E⟩ := hrel
          have hk := E.eb.le
          obtain ⟨z0, z1, z2⟩ := E.ba.cell
          have ltz := E.ba.lt
          by_cases hlt : k < m
          · have hsl := E.eb.sl
            obtain ⟨A2, cap2, he2, _, _, h3⟩ := hsl
            obtain ⟨bb, o, rfl, hrow⟩ := h3 (by rw [HM.out]; omega)
            obtain rfl : A = some ⟨bb, o, none⟩ := by injection he2
            have hlt2 : k < b.sp.length := by rw [HM.out]; exact hlt
            obtain ⟨x0, x1, x2, x3, x4, x5, x6, x7⟩ := hrow.cells (i := k) hlt2
            have hfx := getS_lt HF.out (i := k) hlt2
            have hno := not_ok_at (b := b) (k := k) hlt2
            have hstep := RB.step (HM.out ▸ E) HN.out hlt2
            rw [HM.out] at hstep
            have hlen := E.eb.len
            have hlb := hrow.1
            generalize hx : b.sp.getD k Sp.zero = x at *
            cases hxo : x.ok with
            | false =>
              have hV : V = .tuple #[.string ⟨#[]⟩, .int .i64 2] := by rw [← HV.out, hno hxo]; rfl
              have ce := fun W => refEncode_bad x W hfx hxo
              unfold spVal at ce
              have CE := Lib.hid ce
              have HE := Lib.hid E
              clear ce E hno hstep hxo hrow h3 he2 hx
              subst hV
              go_wp2_with fail
              refine (CE.out _).mono ?_
              rintro e w2 ⟨rfl, b2⟩
              go_wp2_with fail
              go_ret2
              exact ⟨rfl, btP HE.out.eb.bel b2⟩
            | true =>
              have ce := fun W => refEncode_good x W hxo
              unfold spVal at ce
              have CE := Lib.hid ce
              have E2 := hstep hxo
              have hbl := bytes_length hxo
              have cp := fun W => refPutText_any ⟨x.bytes.toArray⟩ W (by show x.bytes.toArray.size ≤ _; simp; omega)
              have CPT := Lib.hid cp
              have hpl : (putText x.bytes).length ≤ 200 := by
                have := put_length9 x.bytes.length (by omega)
                rw [putText, List.length_append]; omega
              generalize putText x.bytes = pt at *
              generalize x.bytes = xb at *
              clear cp ce E hno hstep hxo hrow h3 he2 hx
              go_wp2_with fail
              refine (CE.out _).mono ?_
              rintro e w2 ⟨rfl, b2⟩
              have E3 := E2.later b2
              clear E2 b2
              go_wp2_with fail
              refine (CPT.out _).mono ?_
              rintro e w3 ⟨rfl, b3⟩
              have E4 := E3.later b3
              clear E3 b3
              go_wp2_with fail
              go_roundw
              case rel => exact ⟨k + 1, acc ++ pt, by go_num, congrArg Value.string (ByteArray.mk_append_mk acc pt), E4⟩
              case measure => simp [intOf]; omega
          · obtain rfl : k = m := by omega
            have hV : V = .tuple #[.string ⟨acc.toArray⟩, .int .i64 0] := by
              have ha := E.eb.all
              have hacc := E.eb.acc'
              rw [List.take_of_length_le (by rw [HM.out]; exact Nat.le_refl _)] at ha hacc
              have hbok : b.ok = true := by unfold Ba.ok; rw [HN.out, ha]; rfl
              rw [← HV.out, hbok, if_pos rfl, hacc]
              rfl
            have HE := Lib.hid E
            clear E
            subst hV
            go_wp2_with fail
            go_ret2
            exact ⟨rfl, HE.out.eb.bel⟩
    · have hno : b.ok = false := by rw [hok, decide_eq_false h4]; simp
      rw [hno]
      simp only [Bool.false_eq_true, if_false]
      by_cases hm0 : m = 0
      · clear hok h1 q0 hs0 hs hf hno h4 c3
        subst hse
        have hmz : ((m : Int) < 1) := by omega
        generalize hmi : (m : Int) = mi at *
        clear hm0
        go_enter Try.func11, Try.ntmps11
        go_wp2_with fail
        refine (C1.out _).mono ?_
        rintro e w1 ⟨rfl, rfl⟩
        go_wp2_with fail
        go_ret2
        exact ⟨rfl, b0⟩
      · have hm8 : 8 < m := by omega
        clear hok h1 q0 hs0 hs hf hno h4 c3
        subst hse
        have hm1 : ¬ ((m : Int) < 1) := by omega
        go_enter Try.func11, Try.ntmps11
        go_wp2_with fail
        refine (C1.out _).mono ?_
        rintro e w1 ⟨rfl, rfl⟩
        go_wp2_with fail
        go_ret2
        exact ⟨rfl, b0⟩
end Go.Proofs.Ytheeekmhmbkncaa
