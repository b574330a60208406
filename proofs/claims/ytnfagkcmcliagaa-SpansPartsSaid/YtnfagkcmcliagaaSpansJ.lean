/- The statements' own helpers on spans: what is great, the chapter's span, the examples. -/
import Derived.Test.YtnfagkcmcliagaaSpansI
namespace Go.Proofs.Ytnfagkcmcliagaa
open Go.RowKit Spoor

theorem bt {w w1 w2 : World} (h : Below w.heap.size w w1) (k : Below w1.heap.size w1 w2) : Below w.heap.size w w2 := h.trans (k.mono h.size)
def greatB (x : Sp) : Bool := decide (1000 < x.sv.length) || decide (1000 < x.ho.length) || decide (1000 < x.no.length)
theorem great_no {x : Sp} (h : greatB x = false) : x.sv.length ≤ 1000 ∧ x.ho.length ≤ 1000 ∧ x.no.length ≤ 1000 := by
  unfold greatB at h
  simp only [Bool.or_eq_false_iff, decide_eq_false_iff_not] at h
  omega
theorem great_any (x : Sp) (w : World) (hf : Fits x) :
    Calls Try.prog 11 #[spVal x] w fun e w' => e = .returned (.bool (greatB x)) ∧ Below w.heap.size w w' := by
  obtain ⟨f1, f2, f3⟩ := hf
  obtain ⟨R, hR⟩ : ∃ R, greatB x = R := ⟨_, rfl⟩
  rw [hR]
  have HR := Lib.hid hR
  clear hR
  cases h1 : decide ((1000 : Int) < x.sv.length) with
  | true =>
    have e : greatB x = true := by
      have := of_decide_eq_true h1
      simp [greatB]; omega
    rw [HR.out] at e
    subst e
    clear HR
    unfold spVal
    go_enter Try.func11, Try.ntmps11
    go_wp2_with fail
    go_ret
    exact ⟨rfl, ((Below.refl _ _).alloc (Nat.le_refl _) _)⟩
  | false =>
    cases h2 : decide ((1000 : Int) < x.ho.length) with
    | true =>
      have e : greatB x = true := by
        have := of_decide_eq_true h2
        simp [greatB]; omega
      rw [HR.out] at e
      subst e
      clear HR
      unfold spVal
      go_enter Try.func11, Try.ntmps11
      go_wp2_with fail
      go_ret
      exact ⟨rfl, ((Below.refl _ _).alloc (Nat.le_refl _) _)⟩
    | false =>
      have e : greatB x = decide ((1000 : Int) < x.no.length) := by
        have := of_decide_eq_false h1
        have := of_decide_eq_false h2
        unfold greatB
        rw [decide_eq_false (by omega : ¬ 1000 < x.sv.length), decide_eq_false (by omega : ¬ 1000 < x.ho.length)]
        simp only [Bool.false_or]
        exact decide_eq_decide.2 (by omega)
      rw [HR.out] at e
      subst e
      clear HR
      unfold spVal
      go_enter Try.func11, Try.ntmps11
      go_wp2_with fail
      go_ret
      exact ⟨rfl, ((Below.refl _ _).alloc (Nat.le_refl _) _)⟩

def someSp : Sp := ⟨300, 2, 1, [97, 112, 105], [104, 49], 5, 0, [111, 107]⟩
theorem some_any (w : World) : Calls Try.prog 36 #[] w fun e w' => e = .returned (spVal someSp) ∧ Below w.heap.size w w' := by
  go_enter Try.func36, Try.ntmps36
  go_wp2_with fail
  refine bodyPost_ret (v := spVal someSp) ?_ rfl ⟨rfl, ?_⟩
  · simp [results, spVal, someSp, Try.results36, go_sem, *]
  · exact (Below.refl _ _).alloc (Nat.le_refl _) _

theorem put_small (n : Nat) (h : n < 128) : put n = [UInt8.ofNat n] := by
  rw [put, show n / 128 = 0 by omega, hi_zero, Nat.mod_eq_of_lt h]; rfl
theorem put_300 : put 300 = [130, 44] := by
  rw [put, hi_pos (by decide), show 300 / 128 / 128 = 0 by decide, hi_zero]; rfl
theorem some_ok : someSp.ok = true := by decide +kernel
theorem some_bytes : someSp.bytes = [130, 44, 2, 1, 5, 0, 3, 97, 112, 105, 2, 104, 49, 2, 111, 107] := by
  show put 300 ++ put 2 ++ put 1 ++ put 5 ++ put 0 ++ (put 3 ++ [97, 112, 105]) ++ (put 2 ++ [104, 49]) ++ (put 2 ++ [111, 107]) = _
  rw [put_300, put_small 2 (by decide), put_small 1 (by decide), put_small 5 (by decide), put_small 0 (by decide), put_small 3 (by decide)]
  rfl
theorem some_decode : decodeSp [130, 44, 2, 1, 5, 0, 3, 97, 112, 105, 2, 104, 49, 2, 111, 107] = some someSp := by
  rw [← some_bytes]; exact decodeSp_bytes _ some_ok

set_option maxHeartbeats 400000 in
/-- examples come out -/
theorem does_true (w : World) : Calls Try.prog 18 #[] w fun e w' => e = .returned (.bool true) ∧ Below w.heap.size w w' := by
  have c1 : ∀ W, Calls Try.prog 12 #[spVal someSp] W fun e w' => e = .returned (.tuple #[.string ⟨#[130, 44, 2, 1, 5, 0, 3, 97, 112, 105, 2, 104, 49, 2, 111, 107]⟩, .int .i64 0]) ∧ Below W.heap.size W w' := fun W => by
    have := encode_good someSp W some_ok
    rw [some_bytes] at this
    exact this
  have c2 : ∀ W, Calls Try.prog 19 #[.string ⟨#[130, 44, 2, 1, 5, 0, 3, 97, 112, 105, 2, 104, 49, 2, 111, 107]⟩] W fun e w' => e = .returned (.tuple #[spVal someSp, .int .i64 0]) ∧ Below W.heap.size W w' := fun W => by
    have := decode_any ⟨#[130, 44, 2, 1, 5, 0, 3, 97, 112, 105, 2, 104, 49, 2, 111, 107]⟩ W (by decide)
    rw [show (⟨#[130, 44, 2, 1, 5, 0, 3, 97, 112, 105, 2, 104, 49, 2, 111, 107]⟩ : ByteArray).data.toList = [130, 44, 2, 1, 5, 0, 3, 97, 112, 105, 2, 104, 49, 2, 111, 107] from rfl, some_decode] at this
    exact this
  have c3 : ∀ W, Calls Try.prog 14 #[.agg #[.int .i64 300, .int .i64 0, .int .i64 1, .string ⟨#[97, 112, 105]⟩, .string ⟨#[104, 49]⟩, .int .i64 5, .int .i64 0, .string ⟨#[111, 107]⟩]] W fun e w' => e = .returned (.int .i64 2) ∧ Below W.heap.size W w' := fun W => by
    have := check_any { someSp with id := 0 } W (by unfold Fits; decide)
    rw [show checkV { someSp with id := 0 } = 2 by decide +kernel] at this
    exact this
  have c4 : ∀ W, Calls Try.prog 21 #[.agg #[.int .i64 300, .int .i64 2, .int .i64 1, .string ⟨#[97, 112, 105]⟩, .string ⟨#[104, 49]⟩, .int .i64 5, .int .i64 0, .string ⟨#[111, 107]⟩], .agg #[.int .i64 300, .int .i64 3, .int .i64 1, .string ⟨#[97, 112, 105]⟩, .string ⟨#[104, 49]⟩, .int .i64 5, .int .i64 0, .string ⟨#[111, 107]⟩]] W fun e w' => e = .returned (.bool true) ∧ Below W.heap.size W w' := fun W => less_any someSp { someSp with id := 3 } W
  have c5 : ∀ W, Calls Try.prog 21 #[.agg #[.int .i64 300, .int .i64 3, .int .i64 1, .string ⟨#[97, 112, 105]⟩, .string ⟨#[104, 49]⟩, .int .i64 5, .int .i64 0, .string ⟨#[111, 107]⟩], .agg #[.int .i64 300, .int .i64 2, .int .i64 1, .string ⟨#[97, 112, 105]⟩, .string ⟨#[104, 49]⟩, .int .i64 5, .int .i64 0, .string ⟨#[111, 107]⟩]] W fun e w' => e = .returned (.bool false) ∧ Below W.heap.size W w' := fun W => less_any { someSp with id := 3 } someSp W
  have c6 : ∀ W, Calls Try.prog 16 #[.string ⟨#[97, 32, 98]⟩] W fun e w' => e = .returned (.bool false) ∧ Below W.heap.size W w' := fun W => name_any ⟨#[97, 32, 98]⟩ W (by decide)
  have c7 : ∀ W, Calls Try.prog 16 #[.string ⟨#[97, 45, 98]⟩] W fun e w' => e = .returned (.bool true) ∧ Below W.heap.size W w' := fun W => name_any ⟨#[97, 45, 98]⟩ W (by decide)
  have cs := some_any
  unfold spVal someSp at c1 c2 cs
  have C1 := Lib.hid c1
  have C2 := Lib.hid c2
  have C3 := Lib.hid c3
  have C4 := Lib.hid c4
  have C5 := Lib.hid c5
  have C6 := Lib.hid c6
  have C7 := Lib.hid c7
  have CS := Lib.hid cs
  clear c1 c2 c3 c4 c5 c6 c7 cs
  go_enter Try.func18, Try.ntmps18
  go_wp2_with fail
  refine (CS.out _).mono ?_
  rintro e w1 ⟨rfl, b1⟩
  go_wp2_with fail
  refine (C1.out _).mono ?_
  rintro e w2 ⟨rfl, b2⟩
  go_wp2_with fail
  refine (C2.out _).mono ?_
  rintro e w3 ⟨rfl, b3⟩
  have hb3 := bt (bt b1 b2) b3
  clear b1 b2 b3
  go_upto_region 3 with fail
  have h3 := SpAt.boxed someSp w3
  have hb4 := hb3.alloc hb3.size (.cells #[.int .i64 someSp.tr, .int .i64 someSp.id, .int .i64 someSp.pa, .string ⟨someSp.sv.toArray⟩, .string ⟨someSp.ho.toArray⟩, .int .i64 someSp.st, .int .i64 someSp.du, .string ⟨someSp.no.toArray⟩] 23)
  unfold someSp at h3 hb4
  generalize w3.heap.size = p3 at *
  clear hb3
  generalize w3.alloc _ = w4 at *
  go_wp2_with fail
  refine (CS.out _).mono ?_
  rintro e w5 ⟨rfl, b5⟩
  have h5 := h3.later b5 h3.lt
  have hb5 := bt hb4 b5
  clear b5 hb4 h3
  go_upto_region 5 with fail
  have k5 : SpAt w5.heap.size (⟨300, 0, 1, [97, 112, 105], [104, 49], 5, 0, [111, 107]⟩ : Sp) _ := SpAt.boxed _ w5
  have hb6 := hb5.alloc hb5.size (.cells #[.int .i64 300, .int .i64 0, .int .i64 1, .string ⟨#[97, 112, 105]⟩, .string ⟨#[104, 49]⟩, .int .i64 5, .int .i64 0, .string ⟨#[111, 107]⟩] 23)
  have h6 := h5.alloc' (.cells #[.int .i64 300, .int .i64 0, .int .i64 1, .string ⟨#[97, 112, 105]⟩, .string ⟨#[104, 49]⟩, .int .i64 5, .int .i64 0, .string ⟨#[111, 107]⟩] 23)
  clear h5 hb5
  dsimp only at k5
  generalize w5.heap.size = p5 at *
  generalize w5.alloc _ = w6 at *
  go_wp2_with fail
  refine (CS.out _).mono ?_
  rintro e w7 ⟨rfl, b7⟩
  have h7 := h6.later b7 h6.lt
  have k7 := k5.later b7 k5.lt
  have hb7 := bt hb6 b7
  clear b7 hb6 h6 k5
  go_upto_region 7 with fail
  have l7 : SpAt w7.heap.size (⟨300, 3, 1, [97, 112, 105], [104, 49], 5, 0, [111, 107]⟩ : Sp) _ := SpAt.boxed _ w7
  have hb8 := hb7.alloc hb7.size (.cells #[.int .i64 300, .int .i64 3, .int .i64 1, .string ⟨#[97, 112, 105]⟩, .string ⟨#[104, 49]⟩, .int .i64 5, .int .i64 0, .string ⟨#[111, 107]⟩] 23)
  have h8 := h7.alloc' (.cells #[.int .i64 300, .int .i64 3, .int .i64 1, .string ⟨#[97, 112, 105]⟩, .string ⟨#[104, 49]⟩, .int .i64 5, .int .i64 0, .string ⟨#[111, 107]⟩] 23)
  have k8 := k7.alloc' (.cells #[.int .i64 300, .int .i64 3, .int .i64 1, .string ⟨#[97, 112, 105]⟩, .string ⟨#[104, 49]⟩, .int .i64 5, .int .i64 0, .string ⟨#[111, 107]⟩] 23)
  clear h7 k7 hb7
  dsimp only at l7
  generalize w7.heap.size = p7 at *
  generalize w7.alloc _ = w8 at *
  obtain ⟨a0, a1, a2, a3, a4, a5, a6, a7⟩ := h8.cell
  obtain ⟨c0, c1, c2, c3, c4, c5, c6, c7⟩ := k8.cell
  obtain ⟨d0, d1, d2, d3, d4, d5, d6, d7⟩ := l7.cell
  have la := h8.lt
  have lc := k8.lt
  have ld := l7.lt
  clear h8 k8 l7
  dsimp only at *
  refine wp_region_more (by kernel_rfl) (by kernel_rfl) ?_
  repeat (go_big_quiet_step (fail))
  go_big_quiet_step (exact Calls.more (CS.out _))
  repeat (go_big_quiet_step (fail))
  go_big_quiet_step (exact Calls.more (C3.out _))
  repeat (go_big_quiet_step (fail))
  go_big_quiet_step (exact Calls.more (CS.out _))
  repeat (go_big_quiet_step (fail))
  go_big_quiet_step (exact Calls.more (C4.out _))
  repeat (go_big_quiet_step (fail))
  go_big_quiet_step (exact Calls.more (CS.out _))
  repeat (go_big_quiet_step (fail))
  go_big_quiet_step (exact Calls.more (C5.out _))
  repeat (go_big_quiet_step (fail))
  go_big_quiet_step (exact Calls.more (C6.out _))
  repeat (go_big_quiet_step (fail))
  go_big_quiet_step (exact Calls.more (C7.out _))
  repeat (go_big_quiet_step (fail))
  refine wpQuiet_nil ?_
  rintro _ ⟨ex, rfl⟩
  have hb9 := World.below_more w8 ex
  go_wp2_with fail
  go_ret
  exact ⟨rfl, bt hb8 hb9⟩
end Go.Proofs.Ytnfagkcmcliagaa
