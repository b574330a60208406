/- The walks of Less. -/
import Derived.Test.YtnfagkcmcliagaaSpansC
namespace Go.Proofs.Ytnfagkcmcliagaa
open Go.RowKit Spoor

/-- of two numbers the first one that is not 0 -/
def or2 (a b : Int) : Int := if a = 0 then b else a
theorem or_two (g : Nat) (a b : Int) (w : World) (h0 : w.cell? ⟨g, 0, none⟩ = some (.int .i64 a)) (h1 : w.cell? ⟨g, 1, none⟩ = some (.int .i64 b)) :
    Calls Try.prog 39 #[.slice (some ⟨g, 0, none⟩) 2 2] w fun e w' => e = .returned (.int .i64 (or2 a b)) ∧ w = w' := by
  by_cases ha : a = 0
  · subst ha
    have e : or2 0 b = b := by simp [or2]
    rw [e]
    clear e
    by_cases hb : b = 0
    · subst hb
      go_enter Try.func39, Try.ntmps39
      go_wp2
      refine wp_loop_rounds 3 ?_
      repeat (rw [rounds_succ]; go_wp2)
      go_ret
      exact ⟨rfl, rfl⟩
    · have hb1 : (b != 0) = true := by simpa using hb
      clear hb
      go_enter Try.func39, Try.ntmps39
      go_wp2
      refine wp_loop_rounds 3 ?_
      repeat (rw [rounds_succ]; go_wp2)
      go_ret
      exact ⟨rfl, rfl⟩
  · have e : or2 a b = a := by simp [or2, ha]
    rw [e]
    have ha1 : (a != 0) = true := by simpa using ha
    clear e ha
    go_enter Try.func39, Try.ntmps39
    go_wp2
    refine wp_loop_rounds 3 ?_
    repeat (rw [rounds_succ]; go_wp2)
    go_ret
    exact ⟨rfl, rfl⟩

/-- is a span ahead of another one? -/
def lessB (x y : Sp) : Bool := decide (x.tr < y.tr) || (decide (x.tr = y.tr) && decide (x.id < y.id))
theorem or2_less (x y : Sp) : decide (or2 (Lib.compareInt x.tr y.tr) (Lib.compareInt x.id y.id) < 0) = lessB x y := by
  unfold or2 Lib.compareInt lessB
  rw [Bool.eq_iff_iff]
  simp only [Bool.or_eq_true, Bool.and_eq_true, decide_eq_true_eq]
  by_cases h1 : x.tr < y.tr
  · simp [h1]
  · by_cases h2 : x.tr > y.tr
    · have : ¬ x.tr = y.tr := by omega
      simp [h1, h2, this]
    · have : x.tr = y.tr := by omega
      by_cases h3 : x.id < y.id
      · simp [this, h3]
      · by_cases h4 : x.id > y.id <;> simp [this, h3, h4]

theorem less_any (x y : Sp) (w : World) :
    Calls Try.prog 21 #[spVal x, spVal y] w fun e w' => e = .returned (.bool (lessB x y)) ∧ Below w.heap.size w w' := by
  have hor := or2_less x y
  have Hor := Lib.hid hor
  clear hor
  have c1 := fun W => Try.cmp_Compare_int x.tr y.tr W
  have c2 := fun W => Try.cmp_Compare_int x.id y.id W
  have C1 := Lib.hid c1
  have C2 := Lib.hid c2
  clear c1 c2
  obtain ⟨R, hR⟩ : ∃ R, lessB x y = R := ⟨_, rfl⟩
  rw [hR]
  rw [hR] at Hor
  clear hR
  generalize Lib.compareInt x.tr y.tr = p at *
  generalize Lib.compareInt x.id y.id = q at *
  unfold spVal
  go_enter Try.func21, Try.ntmps21
  go_wp2_with fail
  refine wp_region_tail 10 (by kernel_rfl) (by kernel_rfl) ?_
  simp only [List.take_succ_cons, List.take_zero, List.drop_succ_cons, List.drop_zero]
  repeat still_step
  still_call (C1.out _)
  repeat still_step
  still_call (C2.out _)
  refine wpStill_nil ?_
  go_wp2_with fail
  refine (or_two _ p q _ (by go_simp) (by go_simp)).mono ?_
  rintro e w1 ⟨rfl, rfl⟩
  go_wp2_with fail
  go_ret
  exact ⟨ret1 (by rw [← Hor.out]; rfl), ((((Below.refl _ _).alloc (Nat.le_refl _) _).alloc (by simp) _).alloc (by simp; omega) _).drew⟩

theorem refLess_any (x y : Sp) (w : World) :
    Calls Try.prog 22 #[spVal x, spVal y] w fun e w' => e = .returned (.bool (lessB x y)) ∧ Below w.heap.size w w' := by
  unfold spVal
  by_cases h1 : x.tr < y.tr
  · rw [show lessB x y = true by simp [lessB, h1]]
    go_enter Try.func22, Try.ntmps22
    go_wp2_with fail
    go_ret
    exact ⟨rfl, ((Below.refl _ _).alloc (Nat.le_refl _) _).alloc (by simp) _⟩
  · cases h2 : (x.tr == y.tr) with
    | true =>
      have h3 : x.tr = y.tr := by simpa using h2
      rw [show lessB x y = decide (x.id < y.id) by simp [lessB, h3]]
      have h4 : decide (x.tr < y.tr) = false := by simpa using h1
      clear h3 h1
      go_enter Try.func22, Try.ntmps22
      go_wp2_with fail
      go_ret
      exact ⟨rfl, ((Below.refl _ _).alloc (Nat.le_refl _) _).alloc (by simp) _⟩
    | false =>
      have h3 : x.tr ≠ y.tr := by simpa using h2
      rw [show lessB x y = false by simp [lessB, h1, h3]]
      have h4 : decide (x.tr < y.tr) = false := by simpa using h1
      clear h3 h1
      go_enter Try.func22, Try.ntmps22
      go_wp2_with fail
      go_ret
      exact ⟨rfl, ((Below.refl _ _).alloc (Nat.le_refl _) _).alloc (by simp) _⟩
end Go.Proofs.Ytnfagkcmcliagaa
