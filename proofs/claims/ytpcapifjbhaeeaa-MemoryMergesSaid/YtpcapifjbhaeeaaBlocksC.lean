/- The walks: whether a cell may be, how far two texts are alike; the document's words for both. -/
import Derived.Test.YtpcapifjbhaeeaaBlocksB
namespace Go.Proofs.Ytpcapifjbhaeeaa
set_option maxRecDepth 16000
open Go.RowKit Spoor
def chkC (c : Ce) : Int := if c.may then 0 else 2
theorem refMay_any (c : Ce) (w : World) (hf : FitsC c) :
    Calls Try.prog 34 #[ceVal c] w fun e w' => e = .returned (.bool c.may) ∧ Below w.heap.size w w' := by
  obtain ⟨k, q, v⟩ := c
  obtain ⟨f1, f2, f3⟩ := hf
  simp only at f1 f2 f3
  clear f3
  unfold ceVal Ce.may
  simp only
  by_cases h0 : (1 : Int) ≤ (k.length : Int)
  · by_cases h2 : (k.length : Int) ≤ 64
    · by_cases h3 : 0 ≤ q
      · rw [show (decide (1 ≤ k.length ∧ k.length ≤ 64) && decide (0 ≤ q) && decide (v.length ≤ 128)) = decide ((v.length : Int) ≤ 128) by
          rw [decide_eq_true (show 1 ≤ k.length ∧ k.length ≤ 64 by omega), decide_eq_true h3, Bool.true_and, Bool.true_and, decide_eq_decide]; omega]
        go_enter Try.func34, Try.ntmps34
        go_wp2_with fail
        go_ret
        exact ⟨rfl, (Below.refl _ _).alloc (Nat.le_refl _) _⟩
      · rw [show (decide (1 ≤ k.length ∧ k.length ≤ 64) && decide (0 ≤ q) && decide (v.length ≤ 128)) = false by rw [decide_eq_false h3]; simp]
        have h4 := decide_eq_false h3
        go_enter Try.func34, Try.ntmps34
        go_wp2_with fail
        go_ret
        exact ⟨rfl, (Below.refl _ _).alloc (Nat.le_refl _) _⟩
    · rw [show (decide (1 ≤ k.length ∧ k.length ≤ 64) && decide (0 ≤ q) && decide (v.length ≤ 128)) = false by rw [decide_eq_false (show ¬ (1 ≤ k.length ∧ k.length ≤ 64) by omega)]; simp]
      have h4 := decide_eq_false h2
      go_enter Try.func34, Try.ntmps34
      go_wp2_with fail
      go_ret
      exact ⟨rfl, (Below.refl _ _).alloc (Nat.le_refl _) _⟩
  · rw [show (decide (1 ≤ k.length ∧ k.length ≤ 64) && decide (0 ≤ q) && decide (v.length ≤ 128)) = false by rw [decide_eq_false (show ¬ (1 ≤ k.length ∧ k.length ≤ 64) by omega)]; simp]
    have h4 := decide_eq_false h0
    obtain rfl : k = [] := List.eq_nil_of_length_eq_zero (by omega)
    go_enter Try.func34, Try.ntmps34
    go_wp2_with fail
    go_ret
    exact ⟨rfl, (Below.refl _ _).alloc (Nat.le_refl _) _⟩
theorem refAhead_any (a b : Ce) (w : World) :
    Calls Try.prog 35 #[ceVal a, ceVal b] w fun e w' => e = .returned (.bool (aheadC a b)) ∧ Below w.heap.size w w' := by
  have b0 := ((Below.refl w.heap.size w).alloc (Nat.le_refl _) (boxC a)).alloc (by simp) (boxC b)
  unfold ceVal boxC aheadC at *
  cases h1 : Op.bytesLess a.k b.k with
  | true =>
    rw [Bool.true_or]
    go_enter Try.func35, Try.ntmps35
    go_wp2_with fail
    go_ret
    exact ⟨rfl, b0⟩
  | false =>
    rw [Bool.false_or]
    cases h2 : (a.k == b.k) with
    | false =>
      rw [Bool.false_and]
      go_enter Try.func35, Try.ntmps35
      go_wp2_with fail
      go_ret
      exact ⟨rfl, b0⟩
    | true =>
      rw [Bool.true_and]
      go_enter Try.func35, Try.ntmps35
      go_wp2_with fail
      go_ret
      exact ⟨rfl, b0⟩
theorem at_of (a : List UInt8) (i : Nat) (h : i < a.length) (W : World) : (Instr.index 9 (.string ⟨a.toArray⟩) (.int .i64 (i : Int))).run Try.prog W = .ok (.int .u8 ((a.getD i 0).toNat : Int)) W :=
  index_nat ⟨a.toArray⟩ i (by have := bytes_len ⟨a.toArray⟩; simp only at this; omega) W
end Go.Proofs.Ytpcapifjbhaeeaa
