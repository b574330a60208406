/- Plain facts on the order of byte strings. -/
import Derived.WalkKit
import Derived.SizedLaws
namespace Spoor
open Go
theorem bl_irrefl : ∀ x : List UInt8, Op.bytesLess x x = false
  | [] => rfl
  | a :: x => by simp [Op.bytesLess, bl_irrefl x]
theorem bl_asymm : ∀ {x y : List UInt8}, Op.bytesLess x y = true → Op.bytesLess y x = false
  | [], [], h => by simp [Op.bytesLess] at h
  | [], _ :: _, _ => rfl
  | _ :: _, [], h => by simp [Op.bytesLess] at h
  | a :: x, b :: y, h => by
    simp only [Op.bytesLess, Bool.or_eq_true, decide_eq_true_eq, Bool.and_eq_true, beq_iff_eq] at h
    simp only [Op.bytesLess, Bool.or_eq_false_iff, decide_eq_false_iff_not, Bool.and_eq_false_iff, beq_eq_false_iff_ne]
    simp only [UInt8.lt_iff_toNat_lt] at h ⊢
    rcases h with h | ⟨rfl, h⟩
    · exact ⟨by omega, .inl (fun e => by rw [e] at h; omega)⟩
    · exact ⟨by omega, .inr (bl_asymm h)⟩
theorem bl_total : ∀ {x y : List UInt8}, Op.bytesLess x y = false → Op.bytesLess y x = false → x = y
  | [], [], _, _ => rfl
  | [], _ :: _, h, _ => by simp [Op.bytesLess] at h
  | _ :: _, [], _, h => by simp [Op.bytesLess] at h
  | a :: x, b :: y, h, k => by
    simp only [Op.bytesLess, Bool.or_eq_false_iff, decide_eq_false_iff_not, Bool.and_eq_false_iff, beq_eq_false_iff_ne, UInt8.lt_iff_toNat_lt] at h k
    have e : a = b := UInt8.toNat_inj.1 (by omega)
    subst e
    have h1 : Op.bytesLess x y = false := by rcases h.2 with h | h; exact absurd rfl h; exact h
    have h2 : Op.bytesLess y x = false := by rcases k.2 with h | h; exact absurd rfl h; exact h
    rw [bl_total h1 h2]
theorem bl_trans : ∀ {x y z : List UInt8}, Op.bytesLess x y = true → Op.bytesLess y z = true → Op.bytesLess x z = true
  | _, [], _, h, _ => by cases ‹List UInt8› <;> simp [Op.bytesLess] at h
  | _, _ :: _, [], _, h => by simp [Op.bytesLess] at h
  | [], _ :: _, _ :: _, _, _ => rfl
  | a :: x, b :: y, c :: z, h, k => by
    simp only [Op.bytesLess, Bool.or_eq_true, decide_eq_true_eq, Bool.and_eq_true, beq_iff_eq, UInt8.lt_iff_toNat_lt] at h k ⊢
    rcases h with h | ⟨rfl, h⟩
    · rcases k with k | ⟨rfl, k⟩
      · exact .inl (by omega)
      · exact .inl h
    · rcases k with k | ⟨rfl, k⟩
      · exact .inl k
      · exact .inr ⟨rfl, bl_trans h k⟩
theorem bl_cases (u v : List UInt8) : (Op.bytesLess u v = true ∧ Op.bytesLess v u = false ∧ (u == v) = false ∧ (v == u) = false) ∨ (Op.bytesLess u v = false ∧ Op.bytesLess v u = false ∧ u = v) ∨ (Op.bytesLess u v = false ∧ Op.bytesLess v u = true ∧ (u == v) = false ∧ (v == u) = false) := by
  cases h : Op.bytesLess u v with
  | true =>
    refine .inl ⟨rfl, bl_asymm h, ?_, ?_⟩ <;> (rw [beq_eq_false_iff_ne]; rintro rfl; rw [bl_irrefl] at h; cases h)
  | false =>
    cases k : Op.bytesLess v u with
    | true => refine .inr (.inr ⟨rfl, rfl, ?_, ?_⟩) <;> (rw [beq_eq_false_iff_ne]; rintro rfl; rw [bl_irrefl] at k; cases k)
    | false => exact .inr (.inl ⟨rfl, rfl, bl_total h k⟩)
end Spoor
