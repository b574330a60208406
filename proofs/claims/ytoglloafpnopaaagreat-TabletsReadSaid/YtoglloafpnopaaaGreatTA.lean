/- Plain facts, no program in sight: what the varint of a number, its eight bytes, and the encoding of a text are, as lists of bytes, and how they are read. No condition but those that each theorem names. Plain facts on the order of byte strings. Regions that draw their order, whose callees may make memory of their own and leave what was there: one walk in the order of the text serves every order. Over any program; no condition. Arguments opened to cells: a struct of any number of fields of one cell, an array of elements of one cell; what the weights say of their parts. Over any program; no condition. Arguments opened to cells: a slice of structs of one-cell fields. Over any program; no condition. -/
import Derived.WalkKit
import Derived.SizedLaws
import Derived.WalkSmall
import Derived.Deep.QuietTactic
import Derived.BigQuiet
import Derived.Lib.Hide
import Derived.StillTailTactics
import Derived.OpenShut
import Derived.WideShapes
import Derived.Deep.Fields
import Derived.Deep.Slices
set_option linter.unusedSimpArgs false
set_option linter.unusedVariables false
namespace Go
theorem ltA {α : Type} {a : Array α} {i : Nat} {x : α} (h : a[i]? = some x) : i < a.size := (Array.getElem?_eq_some_iff.1 h).1
end Go
namespace Spoor
def hi (n : Nat) : List UInt8 := if n = 0 then [] else hi (n / 128) ++ [UInt8.ofNat (n % 128 + 128)]
termination_by n
decreasing_by omega
def put (n : Nat) : List UInt8 := hi (n / 128) ++ [UInt8.ofNat (n % 128)]
theorem hi_zero : hi 0 = [] := by rw [hi]; simp
theorem hi_pos {n : Nat} (h : 0 < n) : hi n = hi (n / 128) ++ [UInt8.ofNat (n % 128 + 128)] := by
 rw [hi, if_neg (by omega)]
def digs (k n : Nat) : List UInt8 := (List.range k).map fun i => UInt8.ofNat (n / 128 ^ (k - 1 - i) % 128 + 128)
theorem digs_length (k n : Nat) : (digs k n).length = k := by simp [digs]
theorem digs_succ (k n : Nat) : digs (k + 1) n = digs k (n / 128) ++ [UInt8.ofNat (n % 128 + 128)] := by
 unfold digs
 rw [List.range_succ, List.map_append]
 congr 1
 · apply List.map_congr_left
   intro i hi
   have hi := List.mem_range.1 hi
   have e : k + 1 - 1 - i = (k - 1 - i) + 1 := by omega
   rw [e, Nat.pow_succ, Nat.mul_comm, Nat.div_div_eq_div_mul]
 · simp
theorem hi_digs : ∀ (k n : Nat), n < 128 ^ k → (k = 0 ∨ 128 ^ (k - 1) ≤ n) → hi n = digs k n := by
 intro k
 induction k with
 | zero => intro n h _; have : n = 0 := by simpa using h
           subst this; simp [hi_zero, digs]
 | succ k ih =>
   intro n h h'
   have h1 : 128 ^ k ≤ n := by simpa using h'
   have hp : 0 < 128 ^ k := Nat.pow_pos (by decide)
   rw [hi_pos (by omega), digs_succ]
   congr 1
   apply ih
   · rw [Nat.pow_succ] at h; omega
   · cases k with
     | zero => exact .inl rfl
     | succ k =>
       right
       simp only [Nat.add_sub_cancel]
       rw [Nat.pow_succ] at h1
       omega
theorem put_digs (m n : Nat) (hm : 1 ≤ m) (h : n < 128 ^ m) (h' : m = 1 ∨ 128 ^ (m - 1) ≤ n) :
 put n = (digs m n).set (m - 1) (UInt8.ofNat (n % 128)) := by
 obtain ⟨k, rfl⟩ : ∃ k, m = k + 1 := ⟨m - 1, by omega⟩
 rw [digs_succ, put, hi_digs k (n / 128)]
 · rw [List.set_append_right _ _ (by rw [digs_length]; omega)]
   simp [digs_length]
 · rw [Nat.pow_succ] at h; omega
 · cases k with
   | zero => exact .inl rfl
   | succ k =>
     right
     have h1 : 128 ^ (k + 1) ≤ n := by simpa using h'
     simp only [Nat.add_sub_cancel]
     rw [Nat.pow_succ] at h1
     omega
def many (L : Nat) : Nat := max 1 ((L + 6) / 7)
theorem pow128 (k : Nat) : (128 : Nat) ^ k = 2 ^ (7 * k) := by rw [Nat.pow_mul]
theorem put_many (L n : Nat) (h : n < 2 ^ L) (h' : L = 0 ∨ 2 ^ (L - 1) ≤ n) :
 put n = (digs (many L) n).set (many L - 1) (UInt8.ofNat (n % 128)) := by
 apply put_digs
 · unfold many; omega
 · rw [pow128]
   exact Nat.lt_of_lt_of_le h (Nat.pow_le_pow_right (by decide) (by unfold many; omega))
 · by_cases hm : many L = 1
   · exact .inl hm
   · right
     unfold many at hm ⊢
     rcases h' with rfl | h'
     · exact absurd rfl hm
     · rw [pow128]
       exact Nat.le_trans (Nat.pow_le_pow_right (by decide) (by omega)) h'
theorem hi_length (k : Nat) : ∀ n : Nat, n < 128 ^ k → (hi n).length ≤ k := by
 induction k with
 | zero => intro n h; have : n = 0 := by simpa using h
           subst this; simp [hi_zero]
 | succ k ih =>
   intro n h
   by_cases h0 : n = 0
   · subst h0; simp [hi_zero]
   · rw [hi_pos (by omega)]
     have := ih (n / 128) (by rw [Nat.pow_succ] at h; omega)
     simp only [List.length_append, List.length_cons, List.length_nil]
     omega
theorem put_length (k n : Nat) (h : n < 128 ^ (k + 1)) : (put n).length ≤ k + 1 := by
 have := hi_length k (n / 128) (by rw [Nat.pow_succ] at h; omega)
 simp only [put, List.length_append, List.length_cons, List.length_nil]
 omega
theorem put_length9 (n : Nat) (h : n ≤ 9223372036854775807) : (put n).length ≤ 9 := put_length 8 n (by omega)
theorem put_length_pos (n : Nat) : 1 ≤ (put n).length := by simp [put]
def scan : Nat → Nat → List UInt8 → Option (Nat × Nat)
 | 0, _, _ => none
 | _ + 1, _, [] => none
 | f + 1, acc, c :: r => if c.toNat < 128 then some (acc * 128 + c.toNat, 1) else (scan f (acc * 128 + c.toNat % 128) r).map fun p => (p.1, p.2 + 1)
def get : List UInt8 → Option (Nat × Nat)
 | [] => none
 | c :: r => if c.toNat = 128 then none else scan 9 0 (c :: r)
theorem u8_of {c : UInt8} {n : Nat} (h : c.toNat = n) : UInt8.ofNat n = c := by subst h; simp
theorem scan_some : ∀ (f acc : Nat) (l : List UInt8) (n k : Nat), scan f acc l = some (n, k) →
 0 < k ∧ k ≤ f ∧ k ≤ l.length ∧ n < (acc + 1) * 128 ^ k ∧ ((0 < acc ∨ l.head? ≠ some 128) → hi acc ++ l.take k = put n) := by
 intro f
 induction f with
 | zero => intro acc l n k h; simp [scan] at h
 | succ f ih =>
   intro acc l n k h
   match l, h with
   | [], h => simp [scan] at h
   | c :: r, h =>
     rw [scan] at h
     have hc := c.toNat_lt
     by_cases h1 : c.toNat < 128
     · rw [if_pos h1] at h
       simp only [Option.some.injEq, Prod.mk.injEq] at h
       obtain ⟨rfl, rfl⟩ := h
       refine ⟨by omega, by omega, by simp, by omega, fun _ => ?_⟩
       have e1 : (acc * 128 + c.toNat) / 128 = acc := by omega
       have e2 : (acc * 128 + c.toNat) % 128 = c.toNat := by omega
       rw [put, e1, e2, u8_of rfl]
       simp
     · rw [if_neg h1, Option.map_eq_some_iff] at h
       obtain ⟨⟨n', k'⟩, h2, h3⟩ := h
       simp only [Prod.mk.injEq] at h3
       obtain ⟨rfl, rfl⟩ := h3
       obtain ⟨g1, g2, g3, g4, g5⟩ := ih _ _ _ _ h2
       refine ⟨by omega, by omega, by simp; omega, ?_, fun ha => ?_⟩
       · have : (acc * 128 + c.toNat % 128 + 1) * 128 ^ k' ≤ (acc + 1) * 128 * 128 ^ k' := Nat.mul_le_mul_right _ (by omega)
         rw [Nat.pow_succ, Nat.mul_comm (128 ^ k') 128, ← Nat.mul_assoc]
         omega
       · have hpos : 0 < acc * 128 + c.toNat % 128 := by
          rcases ha with ha | ha
          · omega
          · have : c.toNat ≠ 128 := fun e => ha (by rw [← u8_of e]; rfl)
            omega
         have g6 := g5 (.inl hpos)
         rw [← g6, hi_pos hpos]
         have e1 : (acc * 128 + c.toNat % 128) / 128 = acc := by omega
         have e2 : (acc * 128 + c.toNat % 128) % 128 + 128 = c.toNat := by omega
         rw [e1, e2, u8_of rfl, List.append_assoc]
         rfl
theorem get_some {l : List UInt8} {n k : Nat} (h : get l = some (n, k)) : 0 < k ∧ k ≤ 9 ∧ k ≤ l.length ∧ n ≤ 9223372036854775807 ∧ l.take k = put n := by
 match l, h with
 | [], h => simp [get] at h
 | c :: r, h =>
   rw [get] at h
   by_cases h1 : c.toNat = 128
   · rw [if_pos h1] at h; cases h
   · rw [if_neg h1] at h
     obtain ⟨g1, g2, g3, g4, g5⟩ := scan_some _ _ _ _ _ h
     refine ⟨g1, g2, g3, ?_, ?_⟩
     · have : 128 ^ k ≤ 128 ^ 9 := Nat.pow_le_pow_right (by decide) g2
       omega
     · have := g5 (.inr (by simp; intro e; exact h1 (by rw [e]; rfl)))
       simpa [hi_zero] using this
theorem scan_hi : ∀ (q f : Nat) (r : List UInt8), scan (f + (hi q).length) 0 (hi q ++ r) = (scan f q r).map fun p => (p.1, p.2 + (hi q).length) := by
 intro q
 induction q using Nat.strongRecOn with
 | _ q ih =>
   intro f r
   by_cases h0 : q = 0
   · subst h0; simp [hi_zero]
   · rw [hi_pos (by omega)]
     have := ih (q / 128) (by omega) (f + 1) (UInt8.ofNat (q % 128 + 128) :: r)
     simp only [List.length_append, List.length_cons, List.length_nil, List.append_assoc, List.cons_append, List.nil_append]
     have e : f + ((hi (q / 128)).length + (0 + 1)) = f + 1 + (hi (q / 128)).length := by omega
     rw [e, this, scan]
     have e1 : (UInt8.ofNat (q % 128 + 128)).toNat = q % 128 + 128 := by simp; omega
     rw [e1, if_neg (by omega)]
     have e2 : q / 128 * 128 + (q % 128 + 128) % 128 = q := by omega
     rw [e2, Option.map_map]
     congr 1
     funext p
     simp only [Function.comp_apply, Prod.mk.injEq, true_and]
     omega
theorem hi_head : ∀ (q : Nat), 0 < q → ∃ c r, hi q = c :: r ∧ c.toNat ≠ 128 := by
 intro q
 induction q using Nat.strongRecOn with
 | _ q ih =>
   intro h0
   rw [hi_pos h0]
   by_cases h1 : q / 128 = 0
   · rw [h1, hi_zero]
     exact ⟨_, [], rfl, by simp; omega⟩
   · obtain ⟨c, r, h2, h3⟩ := ih (q / 128) (by omega) (by omega)
     rw [h2]
     exact ⟨c, r ++ [UInt8.ofNat (q % 128 + 128)], rfl, h3⟩
theorem put_head (n : Nat) : ∃ c r, put n = c :: r ∧ c.toNat ≠ 128 := by
 by_cases h1 : n / 128 = 0
 · rw [put, h1, hi_zero]
   exact ⟨_, [], rfl, by simp; omega⟩
 · obtain ⟨c, r, h2, h3⟩ := hi_head (n / 128) (by omega)
   rw [put, h2]
   exact ⟨c, _, rfl, h3⟩
theorem get_put (n : Nat) (r : List UInt8) (h : n ≤ 9223372036854775807) : get (put n ++ r) = some (n, (put n).length) := by
 obtain ⟨c, t, hc, h1⟩ := put_head n
 rw [hc, List.cons_append, get, if_neg h1, ← List.cons_append, ← hc]
 have hl := hi_length 8 (n / 128) (by omega)
 obtain ⟨f, hf⟩ : ∃ f, 9 = (f + 1) + (hi (n / 128)).length := ⟨8 - (hi (n / 128)).length, by omega⟩
 rw [put, List.append_assoc, hf, scan_hi, List.cons_append, scan]
 have e1 : (UInt8.ofNat (n % 128)).toNat = n % 128 := by simp; omega
 rw [e1, if_pos (by omega)]
 simp
 omega
def val (acc : Nat) (l : List UInt8) : Nat := l.foldl (fun a c => a * 128 + c.toNat % 128) acc
def bigK : Nat → Nat → List UInt8
 | 0, _ => []
 | k + 1, n => bigK k (n / 256) ++ [UInt8.ofNat (n % 256)]
def big (n : Nat) : List UInt8 := bigK 8 n
theorem bigK_length : ∀ (k n : Nat), (bigK k n).length = k := by
 intro k
 induction k with
 | zero => intro n; rfl
 | succ k ih => intro n; simp [bigK, ih]
theorem big_length (n : Nat) : (big n).length = 8 := bigK_length 8 n
def val256 (acc : Nat) (l : List UInt8) : Nat := l.foldl (fun a c => a * 256 + c.toNat) acc
theorem val256_snoc (acc : Nat) (l : List UInt8) (c : UInt8) : val256 acc (l ++ [c]) = val256 acc l * 256 + c.toNat := by simp [val256]
theorem val256_lt_acc (l : List UInt8) : ∀ acc, val256 acc l < (acc + 1) * 256 ^ l.length := by
 induction l with
 | nil => intro acc; simp [val256]
 | cons c r ih =>
   intro acc
   have hc := c.toNat_lt
   have h := ih (acc * 256 + c.toNat)
   have h2 : (acc * 256 + c.toNat + 1) * 256 ^ r.length ≤ (acc + 1) * 256 * 256 ^ r.length := Nat.mul_le_mul_right _ (by omega)
   rw [List.length_cons, Nat.pow_succ, Nat.mul_comm (256 ^ r.length) 256, ← Nat.mul_assoc]
   exact Nat.lt_of_lt_of_le h h2
theorem val256_lt (l : List UInt8) : val256 0 l < 256 ^ l.length := by simpa using val256_lt_acc l 0
theorem val256_bigK : ∀ (k n : Nat), val256 0 (bigK k n) = n % 256 ^ k := by
 intro k
 induction k with
 | zero => intro n; simp [bigK, val256, Nat.mod_one]
 | succ k ih =>
   intro n
   have e : (UInt8.ofNat (n % 256)).toNat = n % 256 := by simp
   rw [bigK, val256_snoc, ih, e, Nat.pow_succ, Nat.mul_comm (256 ^ k) 256, Nat.mod_mul]
   omega
theorem bigK_val256 : ∀ (k : Nat) (l : List UInt8), l.length = k → bigK k (val256 0 l) = l := by
 intro k
 induction k with
 | zero => intro l h; simp only [List.length_eq_zero_iff] at h; subst h; rfl
 | succ k ih =>
   intro l h
   obtain ⟨r, c, rfl⟩ : ∃ r c, l = r ++ [c] := ⟨l.dropLast, l.getLast (by intro e; subst e; cases h), (List.dropLast_concat_getLast _).symm⟩
   have hc := c.toNat_lt
   rw [bigK, val256_snoc]
   have e1 : (val256 0 r * 256 + c.toNat) / 256 = val256 0 r := by omega
   have e2 : (val256 0 r * 256 + c.toNat) % 256 = c.toNat := by omega
   rw [e1, e2, ih r (by simpa using h), u8_of rfl]
theorem bigK_at : ∀ (k n i : Nat), i < k → (bigK k n).getD i 0 = UInt8.ofNat (n / 256 ^ (k - 1 - i) % 256) := by
 intro k
 induction k with
 | zero => intro n i h; omega
 | succ k ih =>
   intro n i h
   by_cases h1 : i < k
   · have e1 : (bigK (k + 1) n).getD i 0 = (bigK k (n / 256)).getD i 0 := by
      simp [bigK, List.getD, List.getElem?_append_left (show i < (bigK k (n / 256)).length by rw [bigK_length]; exact h1)]
     have e2 : k + 1 - 1 - i = (k - 1 - i) + 1 := by omega
     rw [e1, ih _ _ h1, e2, Nat.pow_succ, Nat.mul_comm, Nat.div_div_eq_div_mul]
   · have e : i = k := by omega
     subst e
     simp [bigK, List.getD, bigK_length]
theorem val256_cons (acc : Nat) (c : UInt8) (l : List UInt8) : val256 acc (c :: l) = val256 (acc * 256 + c.toNat) l := rfl
theorem val256_acc (l : List UInt8) : ∀ acc, val256 acc l = acc * 256 ^ l.length + val256 0 l := by
 induction l with
 | nil => intro acc; simp [val256]
 | cons c r ih =>
   intro acc
   rw [val256_cons, val256_cons, ih (acc * 256 + c.toNat), ih (0 * 256 + c.toNat), List.length_cons, Nat.pow_succ, Nat.add_mul, Nat.mul_assoc, Nat.mul_comm 256, Nat.zero_mul, Nat.zero_add]
   omega
def ofBig (l : List UInt8) : Option Nat := if l.length < 8 then none else if val256 0 (l.take 8) < 9223372036854775808 then some (val256 0 (l.take 8)) else none
theorem ofBig_some {l : List UInt8} {n : Nat} (h : ofBig l = some n) : 8 ≤ l.length ∧ n ≤ 9223372036854775807 ∧ l.take 8 = big n := by
 unfold ofBig at h
 split at h
 · cases h
 · split at h
   · rename_i h1 h2
     simp only [Option.some.injEq] at h
     subst h
     exact ⟨by omega, by omega, (bigK_val256 8 _ (by simp; omega)).symm⟩
   · cases h
theorem ofBig_big (n : Nat) (r : List UInt8) (h : n ≤ 9223372036854775807) : ofBig (big n ++ r) = some n := by
 unfold ofBig
 have e : (big n ++ r).take 8 = big n := by
  have := List.take_left (l₁ := big n) (l₂ := r)
  rwa [big_length] at this
 have e2 : val256 0 (big n) = n := by rw [big, val256_bigK]; omega
 rw [if_neg (by simp [big_length]), e, e2, if_pos (by omega)]
theorem top_byte (l : List UInt8) (h : 8 ≤ l.length) : val256 0 (l.take 8) < 9223372036854775808 ↔ (l.getD 0 0).toNat < 128 := by
 match l, h with
 | c :: r, h =>
   have h7 : (r.take 7).length = 7 := by simp at h ⊢; omega
   have h1 := val256_lt (r.take 7)
   have h2 := val256_acc (r.take 7) (0 * 256 + c.toNat)
   rw [h7] at h1 h2
   rw [List.take_succ_cons, val256_cons, h2]
   simp only [List.getD_cons_zero]
   omega
def putText (t : List UInt8) : List UInt8 := put t.length ++ t
def getText (l : List UInt8) : Option (List UInt8 × Nat) :=
 match get l with
 | none => none
 | some (n, k) => if n ≤ l.length - k then some ((l.drop k).take n, k + n) else none
theorem getText_putText (t r : List UInt8) (h : t.length ≤ 9223372036854775807) : getText (putText t ++ r) = some (t, (putText t).length) := by
 unfold getText putText
 rw [List.append_assoc, get_put _ _ h]
 simp
theorem getText_some {l t : List UInt8} {k : Nat} (h : getText l = some (t, k)) : k ≤ l.length ∧ t.length ≤ k ∧ l.take k = putText t ∧ (∃ j, get l = some (t.length, j) ∧ k = j + t.length) := by
 unfold getText at h
 cases hg : get l with
 | none => rw [hg] at h; cases h
 | some p =>
   obtain ⟨n, j⟩ := p
   rw [hg] at h
   simp only at h
   obtain ⟨g1, g2, g3, g4, g5⟩ := get_some hg
   split at h
   · rename_i hle
     simp only [Option.some.injEq, Prod.mk.injEq] at h
     obtain ⟨rfl, rfl⟩ := h
     have e : ((l.drop j).take n).length = n := by simp; omega
     refine ⟨by omega, by rw [e]; omega, ?_, j, by rw [e], by rw [e]⟩
     rw [putText, e, ← g5, List.take_add]
   · cases h
open Go
theorem bl_irrefl : ∀ x : List UInt8, Op.bytesLess x x = false
 | [] => rfl
 | a :: x => by simp [Op.bytesLess, bl_irrefl x]
theorem bl_asymm : ∀ {x y : List UInt8}, Op.bytesLess x y = true → Op.bytesLess y x = false
 | [], [], h => by simp [Op.bytesLess] at h
 | [], _ :: _, _ => rfl
 | _ :: _, [], h => by simp [Op.bytesLess] at h
 | a :: x, b :: y, h => by
   simp only [Op.bytesLess, Bool.or_eq_true, decide_eq_true_eq, Bool.and_eq_true, beq_iff_eq] at h
   simp only [Op.bytesLess, Bool.or_eq_false_iff, decide_eq_false_iff_not, Bool.and_eq_false_iff, beq_eq_false_iff_ne]
   simp only [UInt8.lt_iff_toNat_lt] at h ⊢
   rcases h with h | ⟨rfl, h⟩
   · exact ⟨by omega, .inl (fun e => by rw [e] at h; omega)⟩
   · exact ⟨by omega, .inr (bl_asymm h)⟩
theorem bl_total : ∀ {x y : List UInt8}, Op.bytesLess x y = false → Op.bytesLess y x = false → x = y
 | [], [], _, _ => rfl
 | [], _ :: _, h, _ => by simp [Op.bytesLess] at h
 | _ :: _, [], _, h => by simp [Op.bytesLess] at h
 | a :: x, b :: y, h, k => by
   simp only [Op.bytesLess, Bool.or_eq_false_iff, decide_eq_false_iff_not, Bool.and_eq_false_iff, beq_eq_false_iff_ne, UInt8.lt_iff_toNat_lt] at h k
   have e : a = b := UInt8.toNat_inj.1 (by omega)
   subst e
   have h1 : Op.bytesLess x y = false := by rcases h.2 with h | h; exact absurd rfl h; exact h
   have h2 : Op.bytesLess y x = false := by rcases k.2 with h | h; exact absurd rfl h; exact h
   rw [bl_total h1 h2]
theorem bl_trans : ∀ {x y z : List UInt8}, Op.bytesLess x y = true → Op.bytesLess y z = true → Op.bytesLess x z = true
 | _, [], _, h, _ => by cases ‹List UInt8› <;> simp [Op.bytesLess] at h
 | _, _ :: _, [], _, h => by simp [Op.bytesLess] at h
 | [], _ :: _, _ :: _, _, _ => rfl
 | a :: x, b :: y, c :: z, h, k => by
   simp only [Op.bytesLess, Bool.or_eq_true, decide_eq_true_eq, Bool.and_eq_true, beq_iff_eq, UInt8.lt_iff_toNat_lt] at h k ⊢
   rcases h with h | ⟨rfl, h⟩
   · rcases k with k | ⟨rfl, k⟩
     · exact .inl (by omega)
     · exact .inl h
   · rcases k with k | ⟨rfl, k⟩
     · exact .inl k
     · exact .inr ⟨rfl, bl_trans h k⟩
theorem bl_cases (u v : List UInt8) : (Op.bytesLess u v = true ∧ Op.bytesLess v u = false ∧ (u == v) = false ∧ (v == u) = false) ∨ (Op.bytesLess u v = false ∧ Op.bytesLess v u = false ∧ u = v) ∨ (Op.bytesLess u v = false ∧ Op.bytesLess v u = true ∧ (u == v) = false ∧ (v == u) = false) := by
 cases h : Op.bytesLess u v with
 | true =>
   refine .inl ⟨rfl, bl_asymm h, ?_, ?_⟩ <;> (rw [beq_eq_false_iff_ne]; rintro rfl; rw [bl_irrefl] at h; cases h)
 | false =>
   cases k : Op.bytesLess v u with
   | true => refine .inr (.inr ⟨rfl, rfl, ?_, ?_⟩) <;> (rw [beq_eq_false_iff_ne]; rintro rfl; rw [bl_irrefl] at k; cases k)
   | false => exact .inr (.inl ⟨rfl, rfl, bl_total h k⟩)
end Spoor
namespace Go
open Go.RowKit
def Grows (w w' : World) : Prop := Below w.heap.size w w'
theorem Grows.refl (w : World) : Grows w w := Below.refl _ _
theorem Grows.trans {a b c : World} (h : Grows a b) (k : Grows b c) : Grows a c := Below.trans h (Below.mono k h.size)
theorem Grows.below {a b c : World} (h : Grows a b) (k : Below b.heap.size b c) : Grows a c := h.trans k
theorem Grows.drew {a b : World} (h : Grows a b) : Grows a b.drew := Below.drew h
theorem Grows.ex (w : World) : ∃ x, Grows w x := ⟨w, Grows.refl w⟩
@[go_sem] theorem Grows.all (w : World) (p : Prop) : (∀ x, Grows w x → p) ↔ p := ⟨fun h => h w (Grows.refl w), fun h _ _ => h⟩
theorem Grows.call {P : Program} {f : FuncId} {args : Array Value} {w w' : World} {v : Value} (hg : Grows w w')
 (h : Calls P f args w' fun e w'' => e = .returned v ∧ Below w'.heap.size w' w'') : Calls P f args w' fun e w'' => e = .returned v ∧ Grows w w'' :=
 h.mono fun _ _ ⟨he, hb⟩ => ⟨he, hg.below hb⟩
structure Laid where
 blocks : Array Obj
 drawn : Nat
instance : Inhabited Laid := ⟨⟨#[], 0⟩⟩
def World.more (w : World) (e : Laid) : World := { w with heap := w.heap ++ e.blocks, drawn := e.drawn }
theorem World.block_more (w : World) (e : Laid) (k : Nat) (h : k < w.heap.size) : (w.more e).heap[k]? = w.heap[k]? := by
 show (w.heap ++ e.blocks)[k]? = _
 rw [Array.getElem?_append_left h]
@[go_sem] theorem World.cell?_more (w : World) (e : Laid) (b o : Nat) (s : Option Nat) (h : b < w.heap.size) : (w.more e).cell? ⟨b, o, s⟩ = w.cell? ⟨b, o, s⟩ := by
  unfold World.cell?
  rw [World.block_more w e _ h]
@[go_sem] theorem World.frozen?_more (w : World) (e : Laid) (b o : Nat) (s : Option Nat) (h : b < w.heap.size) : (w.more e).frozen? ⟨b, o, s⟩ = w.frozen? ⟨b, o, s⟩ := by
  unfold World.frozen?
  rw [World.block_more w e _ h]
theorem World.below_more (w : World) (e : Laid) : Below w.heap.size w (w.more e) :=
 ⟨rfl, rfl, rfl, by show _ ≤ (w.heap ++ e.blocks).size; rw [Array.size_append]; omega, fun k hk => World.block_more w e k hk⟩
theorem World.more_of {w w' : World} (h : Below w.heap.size w w') : ∃ e, w' = w.more e := by
 obtain ⟨h1, h2, h3, h4, h5⟩ := h
 refine ⟨⟨w'.heap.extract w.heap.size w'.heap.size, w'.drawn⟩, ?_⟩
 have hh : w'.heap = w.heap ++ w'.heap.extract w.heap.size w'.heap.size := by
  apply Array.ext_getElem?
  intro i
  by_cases hi : i < w.heap.size
  · rw [Array.getElem?_append_left hi, h5 i hi]
  · rw [Array.getElem?_append_right (by omega), Array.getElem?_extract]
    by_cases hj : i < w'.heap.size
    · rw [if_pos (by omega)]
      congr 1
      omega
    · rw [if_neg (by omega), Array.getElem?_eq_none (by omega)]
 cases w
 cases w'
 simp only [World.more] at *
 subst h1
 subst h2
 subst h3
 rw [← hh]
theorem Calls.more {P : Program} {f : FuncId} {args : Array Value} {w : World} {e : Laid} {v : Value}
 (h : Calls P f args (w.more e) fun e' w'' => e' = .returned v ∧ Below (w.more e).heap.size (w.more e) w'') : Calls P f args (w.more e) fun e' w'' => e' = .returned v ∧ ∃ e2, w'' = w.more e2 :=
 h.mono fun _ _ ⟨he, hb⟩ => ⟨he, World.more_of ((World.below_more w e).trans (hb.mono (World.below_more w e).size))⟩
theorem wp_region_more {P : Program} {id : Nat} {Q : Exit → Act → World → Prop} {a : Act} {w : World} {l : List Oper} (hm : P.follows .mixedOrders = true) (hB : Region.lexB .any l.toArray = true)
 (h : wpQuiet P l.toArray (fun w' => ∃ e, w' = w.more e) (fun a' => ∀ w', (∃ e, w' = w.more e) → Q .normal a' w') l a) : (Code.region id l.toArray true).wp P Q a w :=
 wp_region_quiet (C := fun w' => ∃ e, w' = w.more e) hm hB (World.more_of (Below.drew (Below.refl _ w))) (by simpa using h)
theorem wp_region_tail {P : Program} {id : Nat} {Q : Exit → Act → World → Prop} {a : Act} {w : World} {l : List Oper} (n : Nat) (hm : P.follows .mixedOrders = true) (hB : Region.lexTailB .any l.toArray n = true)
 (h : wpStill P l.toArray w.drew (fun a' => wpList P l.toArray Q (l.drop n) a' w.drew) (l.take n) a) : (Code.region id l.toArray true).wp P Q a w :=
 wp_region_still_tail n hm hB h
theorem Calls.turned {P : Program} {f : FuncId} {args : Array Value} {w : World} {v : Value} (h : Calls P f args w fun e w' => e = .returned v ∧ w = w') : Calls P f args w fun e w' => e = .returned v ∧ w' = w :=
 h.mono fun _ _ ⟨a, b⟩ => ⟨a, b.symm⟩
end Go
namespace Go.Opens
open Go.ChangeShapes Go.WideShapes Go.Deep
section
variable {H : Type} {enc : TypeId × Value → H} {P : Program} {w : World} {base : Nat} {spare : Nat → Bool} {held : Bool}
theorem open_fields {r : Reach} {b0 : Nat} {t : TypeId} {fs : Array Field} {v : Value} {d : DataW H} {p : List MemPlace} (hs : P.underlying t = some (.struct fs)) (hone : oneCellFields P fs = true) (hC : P.cellsOf t = fs.size)
 (hv : Value.okWide P w r b0 t v) (h : DataW.Trod enc P w base spare held t v d p) :
 ∃ (cs : List Value) (ys : List (DataW H × List MemPlace)) (n : Nat), v = .agg cs.toArray ∧ d = .agg (ys.map (·.1)) ∧ p = ys.flatMap (·.2) ∧ cs.length = fs.size ∧ ys.length = fs.size ∧
  ∀ (j : Nat) (f : Field) (c : Value) (y : DataW H × List MemPlace), fs[j]? = some f → cs[j]? = some c → ys[j]? = some y → DataW.trod enc P w base spare held n f.type [c] = some y := by
 obtain ⟨cs, rfl, hsz⟩ := okWide_struct hs hv
 obtain ⟨fuel, hf⟩ := h
 obtain ⟨xs, n, _, hx, _, hlen, hg⟩ := DataW.trod_struct hs hf
 simp only [Prod.mk.injEq] at hx
 refine ⟨cs.toList, xs, n, by simp, hx.1, hx.2, by simpa using hsz.trans hC, hlen, fun j f c y hj hc hy => ?_⟩
 have h1 := hg j f hj
 obtain ⟨ho, hk⟩ := hone_of hone j f hj
 rw [ho, hk, hy] at h1
 have hcs : cs[j]? = some c := by simpa using hc
 have e : ((Value.agg cs).cells.toList.drop j).take 1 = [c] := by
  show (cs.toList.drop j).take 1 = [c]
  have hjl : j < cs.toList.length := by
   have := (Array.getElem?_eq_some_iff.1 hcs).1
   simpa using this
  rw [List.drop_eq_getElem_cons hjl]
  have : cs.toList[j] = c := by
   have := List.getElem?_eq_getElem hjl
   rw [hc] at this
   exact (Option.some.inj this).symm
  rw [this]
  rfl
 rw [e] at h1
 exact h1
theorem okWide_array {r : Reach} {b0 : Nat} {t : TypeId} {n : Nat} {e : TypeId} {v : Value} (ht : P.underlying t = some (.array n e)) (h : Value.okWide P w r b0 t v) : ∃ cs, v = .agg cs ∧ cs.size = P.cellsOf t := by
 simp only [Value.okWide, ht] at h
 obtain ⟨cs, h1, h2, _⟩ := h
 exact ⟨cs, h1, h2⟩
theorem open_array1 {r : Reach} {b0 : Nat} {t : TypeId} {n : Nat} {e : TypeId} {v : Value} {d : DataW H} {p : List MemPlace} (hs : P.underlying t = some (.array n e)) (he : P.cellsOf e = 1) (hC : P.cellsOf t = n)
 (hv : Value.okWide P w r b0 t v) (h : DataW.Trod enc P w base spare held t v d p) :
 ∃ (cs : List Value) (ys : List (DataW H × List MemPlace)) (m : Nat), v = .agg cs.toArray ∧ d = .agg (ys.map (·.1)) ∧ p = ys.flatMap (·.2) ∧ cs.length = n ∧ ys.length = n ∧
  ∀ (j : Nat) (c : Value) (y : DataW H × List MemPlace), cs[j]? = some c → ys[j]? = some y → DataW.trod enc P w base spare held m e [c] = some y := by
 obtain ⟨cs, rfl, hsz⟩ := okWide_array hs hv
 obtain ⟨fuel, hf⟩ := h
 obtain ⟨xs, m, _, hx, _, hlen, hg⟩ := DataW.trod_array hs hf
 simp only [Prod.mk.injEq] at hx
 refine ⟨cs.toList, xs, m, by simp, hx.1, hx.2, by simpa using hsz.trans hC, hlen, fun j c y hc hy => ?_⟩
 have hjl : j < cs.toList.length := (List.getElem?_eq_some_iff.1 hc).1
 have h1 := hg j (by have := hsz.trans hC; simp at hjl; omega)
 rw [he, hy, Nat.mul_one] at h1
 have e : ((Value.agg cs).cells.toList.drop j).take 1 = [c] := by
  show (cs.toList.drop j).take 1 = [c]
  rw [List.drop_eq_getElem_cons hjl]
  have : cs.toList[j] = c := by
   have := List.getElem?_eq_getElem hjl
   rw [hc] at this
   exact (Option.some.inj this).symm
  rw [this]
  rfl
 rw [e] at h1
 exact h1
end
section
variable {H : Type} {P : Program} {ts : List TypeId} {ds : List (DataW H)}
end
section
variable {H : Type} {enc : TypeId × Value → H} {P : Program} {w : World} {base : Nat} {spare : Nat → Bool} {held : Bool}
theorem elem_fields {fs : Array Field} {t : TypeId} {n : Nat} {cs : List Value} {x : DataW H × List MemPlace} (hs : P.underlying t = some (.struct fs)) (hone : oneCellFields P fs = true) (hcl : cs.length = fs.size)
 (hf : DataW.trod enc P w base spare held n t cs = some x) :
 ∃ (ys : List (DataW H × List MemPlace)) (m : Nat), ys.length = fs.size ∧ ∀ (j : Nat) (f : Field) (c : Value) (y : DataW H × List MemPlace), fs[j]? = some f → cs[j]? = some c → ys[j]? = some y → DataW.trod enc P w base spare held m f.type [c] = some y := by
 obtain ⟨xs, m, _, hx, _, hlen, hg⟩ := DataW.trod_struct hs hf
 refine ⟨xs, m, hlen, fun j f c y hj hc hy => ?_⟩
 have h1 := hg j f hj
 obtain ⟨ho, hk⟩ := hone_of hone j f hj
 rw [ho, hk, hy] at h1
 have e : (cs.drop j).take 1 = [c] := by
  have hjl : j < cs.length := (List.getElem?_eq_some_iff.1 hc).1
  rw [List.drop_eq_getElem_cons hjl]
  have : cs[j] = c := by
   have := List.getElem?_eq_getElem hjl
   rw [hc] at this
   exact (Option.some.inj this).symm
  rw [this]
  rfl
 rw [e] at h1
 exact h1
theorem open_structs {t e : TypeId} {fs : Array Field} {v : Value} {d : DataW H} {p : List MemPlace} (ht : P.underlying t = some (.slice e)) (hs : P.underlying e = some (.struct fs)) (hone : oneCellFields P fs = true) (hC : P.cellsOf e = fs.size)
 (h : DataW.Trod enc P w base spare held t v d p) (hcell : v.cells.toList = [v]) :
 v = .slice none 0 0 ∨ ∃ (a : Addr) (len cap : Nat), v = .slice (some a) len cap ∧ len ≤ cap ∧ cap ≤ maxLen ∧
  ∀ i, i < len → ∃ cs : List Value, cs.length = fs.size ∧ (∀ j u, cs[j]? = some u → w.cell? (a.add (i * fs.size + j)) = some u) ∧
   ∃ (ys : List (DataW H × List MemPlace)) (m : Nat), ys.length = fs.size ∧ ∀ (j : Nat) (f : Field) (c : Value) (y : DataW H × List MemPlace), fs[j]? = some f → cs[j]? = some c → ys[j]? = some y → DataW.trod enc P w base spare held m f.type [c] = some y := by
 obtain ⟨fuel, hf⟩ := h
 rw [hcell] at hf
 rcases open_slice ht hf with ⟨h1, _⟩ | ⟨a, len, cap, m, n, D, Pl, h1, _, hl, hm, hmm, _, hi⟩
 · simp only [List.cons.injEq, and_true] at h1
   exact .inl h1
 · simp only [List.cons.injEq, and_true] at h1
   refine .inr ⟨a, len, cap, h1, hl, hm, fun i hil => ?_⟩
   obtain ⟨cs, hc, ht'⟩ := hi i (by rw [hmm]; split <;> omega)
   rw [hC] at hc
   obtain ⟨_, hcl, hat⟩ := World.cells?_some hc
   refine ⟨cs, hcl, fun j u hj => ?_, elem_fields hs hone hcl ht'⟩
   have hjl : j < fs.size := by
    have := (List.getElem?_eq_some_iff.1 hj).1
    omega
   rw [← Go.Deep.add_add, hat j hjl]
   exact hj
end
end Go.Opens
