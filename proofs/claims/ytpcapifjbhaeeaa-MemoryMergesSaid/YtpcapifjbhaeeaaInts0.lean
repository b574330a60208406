/- Plain facts, no program in sight: what the varint of a number, its eight bytes, and the encoding of a text are, as lists of bytes, and how they are read. No condition but those that each theorem names. -/
namespace Spoor

/-- the digits in base 128, each flagged, most significant first; none for 0 -/
def hi (n : Nat) : List UInt8 := if n = 0 then [] else hi (n / 128) ++ [UInt8.ofNat (n % 128 + 128)]
termination_by n
decreasing_by omega

/-- the varint of a number -/
def put (n : Nat) : List UInt8 := hi (n / 128) ++ [UInt8.ofNat (n % 128)]

theorem hi_zero : hi 0 = [] := by rw [hi]; simp
theorem hi_pos {n : Nat} (h : 0 < n) : hi n = hi (n / 128) ++ [UInt8.ofNat (n % 128 + 128)] := by
  rw [hi, if_neg (by omega)]

/-- k digits, each flagged -/
def digs (k n : Nat) : List UInt8 := (List.range k).map fun i => UInt8.ofNat (n / 128 ^ (k - 1 - i) % 128 + 128)

theorem digs_length (k n : Nat) : (digs k n).length = k := by simp [digs]

theorem digs_succ (k n : Nat) : digs (k + 1) n = digs k (n / 128) ++ [UInt8.ofNat (n % 128 + 128)] := by
  unfold digs
  rw [List.range_succ, List.map_append]
  congr 1
  · apply List.map_congr_left
    intro i hi
    have hi := List.mem_range.1 hi
    have e : k + 1 - 1 - i = (k - 1 - i) + 1 := by omega
    rw [e, Nat.pow_succ, Nat.mul_comm, Nat.div_div_eq_div_mul]
  · simp

theorem hi_digs : ∀ (k n : Nat), n < 128 ^ k → (k = 0 ∨ 128 ^ (k - 1) ≤ n) → hi n = digs k n := by
  intro k
  induction k with
  | zero => intro n h _; have : n = 0 := by simpa using h
            subst this; simp [hi_zero, digs]
  | succ k ih =>
    intro n h h'
    have h1 : 128 ^ k ≤ n := by simpa using h'
    have hp : 0 < 128 ^ k := Nat.pow_pos (by decide)
    rw [hi_pos (by omega), digs_succ]
    congr 1
    apply ih
    · rw [Nat.pow_succ] at h; omega
    · cases k with
      | zero => exact .inl rfl
      | succ k =>
        right
        simp only [Nat.add_sub_cancel]
        rw [Nat.pow_succ] at h1
        omega

/-- what the program lays: its digits, all flagged, and then the last one without its flag -/
theorem put_digs (m n : Nat) (hm : 1 ≤ m) (h : n < 128 ^ m) (h' : m = 1 ∨ 128 ^ (m - 1) ≤ n) :
    put n = (digs m n).set (m - 1) (UInt8.ofNat (n % 128)) := by
  obtain ⟨k, rfl⟩ : ∃ k, m = k + 1 := ⟨m - 1, by omega⟩
  rw [digs_succ, put, hi_digs k (n / 128)]
  · rw [List.set_append_right _ _ (by rw [digs_length]; omega)]
    simp [digs_length]
  · rw [Nat.pow_succ] at h; omega
  · cases k with
    | zero => exact .inl rfl
    | succ k =>
      right
      have h1 : 128 ^ (k + 1) ≤ n := by simpa using h'
      simp only [Nat.add_sub_cancel]
      rw [Nat.pow_succ] at h1
      omega

/-- how many digits there are, by the bits -/
def many (L : Nat) : Nat := max 1 ((L + 6) / 7)
theorem pow128 (k : Nat) : (128 : Nat) ^ k = 2 ^ (7 * k) := by rw [Nat.pow_mul]
theorem put_many (L n : Nat) (h : n < 2 ^ L) (h' : L = 0 ∨ 2 ^ (L - 1) ≤ n) :
    put n = (digs (many L) n).set (many L - 1) (UInt8.ofNat (n % 128)) := by
  apply put_digs
  · unfold many; omega
  · rw [pow128]
    exact Nat.lt_of_lt_of_le h (Nat.pow_le_pow_right (by decide) (by unfold many; omega))
  · by_cases hm : many L = 1
    · exact .inl hm
    · right
      unfold many at hm ⊢
      rcases h' with rfl | h'
      · exact absurd rfl hm
      · rw [pow128]
        exact Nat.le_trans (Nat.pow_le_pow_right (by decide) (by omega)) h'

theorem hi_length (k : Nat) : ∀ n : Nat, n < 128 ^ k → (hi n).length ≤ k := by
  induction k with
  | zero => intro n h; have : n = 0 := by simpa using h
            subst this; simp [hi_zero]
  | succ k ih =>
    intro n h
    by_cases h0 : n = 0
    · subst h0; simp [hi_zero]
    · rw [hi_pos (by omega)]
      have := ih (n / 128) (by rw [Nat.pow_succ] at h; omega)
      simp only [List.length_append, List.length_cons, List.length_nil]
      omega
theorem put_length (k n : Nat) (h : n < 128 ^ (k + 1)) : (put n).length ≤ k + 1 := by
  have := hi_length k (n / 128) (by rw [Nat.pow_succ] at h; omega)
  simp only [put, List.length_append, List.length_cons, List.length_nil]
  omega
theorem put_length9 (n : Nat) (h : n ≤ 9223372036854775807) : (put n).length ≤ 9 := put_length 8 n (by omega)
theorem put_length_pos (n : Nat) : 1 ≤ (put n).length := by simp [put]
theorem hi_mono : ∀ (b a : Nat), a ≤ b → (hi a).length ≤ (hi b).length := by
  intro b
  induction b using Nat.strongRecOn with
  | _ b ih =>
    intro a h
    by_cases h0 : a = 0
    · subst h0; simp [hi_zero]
    · rw [hi_pos (n := a) (by omega), hi_pos (n := b) (by omega)]
      have := ih (b / 128) (by omega) (a / 128) (by omega)
      simp only [List.length_append, List.length_cons, List.length_nil]
      omega
theorem put_mono (a b : Nat) (h : a ≤ b) : (put a).length ≤ (put b).length := by
  have := hi_mono (b / 128) (a / 128) (by omega)
  simp only [put, List.length_append, List.length_cons, List.length_nil]
  omega
theorem put_one (a : Nat) : (put a).length = 1 ↔ a < 128 := by
  constructor
  · intro h
    by_cases h0 : a < 128
    · exact h0
    · rw [put, hi_pos (by omega)] at h
      simp at h
  · intro h
    have : a / 128 = 0 := by omega
    rw [put, this, hi_zero]; rfl

/-- a number is read: at most so many digits -/
def scan : Nat → Nat → List UInt8 → Option (Nat × Nat)
  | 0, _, _ => none
  | _ + 1, _, [] => none
  | f + 1, acc, c :: r => if c.toNat < 128 then some (acc * 128 + c.toNat, 1) else (scan f (acc * 128 + c.toNat % 128) r).map fun p => (p.1, p.2 + 1)

/-- the number whose varint a list begins with, and how many bytes that has -/
def get : List UInt8 → Option (Nat × Nat)
  | [] => none
  | c :: r => if c.toNat = 128 then none else scan 9 0 (c :: r)

theorem u8_of {c : UInt8} {n : Nat} (h : c.toNat = n) : UInt8.ofNat n = c := by subst h; simp

theorem scan_some : ∀ (f acc : Nat) (l : List UInt8) (n k : Nat), scan f acc l = some (n, k) →
    0 < k ∧ k ≤ f ∧ k ≤ l.length ∧ n < (acc + 1) * 128 ^ k ∧ ((0 < acc ∨ l.head? ≠ some 128) → hi acc ++ l.take k = put n) := by
  intro f
  induction f with
  | zero => intro acc l n k h; simp [scan] at h
  | succ f ih =>
    intro acc l n k h
    match l, h with
    | [], h => simp [scan] at h
    | c :: r, h =>
      rw [scan] at h
      have hc := c.toNat_lt
      by_cases h1 : c.toNat < 128
      · rw [if_pos h1] at h
        simp only [Option.some.injEq, Prod.mk.injEq] at h
        obtain ⟨rfl, rfl⟩ := h
        refine ⟨by omega, by omega, by simp, by omega, fun _ => ?_⟩
        have e1 : (acc * 128 + c.toNat) / 128 = acc := by omega
        have e2 : (acc * 128 + c.toNat) % 128 = c.toNat := by omega
        rw [put, e1, e2, u8_of rfl]
        simp
      · rw [if_neg h1, Option.map_eq_some_iff] at h
        obtain ⟨⟨n', k'⟩, h2, h3⟩ := h
        simp only [Prod.mk.injEq] at h3
        obtain ⟨rfl, rfl⟩ := h3
        obtain ⟨g1, g2, g3, g4, g5⟩ := ih _ _ _ _ h2
        refine ⟨by omega, by omega, by simp; omega, ?_, fun ha => ?_⟩
        · have : (acc * 128 + c.toNat % 128 + 1) * 128 ^ k' ≤ (acc + 1) * 128 * 128 ^ k' := Nat.mul_le_mul_right _ (by omega)
          rw [Nat.pow_succ, Nat.mul_comm (128 ^ k') 128, ← Nat.mul_assoc]
          omega
        · have hpos : 0 < acc * 128 + c.toNat % 128 := by
            rcases ha with ha | ha
            · omega
            · have : c.toNat ≠ 128 := fun e => ha (by rw [← u8_of e]; rfl)
              omega
          have g6 := g5 (.inl hpos)
          rw [← g6, hi_pos hpos]
          have e1 : (acc * 128 + c.toNat % 128) / 128 = acc := by omega
          have e2 : (acc * 128 + c.toNat % 128) % 128 + 128 = c.toNat := by omega
          rw [e1, e2, u8_of rfl, List.append_assoc]
          rfl

/-- what is got was put -/
theorem get_some {l : List UInt8} {n k : Nat} (h : get l = some (n, k)) : 0 < k ∧ k ≤ 9 ∧ k ≤ l.length ∧ n ≤ 9223372036854775807 ∧ l.take k = put n := by
  match l, h with
  | [], h => simp [get] at h
  | c :: r, h =>
    rw [get] at h
    by_cases h1 : c.toNat = 128
    · rw [if_pos h1] at h; cases h
    · rw [if_neg h1] at h
      obtain ⟨g1, g2, g3, g4, g5⟩ := scan_some _ _ _ _ _ h
      refine ⟨g1, g2, g3, ?_, ?_⟩
      · have : 128 ^ k ≤ 128 ^ 9 := Nat.pow_le_pow_right (by decide) g2
        omega
      · have := g5 (.inr (by simp; intro e; exact h1 (by rw [e]; rfl)))
        simpa [hi_zero] using this

theorem scan_hi : ∀ (q f : Nat) (r : List UInt8), scan (f + (hi q).length) 0 (hi q ++ r) = (scan f q r).map fun p => (p.1, p.2 + (hi q).length) := by
  intro q
  induction q using Nat.strongRecOn with
  | _ q ih =>
    intro f r
    by_cases h0 : q = 0
    · subst h0; simp [hi_zero]
    · rw [hi_pos (by omega)]
      have := ih (q / 128) (by omega) (f + 1) (UInt8.ofNat (q % 128 + 128) :: r)
      simp only [List.length_append, List.length_cons, List.length_nil, List.append_assoc, List.cons_append, List.nil_append]
      have e : f + ((hi (q / 128)).length + (0 + 1)) = f + 1 + (hi (q / 128)).length := by omega
      rw [e, this, scan]
      have e1 : (UInt8.ofNat (q % 128 + 128)).toNat = q % 128 + 128 := by simp; omega
      rw [e1, if_neg (by omega)]
      have e2 : q / 128 * 128 + (q % 128 + 128) % 128 = q := by omega
      rw [e2, Option.map_map]
      congr 1
      funext p
      simp only [Function.comp_apply, Prod.mk.injEq, true_and]
      omega

theorem hi_head : ∀ (q : Nat), 0 < q → ∃ c r, hi q = c :: r ∧ c.toNat ≠ 128 := by
  intro q
  induction q using Nat.strongRecOn with
  | _ q ih =>
    intro h0
    rw [hi_pos h0]
    by_cases h1 : q / 128 = 0
    · rw [h1, hi_zero]
      exact ⟨_, [], rfl, by simp; omega⟩
    · obtain ⟨c, r, h2, h3⟩ := ih (q / 128) (by omega) (by omega)
      rw [h2]
      exact ⟨c, r ++ [UInt8.ofNat (q % 128 + 128)], rfl, h3⟩
theorem put_head (n : Nat) : ∃ c r, put n = c :: r ∧ c.toNat ≠ 128 := by
  by_cases h1 : n / 128 = 0
  · rw [put, h1, hi_zero]
    exact ⟨_, [], rfl, by simp; omega⟩
  · obtain ⟨c, r, h2, h3⟩ := hi_head (n / 128) (by omega)
    rw [put, h2]
    exact ⟨c, _, rfl, h3⟩

/-- what was put is got, whatever stands behind -/
theorem get_put (n : Nat) (r : List UInt8) (h : n ≤ 9223372036854775807) : get (put n ++ r) = some (n, (put n).length) := by
  obtain ⟨c, t, hc, h1⟩ := put_head n
  rw [hc, List.cons_append, get, if_neg h1, ← List.cons_append, ← hc]
  have hl := hi_length 8 (n / 128) (by omega)
  obtain ⟨f, hf⟩ : ∃ f, 9 = (f + 1) + (hi (n / 128)).length := ⟨8 - (hi (n / 128)).length, by omega⟩
  rw [put, List.append_assoc, hf, scan_hi, List.cons_append, scan]
  have e1 : (UInt8.ofNat (n % 128)).toNat = n % 128 := by simp; omega
  rw [e1, if_pos (by omega)]
  simp
  omega

/-- nothing is got of what is cut off -/
theorem get_cut (n i : Nat) (h : n ≤ 9223372036854775807) (hi' : i < (put n).length) : get ((put n).take i) = none := by
  cases h1 : get ((put n).take i) with
  | none => rfl
  | some p =>
    obtain ⟨m, k⟩ := p
    obtain ⟨g1, g2, g3, g4, g5⟩ := get_some h1
    rw [List.length_take] at g3
    rw [List.take_take, Nat.min_eq_left (by omega)] at g5
    have h2 := get_put n [] h
    rw [List.append_nil, ← List.take_append_drop k (put n), g5, get_put m _ g4] at h2
    have h3 := congrArg List.length g5
    simp only [Option.some.injEq, Prod.mk.injEq, List.length_append, List.length_drop, List.length_take] at h2 h3
    omega

/-- the value of digits, flags aside -/
def val (acc : Nat) (l : List UInt8) : Nat := l.foldl (fun a c => a * 128 + c.toNat % 128) acc
theorem val_snoc (acc : Nat) (l : List UInt8) (c : UInt8) : val acc (l ++ [c]) = val acc l * 128 + c.toNat % 128 := by simp [val]
theorem val_lt_acc (l : List UInt8) : ∀ acc, val acc l < (acc + 1) * 128 ^ l.length := by
  induction l with
  | nil => intro acc; simp [val]
  | cons c r ih =>
    intro acc
    have h := ih (acc * 128 + c.toNat % 128)
    have h2 : (acc * 128 + c.toNat % 128 + 1) * 128 ^ r.length ≤ (acc + 1) * 128 * 128 ^ r.length := Nat.mul_le_mul_right _ (by omega)
    rw [List.length_cons, Nat.pow_succ, Nat.mul_comm (128 ^ r.length) 128, ← Nat.mul_assoc]
    exact Nat.lt_of_lt_of_le h h2
theorem val_lt (l : List UInt8) : val 0 l < 128 ^ l.length := by simpa using val_lt_acc l 0

theorem scan_flags : ∀ (j f acc : Nat) (l : List UInt8), j ≤ l.length → j ≤ f → (∀ i, i < j → 128 ≤ (l.getD i 0).toNat) →
    scan f acc l = (scan (f - j) (val acc (l.take j)) (l.drop j)).map fun p => (p.1, p.2 + j) := by
  intro j
  induction j with
  | zero => intro f acc l _ _ _; simp [val]
  | succ j ih =>
    intro f acc l h1 h2 h3
    match l, f, h1, h2 with
    | c :: r, f + 1, h1, h2 =>
      have h0 : 128 ≤ c.toNat := by simpa using h3 0 (by omega)
      rw [scan, if_neg (by omega), ih f _ r (by simpa using h1) (by omega) (fun i hi => by simpa using h3 (i + 1) (by omega)), Option.map_map]
      simp only [List.take_succ_cons, List.drop_succ_cons, Nat.add_sub_add_right, val, List.foldl_cons]
      rfl

/-- the reference's way: so many flagged bytes and one that has no flag -/
theorem get_flags (l : List UInt8) (j : Nat) (h1 : j < l.length) (h2 : j ≤ 8) (h3 : ∀ i, i < j → 128 ≤ (l.getD i 0).toNat) (h4 : (l.getD j 0).toNat < 128) :
    get l = if put (val 0 (l.take (j + 1))) = l.take (j + 1) then some (val 0 (l.take (j + 1)), j + 1) else none := by
  have hs := scan_flags j 9 0 l (by omega) (by omega) h3
  obtain ⟨f, hf⟩ : ∃ f, 9 - j = f + 1 := ⟨8 - j, by omega⟩
  have hd : l.drop j = l.getD j 0 :: l.drop (j + 1) := by
    rw [List.drop_eq_getElem_cons h1]; simp [List.getD, h1]
  have ht : l.take (j + 1) = l.take j ++ [l.getD j 0] := by
    rw [List.take_succ_eq_append_getElem h1]; simp [List.getD, h1]
  rw [hf, hd, scan, if_pos h4] at hs
  have hv : val 0 (l.take (j + 1)) = val 0 (l.take j) * 128 + (l.getD j 0).toNat := by rw [ht, val_snoc]; omega
  rw [← hv] at hs
  simp only [Option.map_some, Nat.add_comm 1 j] at hs
  match l, h1 with
  | c :: r, h1 =>
    rw [get]
    by_cases hc : c.toNat = 128
    · rw [if_pos hc, if_neg]
      intro e
      obtain ⟨d, t, he, hd'⟩ := put_head (val 0 ((c :: r).take (j + 1)))
      rw [e, List.take_succ_cons] at he
      simp only [List.cons.injEq] at he
      exact hd' (he.1 ▸ hc)
    · rw [if_neg hc, hs, if_pos]
      obtain ⟨_, _, _, _, g5⟩ := scan_some _ _ _ _ _ hs
      have := g5 (.inr (by simp; intro e; exact hc (by rw [e]; rfl)))
      simpa [hi_zero] using this.symm
theorem get_flags_none (l : List UInt8) (j : Nat) (h1 : j ≤ l.length) (h2 : j = l.length ∨ 8 < j) (h3 : ∀ i, i < j → 128 ≤ (l.getD i 0).toNat) : get l = none := by
  match l with
  | [] => rfl
  | c :: r =>
    rw [get]
    by_cases hc : c.toNat = 128
    · rw [if_pos hc]
    · rw [if_neg hc]
      by_cases h9 : j ≤ 9
      · rw [scan_flags j 9 0 _ h1 h9 h3]
        rcases h2 with h2 | h2
        · rw [h2, List.drop_length]
          cases 9 - (c :: r).length <;> rfl
        · have : j = 9 := by omega
          subst this; rfl
      · rw [scan_flags 9 9 0 _ (by omega) (by omega) (fun i hi => h3 i (by omega))]; rfl

/-! eight bytes -/
/-- k digits in base 256 -/
def bigK : Nat → Nat → List UInt8
  | 0, _ => []
  | k + 1, n => bigK k (n / 256) ++ [UInt8.ofNat (n % 256)]
def big (n : Nat) : List UInt8 := bigK 8 n
theorem bigK_length : ∀ (k n : Nat), (bigK k n).length = k := by
  intro k
  induction k with
  | zero => intro n; rfl
  | succ k ih => intro n; simp [bigK, ih]
theorem big_length (n : Nat) : (big n).length = 8 := bigK_length 8 n
def val256 (acc : Nat) (l : List UInt8) : Nat := l.foldl (fun a c => a * 256 + c.toNat) acc
theorem val256_snoc (acc : Nat) (l : List UInt8) (c : UInt8) : val256 acc (l ++ [c]) = val256 acc l * 256 + c.toNat := by simp [val256]
theorem val256_lt_acc (l : List UInt8) : ∀ acc, val256 acc l < (acc + 1) * 256 ^ l.length := by
  induction l with
  | nil => intro acc; simp [val256]
  | cons c r ih =>
    intro acc
    have hc := c.toNat_lt
    have h := ih (acc * 256 + c.toNat)
    have h2 : (acc * 256 + c.toNat + 1) * 256 ^ r.length ≤ (acc + 1) * 256 * 256 ^ r.length := Nat.mul_le_mul_right _ (by omega)
    rw [List.length_cons, Nat.pow_succ, Nat.mul_comm (256 ^ r.length) 256, ← Nat.mul_assoc]
    exact Nat.lt_of_lt_of_le h h2
theorem val256_lt (l : List UInt8) : val256 0 l < 256 ^ l.length := by simpa using val256_lt_acc l 0
theorem val256_bigK : ∀ (k n : Nat), val256 0 (bigK k n) = n % 256 ^ k := by
  intro k
  induction k with
  | zero => intro n; simp [bigK, val256, Nat.mod_one]
  | succ k ih =>
    intro n
    have e : (UInt8.ofNat (n % 256)).toNat = n % 256 := by simp
    rw [bigK, val256_snoc, ih, e, Nat.pow_succ, Nat.mul_comm (256 ^ k) 256, Nat.mod_mul]
    omega
theorem bigK_val256 : ∀ (k : Nat) (l : List UInt8), l.length = k → bigK k (val256 0 l) = l := by
  intro k
  induction k with
  | zero => intro l h; simp only [List.length_eq_zero_iff] at h; subst h; rfl
  | succ k ih =>
    intro l h
    obtain ⟨r, c, rfl⟩ : ∃ r c, l = r ++ [c] := ⟨l.dropLast, l.getLast (by intro e; subst e; cases h), (List.dropLast_concat_getLast _).symm⟩
    have hc := c.toNat_lt
    rw [bigK, val256_snoc]
    have e1 : (val256 0 r * 256 + c.toNat) / 256 = val256 0 r := by omega
    have e2 : (val256 0 r * 256 + c.toNat) % 256 = c.toNat := by omega
    rw [e1, e2, ih r (by simpa using h), u8_of rfl]
/-- its digit at a place -/
theorem bigK_at : ∀ (k n i : Nat), i < k → (bigK k n).getD i 0 = UInt8.ofNat (n / 256 ^ (k - 1 - i) % 256) := by
  intro k
  induction k with
  | zero => intro n i h; omega
  | succ k ih =>
    intro n i h
    by_cases h1 : i < k
    · have e1 : (bigK (k + 1) n).getD i 0 = (bigK k (n / 256)).getD i 0 := by
        simp [bigK, List.getD, List.getElem?_append_left (show i < (bigK k (n / 256)).length by rw [bigK_length]; exact h1)]
      have e2 : k + 1 - 1 - i = (k - 1 - i) + 1 := by omega
      rw [e1, ih _ _ h1, e2, Nat.pow_succ, Nat.mul_comm, Nat.div_div_eq_div_mul]
    · have e : i = k := by omega
      subst e
      simp [bigK, List.getD, bigK_length]
theorem val256_cons (acc : Nat) (c : UInt8) (l : List UInt8) : val256 acc (c :: l) = val256 (acc * 256 + c.toNat) l := rfl
theorem val256_acc (l : List UInt8) : ∀ acc, val256 acc l = acc * 256 ^ l.length + val256 0 l := by
  induction l with
  | nil => intro acc; simp [val256]
  | cons c r ih =>
    intro acc
    rw [val256_cons, val256_cons, ih (acc * 256 + c.toNat), ih (0 * 256 + c.toNat), List.length_cons, Nat.pow_succ, Nat.add_mul, Nat.mul_assoc, Nat.mul_comm 256, Nat.zero_mul, Nat.zero_add]
    omega

/-- the number whose eight bytes a list begins with -/
def ofBig (l : List UInt8) : Option Nat := if l.length < 8 then none else if val256 0 (l.take 8) < 9223372036854775808 then some (val256 0 (l.take 8)) else none
theorem ofBig_some {l : List UInt8} {n : Nat} (h : ofBig l = some n) : 8 ≤ l.length ∧ n ≤ 9223372036854775807 ∧ l.take 8 = big n := by
  unfold ofBig at h
  split at h
  · cases h
  · split at h
    · rename_i h1 h2
      simp only [Option.some.injEq] at h
      subst h
      exact ⟨by omega, by omega, (bigK_val256 8 _ (by simp; omega)).symm⟩
    · cases h
theorem ofBig_big (n : Nat) (r : List UInt8) (h : n ≤ 9223372036854775807) : ofBig (big n ++ r) = some n := by
  unfold ofBig
  have e : (big n ++ r).take 8 = big n := by
    have := List.take_left (l₁ := big n) (l₂ := r)
    rwa [big_length] at this
  have e2 : val256 0 (big n) = n := by rw [big, val256_bigK]; omega
  rw [if_neg (by simp [big_length]), e, e2, if_pos (by omega)]
/-- its first byte tells whether it fits -/
theorem top_byte (l : List UInt8) (h : 8 ≤ l.length) : val256 0 (l.take 8) < 9223372036854775808 ↔ (l.getD 0 0).toNat < 128 := by
  match l, h with
  | c :: r, h =>
    have h7 : (r.take 7).length = 7 := by simp at h ⊢; omega
    have h1 := val256_lt (r.take 7)
    have h2 := val256_acc (r.take 7) (0 * 256 + c.toNat)
    rw [h7] at h1 h2
    rw [List.take_succ_cons, val256_cons, h2]
    simp only [List.getD_cons_zero]
    omega

/-- the encoding of a text -/
def putText (t : List UInt8) : List UInt8 := put t.length ++ t
/-- the text whose encoding a list begins with, and how many bytes that has -/
def getText (l : List UInt8) : Option (List UInt8 × Nat) :=
  match get l with
  | none => none
  | some (n, k) => if n ≤ l.length - k then some ((l.drop k).take n, k + n) else none
theorem getText_putText (t r : List UInt8) (h : t.length ≤ 9223372036854775807) : getText (putText t ++ r) = some (t, (putText t).length) := by
  unfold getText putText
  rw [List.append_assoc, get_put _ _ h]
  simp
theorem getText_some {l t : List UInt8} {k : Nat} (h : getText l = some (t, k)) : k ≤ l.length ∧ t.length ≤ k ∧ l.take k = putText t ∧ (∃ j, get l = some (t.length, j) ∧ k = j + t.length) := by
  unfold getText at h
  cases hg : get l with
  | none => rw [hg] at h; cases h
  | some p =>
    obtain ⟨n, j⟩ := p
    rw [hg] at h
    simp only at h
    obtain ⟨g1, g2, g3, g4, g5⟩ := get_some hg
    split at h
    · rename_i hle
      simp only [Option.some.injEq, Prod.mk.injEq] at h
      obtain ⟨rfl, rfl⟩ := h
      have e : ((l.drop j).take n).length = n := by simp; omega
      refine ⟨by omega, by rw [e]; omega, ?_, j, by rw [e], by rw [e]⟩
      rw [putText, e, ← g5, List.take_add]
    · cases h
theorem getText_cut (t : List UInt8) (i : Nat) (h : t.length ≤ 9223372036854775807) (hi' : i < (putText t).length) : getText ((putText t).take i) = none := by
  cases h1 : getText ((putText t).take i) with
  | none => rfl
  | some p =>
    obtain ⟨u, k⟩ := p
    obtain ⟨g1, g2, g3, _⟩ := getText_some h1
    rw [List.length_take] at g1
    rw [List.take_take, Nat.min_eq_left (by omega)] at g3
    have h2 := getText_putText t [] h
    have h3 := congrArg List.length g3
    have hu : u.length ≤ 9223372036854775807 := by
      simp only [putText, List.length_take, List.length_append] at h3 hi'
      by_cases hle : u.length ≤ t.length
      · omega
      · have hp := put_mono t.length u.length (by omega)
        have : min k ((put t.length).length + t.length) ≤ k := Nat.min_le_left _ _
        omega
    rw [List.append_nil, ← List.take_append_drop k (putText t), g3, getText_putText u _ hu] at h2
    simp only [Option.some.injEq, Prod.mk.injEq, List.length_append, List.length_drop, List.length_take] at h2 h3
    omega
end Spoor
