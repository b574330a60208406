/- Plain facts, no program in sight: cells, their order, their bytes, and how these are read. -/
import Derived.Test.YtpcapifjbhaeeaaInts0
import Derived.Test.YtpcapifjbhaeeaaBytes0
namespace Spoor
open Go

structure Ce where
  k : List UInt8
  q : Int
  v : List UInt8
  deriving DecidableEq
def Ce.zero : Ce := ⟨[], 0, []⟩
/-- may a cell be? -/
def Ce.may (c : Ce) : Bool := decide (1 ≤ c.k.length ∧ c.k.length ≤ 64) && decide (0 ≤ c.q) && decide (c.v.length ≤ 128)
/-- does it stand ahead? -/
def aheadC (a b : Ce) : Bool := Op.bytesLess a.k b.k || (a.k == b.k && decide (b.q < a.q))
/-- may it be, behind the one ahead of it? -/
def okAfter : Option Ce → Ce → Bool
  | none, c => c.may
  | some a, c => c.may && aheadC a c
def sortedFrom : Option Ce → List Ce → Bool
  | _, [] => true
  | p, c :: l => okAfter p c && sortedFrom (some c) l
def sortedB (l : List Ce) : Bool := sortedFrom none l
def lastOr : Option Ce → List Ce → Option Ce
  | p, [] => p
  | _, c :: l => lastOr (some c) l
theorem lastOr_snoc (c : Ce) : ∀ (l : List Ce) (p : Option Ce), lastOr p (l ++ [c]) = some c
  | [], _ => rfl
  | d :: l, p => by rw [List.cons_append]; exact lastOr_snoc c l (some d)
theorem sortedFrom_snoc (c : Ce) : ∀ (l : List Ce) (p : Option Ce), sortedFrom p (l ++ [c]) = (sortedFrom p l && okAfter (lastOr p l) c)
  | [], p => by simp [sortedFrom, lastOr]
  | d :: l, p => by
    rw [List.cons_append]
    simp only [sortedFrom, lastOr, sortedFrom_snoc c l (some d), Bool.and_assoc]
theorem sortedFrom_app (m : List Ce) : ∀ (l : List Ce) (p : Option Ce), sortedFrom p (l ++ m) = (sortedFrom p l && sortedFrom (lastOr p l) m)
  | [], p => by simp [sortedFrom, lastOr]
  | d :: l, p => by
    rw [List.cons_append]
    simp only [sortedFrom, lastOr, sortedFrom_app m l (some d), Bool.and_assoc]
theorem take_ce (l : List Ce) (k : Nat) (h : k < l.length) : l.take (k + 1) = l.take k ++ [l.getD k Ce.zero] := by
  rw [List.take_succ_eq_append_getElem h]
  simp [List.getD, h]
theorem lastOr_take (l : List Ce) (p : Option Ce) (k : Nat) (h : k < l.length) : lastOr p (l.take (k + 1)) = some (l.getD k Ce.zero) := by rw [take_ce l k h, lastOr_snoc]
/-- the one ahead of number k -/
def prevOf (l : List Ce) (k : Nat) : Option Ce := if k = 0 then none else some (l.getD (k - 1) Ce.zero)
theorem lastOr_prev (l : List Ce) (k : Nat) (h : k ≤ l.length) : lastOr none (l.take k) = prevOf l k := by
  cases k with
  | zero => rfl
  | succ k => rw [lastOr_take l none k (by omega)]; simp [prevOf]
theorem sortedB_step (l : List Ce) (k : Nat) (h : k < l.length) : sortedB (l.take (k + 1)) = (sortedB (l.take k) && okAfter (prevOf l k) (l.getD k Ce.zero)) := by
  rw [take_ce l k h, sortedB, sortedFrom_snoc, lastOr_prev l k (by omega)]; rfl
theorem sortedB_take (l : List Ce) (k : Nat) (h : sortedB l = true) : sortedB (l.take k) = true := by
  rw [← List.take_append_drop k l, sortedB, sortedFrom_app, Bool.and_eq_true] at h
  exact h.1
theorem sortedB_no (l : List Ce) (k : Nat) (h : sortedB (l.take k) = false) : sortedB l = false := by
  cases e : sortedB l with
  | false => rfl
  | true => rw [sortedB_take l k e] at h; cases h

/-! the bytes -/
def common : List UInt8 → List UInt8 → Nat
  | a :: l, b :: m => if a = b then common l m + 1 else 0
  | _, _ => 0
def lastKey : Option Ce → List UInt8
  | none => []
  | some c => c.k
def cellBytes (last : List UInt8) (c : Ce) : List UInt8 := put (common last c.k) ++ (putText (c.k.drop (common last c.k)) ++ (put c.q.toNat ++ putText c.v))
def bodyB : Option Ce → List Ce → List UInt8
  | _, [] => []
  | p, c :: l => cellBytes (lastKey p) c ++ bodyB (some c) l
def blockB (l : List Ce) : List UInt8 := put l.length ++ bodyB none l
def encB (l : List Ce) : Option (List UInt8) := if sortedB l = true then some (blockB l) else none
theorem bodyB_snoc (c : Ce) : ∀ (l : List Ce) (p : Option Ce), bodyB p (l ++ [c]) = bodyB p l ++ cellBytes (lastKey (lastOr p l)) c
  | [], p => by simp [bodyB, lastOr]
  | d :: l, p => by
    rw [List.cons_append]
    simp only [bodyB, lastOr, bodyB_snoc c l (some d), List.append_assoc]
theorem bodyB_take (l : List Ce) (k : Nat) (h : k < l.length) : bodyB none (l.take (k + 1)) = bodyB none (l.take k) ++ cellBytes (lastKey (prevOf l k)) (l.getD k Ce.zero) := by
  rw [take_ce l k h, bodyB_snoc, lastOr_prev l k (by omega)]
theorem bodyB_app (m : List Ce) : ∀ (l : List Ce) (p : Option Ce), bodyB p (l ++ m) = bodyB p l ++ bodyB (lastOr p l) m
  | [], p => by simp [bodyB, lastOr]
  | d :: l, p => by
    rw [List.cons_append]
    simp only [bodyB, lastOr, bodyB_app m l (some d), List.append_assoc]
theorem bodyB_take_le (l : List Ce) (k : Nat) : (bodyB none (l.take k)).length ≤ (bodyB none l).length := by
  have := bodyB_app (l.drop k) (l.take k) none
  rw [List.take_append_drop] at this
  rw [this, List.length_append]
  omega
theorem okAfter_may {p : Option Ce} {c : Ce} (h : okAfter p c = true) : c.may = true := by
  cases p with
  | none => exact h
  | some a => simp only [okAfter, Bool.and_eq_true] at h; exact h.1
theorem sorted_may : ∀ {l : List Ce} {p : Option Ce}, sortedFrom p l = true → ∀ c ∈ l, c.may = true
  | [], _, _, c, hc => by cases hc
  | d :: l, p, h, c, hc => by
    simp only [sortedFrom, Bool.and_eq_true] at h
    rcases List.mem_cons.1 hc with rfl | hc
    · exact okAfter_may h.1
    · exact sorted_may h.2 c hc
theorem may_of {c : Ce} (h : c.may = true) : 1 ≤ c.k.length ∧ c.k.length ≤ 64 ∧ 0 ≤ c.q ∧ c.v.length ≤ 128 := by
  unfold Ce.may at h
  simp only [Bool.and_eq_true, decide_eq_true_eq] at h
  exact ⟨h.1.1.1, h.1.1.2, h.1.2, h.2⟩
theorem common_le : ∀ (a b : List UInt8), common a b ≤ a.length ∧ common a b ≤ b.length
  | a :: l, b :: m => by
    have := common_le l m
    simp only [common]
    split <;> simp <;> omega
  | [], _ => by simp [common]
  | _ :: _, [] => by simp [common]
theorem common_take : ∀ (a b : List UInt8), a.take (common a b) = b.take (common a b)
  | a :: l, b :: m => by
    simp only [common]
    split
    · rename_i e; subst e; simp [common_take l m]
    · simp
  | [], _ => by simp [common]
  | _ :: _, [] => by simp [common]
theorem common_head : ∀ (a b : List UInt8), common a b < a.length → common a b < b.length → a.getD (common a b) 0 ≠ b.getD (common a b) 0
  | a :: l, b :: m => by
    simp only [common]
    split
    · intro h1 h2
      have := common_head l m (by simpa using h1) (by simpa using h2)
      simpa using this
    · intro _ _; simpa
  | [], _ => by simp
  | _ :: _, [] => by simp
/-- how far two texts are alike: the one number with these marks -/
theorem common_of : ∀ (n : Nat) (a b : List UInt8), n ≤ a.length → n ≤ b.length → a.take n = b.take n → (n < a.length → n < b.length → a.getD n 0 ≠ b.getD n 0) → common a b = n
  | 0, a, b, _, _, _, h => by
    match a, b, h with
    | [], _, _ => simp [common]
    | _ :: _, [], _ => simp [common]
    | x :: a, y :: b, h =>
      have : x ≠ y := by simpa using h
      simp [common, this]
  | n + 1, a, b, h1, h2, h3, h => by
    match a, b, h1, h2, h3, h with
    | x :: a, y :: b, h1, h2, h3, h =>
      simp only [List.take_succ_cons, List.cons.injEq] at h3
      obtain ⟨rfl, h3⟩ := h3
      have := common_of n a b (by simpa using h1) (by simpa using h2) h3 (fun p q => by simpa using h (by simpa using p) (by simpa using q))
      simp [common, this]

/-! how they are read -/
/-- the cell at a place behind a key, and the place behind it; 'strict': as short as it may be -/
def cellAt (strict : Bool) (s : List UInt8) (at' : Nat) (last : List UInt8) : Option (Ce × Nat) :=
  match get (s.drop at') with
  | none => none
  | some (n, k1) => if last.length < n then none else
    match getText (s.drop (at' + k1)) with
    | none => none
    | some (rest, k2) => if strict = true ∧ n < last.length ∧ rest ≠ [] ∧ rest.getD 0 0 = last.getD n 0 then none else
      match get (s.drop (at' + k1 + k2)) with
      | none => none
      | some (q, k3) =>
        match getText (s.drop (at' + k1 + k2 + k3)) with
        | none => none
        | some (v, k4) => some (⟨last.take n ++ rest, (q : Int), v⟩, at' + k1 + k2 + k3 + k4)
def eachB (s : List UInt8) : Nat → Nat → Option Ce → Option (List Ce × Nat)
  | 0, at', _ => some ([], at')
  | m + 1, at', p =>
    match cellAt true s at' (lastKey p) with
    | none => none
    | some (c, nx) => if okAfter p c = true then (eachB s m nx (some c)).map fun r => (c :: r.1, r.2) else none
def refEach (s : List UInt8) : Nat → Nat → Option Ce → Option (List Ce × Nat)
  | 0, at', _ => some ([], at')
  | m + 1, at', p =>
    match cellAt false s at' (lastKey p) with
    | none => none
    | some (c, nx) => (refEach s m nx (some c)).map fun r => (c :: r.1, r.2)
def finB (s : List UInt8) (acc : List Ce) : Option (List Ce × Nat) → Option (List Ce)
  | none => none
  | some (l, at') => if at' = s.length then some (acc ++ l) else none
def decB (s : List UInt8) : Option (List Ce) :=
  match get s with
  | none => none
  | some (m, k) => finB s [] (eachB s m k none)
def refDec (s : List UInt8) : Option (List Ce) :=
  match get s with
  | none => none
  | some (m, k) =>
    match refEach s m k none with
    | none => none
    | some (l, _) => if encB l = some s then some l else none
theorem bk_get {l : List UInt8} {p n k : Nat} (h : get (l.drop p) = some (n, k)) : p + k ≤ l.length ∧ n ≤ 9223372036854775807 ∧ l.take (p + k) = l.take p ++ put n := by
  obtain ⟨h1, _, h3, h4, h5⟩ := get_some h
  have hp : k ≤ l.length - p := by simpa using h3
  have hp1 : p + k ≤ l.length := by omega
  refine ⟨hp1, h4, ?_⟩
  rw [List.take_add, h5]
theorem bk_getText {l t : List UInt8} {p k : Nat} (h : getText (l.drop p) = some (t, k)) (hp : p ≤ l.length) : p + k ≤ l.length ∧ l.take (p + k) = l.take p ++ putText t := by
  obtain ⟨h1, _, h3, _⟩ := getText_some h
  refine ⟨by have : k ≤ l.length - p := by simpa using h1
             omega, ?_⟩
  rw [List.take_add, h3]
theorem cellAt_some {b : Bool} {s last : List UInt8} {at' nx : Nat} {c : Ce} (h : cellAt b s at' last = some (c, nx)) :
    nx ≤ s.length ∧ at' < nx ∧ (b = true → s.take nx = s.take at' ++ cellBytes last c) ∧ cellAt false s at' last = some (c, nx) ∧ c.k.length + at' ≤ last.length + nx ∧ c.v.length ≤ s.length ∧ 0 ≤ c.q ∧ c.q ≤ 9223372036854775807 := by
  unfold cellAt at h
  cases e1 : get (s.drop at') with
  | none => rw [e1] at h; simp at h
  | some r1 =>
    obtain ⟨n, k1⟩ := r1
    rw [e1] at h
    simp only at h
    split at h
    · cases h
    · rename_i hn
      cases e2 : getText (s.drop (at' + k1)) with
      | none => rw [e2] at h; simp at h
      | some r2 =>
        obtain ⟨rest, k2⟩ := r2
        rw [e2] at h
        simp only at h
        split at h
        · cases h
        · rename_i hs
          cases e3 : get (s.drop (at' + k1 + k2)) with
          | none => rw [e3] at h; simp at h
          | some r3 =>
            obtain ⟨q, k3⟩ := r3
            rw [e3] at h
            simp only at h
            cases e4 : getText (s.drop (at' + k1 + k2 + k3)) with
            | none => rw [e4] at h; simp at h
            | some r4 =>
              obtain ⟨v, k4⟩ := r4
              rw [e4] at h
              simp only [Option.some.injEq, Prod.mk.injEq] at h
              obtain ⟨rfl, rfl⟩ := h
              obtain ⟨p1, n1, t1⟩ := bk_get e1
              obtain ⟨p2, t2⟩ := bk_getText e2 p1
              obtain ⟨p3, n3, t3⟩ := bk_get e3
              obtain ⟨p4, t4⟩ := bk_getText e4 p3
              have g1 := get_some e1
              have g2 := getText_some e2
              have g4 := getText_some e4
              refine ⟨p4, by omega, ?_, ?_, ?_, ?_, by simp, by simp; omega⟩
              · intro hb
                have hc : common last (last.take n ++ rest) = n := by
                  have hl : (last.take n).length = n := by rw [List.length_take]; omega
                  refine common_of n _ _ (by omega) (by rw [List.length_append, hl]; omega) ?_ ?_
                  · rw [List.take_append_of_le_length (by omega), List.take_take, Nat.min_self]
                  · intro a1 a2 e
                    apply hs
                    refine ⟨hb, a1, ?_, ?_⟩
                    · intro er; rw [er, List.append_nil, hl] at a2; omega
                    · rw [e]; simp only [List.getD]; rw [List.getElem?_append_right (by omega), hl, Nat.sub_self]
                have hd : (last.take n ++ rest).drop n = rest := by
                  have hl : (last.take n).length = n := by rw [List.length_take]; omega
                  rw [List.drop_append_of_le_length (by omega), List.drop_of_length_le (by omega), List.nil_append]
                unfold cellBytes
                simp only [hc, hd, Int.toNat_natCast]
                rw [t4, t3, t2, t1]
                simp
              · unfold cellAt
                rw [e1]
                simp only [if_neg hn, e2, e3, e4]
                simp
              · simp only [List.length_append, List.length_take]
                have := g2.2.1
                omega
              · have := g4.2.1
                have := g4.1
                simp only [List.length_drop] at this
                simp only
                omega
theorem cellBytes_len {last : List UInt8} {c : Ce} (hm : c.may = true) (hq : c.q ≤ 9223372036854775807) : (cellBytes last c).length ≤ 228 := by
  obtain ⟨h1, h2, h3, h4⟩ := may_of hm
  obtain ⟨c1, c2⟩ := common_le last c.k
  have a1 := put_length9 (common last c.k) (by omega)
  have a2 := put_length9 (c.k.drop (common last c.k)).length (by rw [List.length_drop]; omega)
  have a3 := put_length9 c.q.toNat (by omega)
  have a4 := put_length9 c.v.length (by omega)
  unfold cellBytes putText
  simp only [List.length_append]
  rw [List.length_drop] at a2 ⊢
  omega
theorem bodyB_len : ∀ {l : List Ce} {p : Option Ce}, sortedFrom p l = true → (∀ c ∈ l, c.q ≤ 9223372036854775807) → (bodyB p l).length ≤ 228 * l.length
  | [], _, _, _ => by simp [bodyB]
  | c :: l, p, h, hq => by
    have hm := sorted_may h c (by simp)
    simp only [sortedFrom, Bool.and_eq_true] at h
    have h1 := cellBytes_len (last := lastKey p) hm (hq c (by simp))
    have h2 := bodyB_len h.2 (fun d hd => hq d (by simp [hd]))
    simp only [bodyB, List.length_append, List.length_cons]
    omega
theorem blockB_len {l : List Ce} (h : sortedB l = true) (hq : ∀ c ∈ l, c.q ≤ 9223372036854775807) (hl : l.length ≤ 9223372036854775807) : (blockB l).length ≤ 9 + 228 * l.length := by
  have h1 := bodyB_len h hq
  have h2 := put_length9 l.length hl
  unfold blockB
  rw [List.length_append]
  omega
theorem put_small (n : Nat) (h : n < 128) : put n = [UInt8.ofNat n] := by
  unfold put
  rw [show n / 128 = 0 by omega, hi_zero, show n % 128 = n by omega, List.nil_append]
theorem drop_of' {l a r : List UInt8} {p : Nat} (h : l.drop p = a ++ r) : l.drop (p + a.length) = r := by
  rw [← List.drop_drop, h, List.drop_left]
/-- what was put is read -/
theorem cellAt_bytes (b : Bool) {s last r : List UInt8} {at' : Nat} {c : Ce} (hd : s.drop at' = cellBytes last c ++ r) (hm : c.may = true) (hl : last.length ≤ 9223372036854775807) (hq : c.q ≤ 9223372036854775807) :
    cellAt b s at' last = some (c, at' + (cellBytes last c).length) := by
  unfold Ce.may at hm
  simp only [Bool.and_eq_true, decide_eq_true_eq] at hm
  obtain ⟨⟨⟨h1, h2⟩, h3⟩, h4⟩ := hm
  obtain ⟨c1, c2⟩ := common_le last c.k
  have ct := common_take last c.k
  have chd := common_head last c.k
  unfold cellBytes at hd ⊢
  generalize common last c.k = n at *
  rw [List.append_assoc] at hd
  have d1 := drop_of' hd
  rw [List.append_assoc] at d1
  have d2 := drop_of' d1
  rw [List.append_assoc] at d2
  have d3 := drop_of' d2
  unfold cellAt
  rw [hd, get_put n _ (by omega)]
  simp only
  rw [if_neg (by omega), d1, getText_putText _ _ (by rw [List.length_drop]; omega)]
  simp only
  rw [if_neg ?_, d2, get_put _ _ (by omega)]
  · simp only
    rw [d3, getText_putText _ _ (by omega)]
    simp only [Option.some.injEq, Prod.mk.injEq]
    constructor
    · have e1 : last.take n ++ c.k.drop n = c.k := by rw [ct, List.take_append_drop]
      have e2 : ((c.q.toNat : Nat) : Int) = c.q := by omega
      rw [e1, e2]
    · simp only [List.length_append]; omega
  · rintro ⟨_, a1, a2, a3⟩
    have hk : n < c.k.length := by
      apply Nat.lt_of_not_le
      intro hle
      exact a2 (List.drop_of_length_le hle)
    refine chd a1 hk ?_
    rw [← a3]
    simp [List.getD, hk]
theorem ahead_trans {a b c : Ce} (h : aheadC a b = true) (k : aheadC b c = true) : aheadC a c = true := by
  unfold aheadC at *
  simp only [Bool.or_eq_true, Bool.and_eq_true, beq_iff_eq, decide_eq_true_eq] at *
  rcases h with h | ⟨h1, h2⟩
  · rcases k with k | ⟨k1, k2⟩
    · exact .inl (bl_trans h k)
    · exact .inl (k1 ▸ h)
  · rcases k with k | ⟨k1, k2⟩
    · exact .inl (h1 ▸ k)
    · exact .inr ⟨h1.trans k1, by omega⟩
theorem ahead_irrefl (a : Ce) : aheadC a a = false := by
  unfold aheadC
  rw [bl_irrefl]
  simp
theorem eachB_some {s : List UInt8} : ∀ (m at' : Nat) (p : Option Ce) (l : List Ce) (nx : Nat), at' ≤ s.length → eachB s m at' p = some (l, nx) →
    nx ≤ s.length ∧ at' ≤ nx ∧ l.length = m ∧ sortedFrom p l = true ∧ s.take nx = s.take at' ++ bodyB p l ∧ refEach s m at' p = some (l, nx)
  | 0, at', p, l, nx, ha, h => by
    simp only [eachB, Option.some.injEq, Prod.mk.injEq] at h
    obtain ⟨rfl, rfl⟩ := h
    exact ⟨ha, Nat.le_refl _, rfl, rfl, by simp [bodyB], rfl⟩
  | m + 1, at', p, l, nx, ha, h => by
    simp only [eachB] at h
    cases e : cellAt true s at' (lastKey p) with
    | none => rw [e] at h; simp at h
    | some r =>
      obtain ⟨c, n1⟩ := r
      rw [e] at h
      simp only at h
      split at h
      · rename_i hok
        cases e2 : eachB s m n1 (some c) with
        | none => rw [e2] at h; simp at h
        | some r2 =>
          obtain ⟨l2, n2⟩ := r2
          rw [e2] at h
          simp only [Option.map_some, Option.some.injEq, Prod.mk.injEq] at h
          obtain ⟨rfl, rfl⟩ := h
          obtain ⟨q1, q2, q3, q4, _⟩ := cellAt_some e
          obtain ⟨r1, r2, r3, r4, r5, r6⟩ := eachB_some m n1 (some c) l2 n2 q1 e2
          refine ⟨r1, by omega, by simp [r3], by simp [sortedFrom, hok, r4], ?_, ?_⟩
          · rw [r5, q3 rfl]; simp [bodyB]
          · simp only [refEach, q4, r6, Option.map_some]
      · cases h
theorem eachB_bytes {s r : List UInt8} : ∀ (l : List Ce) (at' : Nat) (p : Option Ce), s.drop at' = bodyB p l ++ r → sortedFrom p l = true → (lastKey p).length ≤ 64 → (∀ c ∈ l, c.q ≤ 9223372036854775807) →
    eachB s l.length at' p = some (l, at' + (bodyB p l).length)
  | [], at', p, _, _, _, _ => by simp [eachB, bodyB]
  | c :: l, at', p, hd, hs, hk, hq => by
    simp only [sortedFrom, Bool.and_eq_true] at hs
    simp only [bodyB, List.append_assoc] at hd
    have hm : c.may = true := by
      cases p with
      | none => exact hs.1
      | some a => have := hs.1; simp only [okAfter, Bool.and_eq_true] at this; exact this.1
    have h1 := cellAt_bytes true hd hm (by omega) (hq c (by simp))
    have hk2 : (lastKey (some c)).length ≤ 64 := by
      unfold Ce.may at hm
      simp only [Bool.and_eq_true, decide_eq_true_eq] at hm
      exact hm.1.1.2
    have h2 := eachB_bytes l _ (some c) (drop_of' hd) hs.2 hk2 (fun d hd => hq d (by simp [hd]))
    simp only [List.length_cons, eachB, h1]
    rw [if_pos hs.1, h2]
    simp only [Option.map_some, bodyB, List.length_append, Nat.add_assoc]
theorem decB_some {s : List UInt8} {l : List Ce} (h : decB s = some l) : sortedB l = true ∧ blockB l = s ∧ refDec s = some l := by
  unfold decB at h
  cases e : get s with
  | none => rw [e] at h; simp at h
  | some r =>
    obtain ⟨m, k⟩ := r
    rw [e] at h
    simp only at h
    cases e2 : eachB s m k none with
    | none => rw [e2] at h; simp [finB] at h
    | some r2 =>
      obtain ⟨l2, n2⟩ := r2
      rw [e2] at h
      simp only [finB] at h
      split at h
      · rename_i hn
        simp only [List.nil_append, Option.some.injEq] at h
        subst h
        obtain ⟨g1, g2, g3, g4, g5⟩ := get_some e
        obtain ⟨r1, r2, r3, r4, r5, r6⟩ := eachB_some m k none l2 n2 g3 e2
        have hb : blockB l2 = s := by
          unfold blockB
          rw [r3, ← g5, ← r5, hn, List.take_length]
        refine ⟨r4, hb, ?_⟩
        unfold refDec
        rw [e]
        simp only [r6]
        rw [if_pos]
        unfold encB
        rw [if_pos (show sortedB l2 = true from r4), hb]
      · cases h
theorem each_block {l : List Ce} (r : List UInt8) (hs : sortedB l = true) (hl : l.length ≤ 9223372036854775807) (hq : ∀ c ∈ l, c.q ≤ 9223372036854775807) :
    get (blockB l ++ r) = some (l.length, (put l.length).length) ∧ eachB (blockB l ++ r) l.length (put l.length).length none = some (l, (blockB l).length) := by
  constructor
  · unfold blockB
    rw [List.append_assoc]
    exact get_put _ _ hl
  · have hd : (blockB l ++ r).drop (put l.length).length = bodyB none l ++ r := by
      unfold blockB
      rw [List.append_assoc, List.drop_left]
    have := eachB_bytes l _ none hd hs (by simp [lastKey]) hq
    rw [this]
    unfold blockB
    rw [List.length_append]
theorem decB_block {l : List Ce} (hs : sortedB l = true) (hl : l.length ≤ 9223372036854775807) (hq : ∀ c ∈ l, c.q ≤ 9223372036854775807) : decB (blockB l) = some l := by
  obtain ⟨h1, h2⟩ := each_block [] hs hl hq
  rw [List.append_nil] at h1 h2
  unfold decB
  rw [h1]
  simp only [h2, finB, if_true, List.nil_append]
theorem refEach_ints {s : List UInt8} : ∀ (m at' : Nat) (p : Option Ce) (l : List Ce) (nx : Nat), refEach s m at' p = some (l, nx) → l.length = m ∧ ∀ c ∈ l, c.q ≤ 9223372036854775807
  | 0, at', p, l, nx, h => by
    simp only [refEach, Option.some.injEq, Prod.mk.injEq] at h
    obtain ⟨rfl, rfl⟩ := h
    simp
  | m + 1, at', p, l, nx, h => by
    simp only [refEach] at h
    cases e : cellAt false s at' (lastKey p) with
    | none => rw [e] at h; simp at h
    | some r =>
      obtain ⟨c, n1⟩ := r
      rw [e] at h
      simp only at h
      cases e2 : refEach s m n1 (some c) with
      | none => rw [e2] at h; simp at h
      | some r2 =>
        obtain ⟨l2, n2⟩ := r2
        rw [e2] at h
        simp only [Option.map_some, Option.some.injEq, Prod.mk.injEq] at h
        obtain ⟨rfl, rfl⟩ := h
        obtain ⟨a1, a2⟩ := refEach_ints m n1 (some c) l2 n2 e2
        have := (cellAt_some e).2.2.2.2.2.2.2
        refine ⟨by simp [a1], fun d hd => ?_⟩
        rcases List.mem_cons.1 hd with rfl | hd
        · exact this
        · exact a2 d hd
theorem refDec_eq (s : List UInt8) : refDec s = decB s := by
  cases h : decB s with
  | some l => exact (decB_some h).2.2
  | none =>
    cases h2 : refDec s with
    | none => rfl
    | some l =>
      exfalso
      unfold refDec at h2
      cases e : get s with
      | none => rw [e] at h2; simp at h2
      | some r =>
        obtain ⟨m, k⟩ := r
        rw [e] at h2
        simp only at h2
        cases e2 : refEach s m k none with
        | none => rw [e2] at h2; simp at h2
        | some r2 =>
          obtain ⟨l2, n2⟩ := r2
          rw [e2] at h2
          simp only at h2
          split at h2
          · rename_i he
            cases h2
            obtain ⟨a1, a2⟩ := refEach_ints m k none l n2 e2
            have hm := (get_some e).2.2.2.1
            unfold encB at he
            split at he
            · rename_i hs
              simp only [Option.some.injEq] at he
              have := decB_block hs (by omega) a2
              rw [he, h] at this
              cases this
            · cases he
          · cases h2
/-- sorted cells' bytes, with anything behind them, still tell which they were -/
theorem block_inj {l m : List Ce} {r : List UInt8} (hl : sortedB l = true) (hm : sortedB m = true) (h1 : l.length ≤ 9223372036854775807) (h2 : m.length ≤ 9223372036854775807)
    (q1 : ∀ c ∈ l, c.q ≤ 9223372036854775807) (q2 : ∀ c ∈ m, c.q ≤ 9223372036854775807) (h : blockB l ++ r = blockB m) : l = m := by
  obtain ⟨a1, a2⟩ := each_block r hl h1 q1
  obtain ⟨b1, b2⟩ := each_block [] hm h2 q2
  rw [List.append_nil] at b1 b2
  rw [h, b1] at a1
  simp only [Option.some.injEq, Prod.mk.injEq] at a1
  rw [h, ← a1.1, b2] at a2
  simp only [Option.some.injEq, Prod.mk.injEq] at a2
  exact a2.1.symm
theorem decB_cut {l : List Ce} (hl : sortedB l = true) (h1 : l.length ≤ 9223372036854775807) (q1 : ∀ c ∈ l, c.q ≤ 9223372036854775807) {i : Nat} (hi : i < (blockB l).length) : decB ((blockB l).take i) = none := by
  cases h : decB ((blockB l).take i) with
  | none => rfl
  | some m =>
    exfalso
    obtain ⟨a1, a2, a3⟩ := decB_some h
    have hr : refDec ((blockB l).take i) = some m := a3
    have hm : m.length ≤ 9223372036854775807 ∧ ∀ c ∈ m, c.q ≤ 9223372036854775807 := by
      unfold refDec at hr
      cases e : get ((blockB l).take i) with
      | none => rw [e] at hr; simp at hr
      | some r =>
        obtain ⟨mm, k⟩ := r
        rw [e] at hr
        simp only at hr
        cases e2 : refEach ((blockB l).take i) mm k none with
        | none => rw [e2] at hr; simp at hr
        | some r2 =>
          rw [e2] at hr
          obtain ⟨l2, n2⟩ := r2
          simp only at hr
          split at hr
          · cases hr
            obtain ⟨b1, b2⟩ := refEach_ints mm k none _ n2 e2
            exact ⟨by have := (get_some e).2.2.2.1; omega, b2⟩
          · cases hr
    have : m = l := block_inj (r := (blockB l).drop i) a1 hl hm.1 h1 hm.2 q1 (by rw [a2, List.take_append_drop])
    subst this
    have : (blockB m).length = i := by
      rw [a2, List.length_take, a2, List.length_take]
      omega
    omega
end Spoor
