/- Plain facts, no program in sight: batches and acks, their bytes, and how these are read. -/
import Derived.Test.YtheeekmhmbkncaaSpans0
namespace Spoor

structure Ba where
  ho : Int
  fi : Int
  sp : List Sp
  deriving DecidableEq
structure Ak where
  ho : Int
  fi : Int
  ne : Int
  deriving DecidableEq
def hoOk (n : Int) : Bool := decide (0 ≤ n ∧ n ≤ 3)
def reOk (n : Int) : Bool := decide (0 ≤ n ∧ n ≤ 2147483647)
/-- may a batch's numbers be? -/
def numsOk (h f : Int) (m : Nat) : Bool := hoOk h && (reOk f && (reOk (f + m) && decide (1 ≤ m ∧ m ≤ 8)))
def Ba.ok (b : Ba) : Bool := numsOk b.ho b.fi b.sp.length && b.sp.all Sp.ok
def putSp (l : List Sp) : List UInt8 := (l.map fun x => putText x.bytes).flatten
def Ba.bytes (b : Ba) : List UInt8 := 66 :: (putN [b.ho.toNat, b.fi.toNat, b.sp.length] ++ putSp b.sp)
def Ak.ok (a : Ak) : Bool := hoOk a.ho && (reOk a.fi && (decide (a.fi ≤ a.ne) && reOk a.ne))
def Ak.bytes (a : Ak) : List UInt8 := 65 :: putN [a.ho.toNat, a.fi.toNat, (a.ne - a.fi).toNat]
/-- so many numbers that a text begins with, and what is behind them -/
def nums : Nat → List UInt8 → Option (List Nat × List UInt8)
  | 0, l => some ([], l)
  | k + 1, l =>
    match get l with
    | none => none
    | some (n, j) => (nums k (l.drop j)).map fun r => (n :: r.1, r.2)
/-- so many spans -/
def spansR : Nat → List UInt8 → Option (List Sp × List UInt8)
  | 0, l => some ([], l)
  | k + 1, l =>
    match getText l with
    | none => none
    | some (t, j) =>
      match decodeSp t with
      | none => none
      | some x => (spansR k (l.drop j)).map fun r => (x :: r.1, r.2)
theorem putN_nil : putN [] = [] := rfl
theorem putN_cons (n : Nat) (ns : List Nat) : putN (n :: ns) = put n ++ putN ns := by simp [putN]
theorem putSp_cons (x : Sp) (l : List Sp) : putSp (x :: l) = putText x.bytes ++ putSp l := by simp [putSp]
theorem putSp_snoc (x : Sp) (l : List Sp) : putSp (l ++ [x]) = putSp l ++ putText x.bytes := by simp [putSp]
theorem nums_put (r : List UInt8) : ∀ (ns : List Nat), (∀ n ∈ ns, n ≤ 9223372036854775807) → nums ns.length (putN ns ++ r) = some (ns, r)
  | [], _ => by simp [nums, putN]
  | n :: ns, h => by
    rw [putN_cons, List.append_assoc, List.length_cons, nums, get_put _ _ (h n (by simp))]
    simp only [List.drop_left, nums_put r ns (fun m hm => h m (by simp [hm])), Option.map_some]
theorem nums_some : ∀ {k : Nat} {l r : List UInt8} {ns : List Nat}, nums k l = some (ns, r) → ns.length = k ∧ l = putN ns ++ r ∧ ∀ n ∈ ns, n ≤ 9223372036854775807
  | 0, l, r, ns, h => by
    simp only [nums, Option.some.injEq, Prod.mk.injEq] at h
    obtain ⟨rfl, rfl⟩ := h
    exact ⟨rfl, rfl, by simp⟩
  | k + 1, l, r, ns, h => by
    simp only [nums] at h
    cases e : get l with
    | none => rw [e] at h; simp at h
    | some p =>
      obtain ⟨n, j⟩ := p
      rw [e] at h
      simp only at h
      cases e2 : nums k (l.drop j) with
      | none => rw [e2] at h; simp at h
      | some q =>
        obtain ⟨ms, r2⟩ := q
        rw [e2] at h
        simp only [Option.map_some, Option.some.injEq, Prod.mk.injEq] at h
        obtain ⟨rfl, rfl⟩ := h
        obtain ⟨h1, h2, h3⟩ := nums_some e2
        obtain ⟨_, _, _, g4, g5⟩ := get_some e
        refine ⟨by simp [h1], ?_, ?_⟩
        · rw [putN_cons, List.append_assoc, ← h2, ← g5, List.take_append_drop]
        · intro m hm
          rcases List.mem_cons.1 hm with rfl | hm
          · exact g4
          · exact h3 m hm
theorem bytes_short {x : Sp} (h : x.ok = true) : x.bytes.length ≤ 9223372036854775807 := by have := bytes_length h; omega
theorem spansR_put (r : List UInt8) : ∀ (l : List Sp), l.all Sp.ok = true → spansR l.length (putSp l ++ r) = some (l, r)
  | [], _ => by simp [spansR, putSp]
  | x :: l, h => by
    simp only [List.all_cons, Bool.and_eq_true] at h
    rw [putSp_cons, List.append_assoc, List.length_cons, spansR, getText_putText _ _ (bytes_short h.1)]
    simp only [decodeSp_bytes x h.1, List.drop_left, spansR_put r l h.2, Option.map_some]
theorem spansR_some : ∀ {k : Nat} {l r : List UInt8} {sp : List Sp}, spansR k l = some (sp, r) → sp.length = k ∧ l = putSp sp ++ r ∧ sp.all Sp.ok = true
  | 0, l, r, sp, h => by
    simp only [spansR, Option.some.injEq, Prod.mk.injEq] at h
    obtain ⟨rfl, rfl⟩ := h
    exact ⟨rfl, rfl, rfl⟩
  | k + 1, l, r, sp, h => by
    simp only [spansR] at h
    cases e : getText l with
    | none => rw [e] at h; simp at h
    | some p =>
      obtain ⟨t, j⟩ := p
      rw [e] at h
      simp only at h
      cases e1 : decodeSp t with
      | none => rw [e1] at h; simp at h
      | some x =>
        rw [e1] at h
        simp only at h
        cases e2 : spansR k (l.drop j) with
        | none => rw [e2] at h; simp at h
        | some q =>
          obtain ⟨ms, r2⟩ := q
          rw [e2] at h
          simp only [Option.map_some, Option.some.injEq, Prod.mk.injEq] at h
          obtain ⟨rfl, rfl⟩ := h
          obtain ⟨h1, h2, h3⟩ := spansR_some e2
          obtain ⟨_, _, g3, _⟩ := getText_some e
          obtain ⟨d1, d2⟩ := decodeSp_some e1
          refine ⟨by simp [h1], ?_, by simp [d1, h3]⟩
          rw [putSp_cons, List.append_assoc, ← h2, d2, ← g3, List.take_append_drop]
/-- what is left of a text behind a letter -/
def behind (c : UInt8) : List UInt8 → Option (List UInt8)
  | [] => none
  | d :: l => if d = c then some l else none
def decBa (s : List UInt8) : Option Ba :=
  match behind 66 s with
  | none => none
  | some l =>
    match nums 3 l with
    | some ([h, f, m], r) => if numsOk h f m = true then
        match spansR m r with
        | some (sp, []) => some ⟨(h : Int), (f : Int), sp⟩
        | _ => none
      else none
    | _ => none
def decAk (s : List UInt8) : Option Ak :=
  match behind 65 s with
  | none => none
  | some l =>
    match nums 3 l with
    | some ([h, f, m], []) => if (hoOk h && (reOk f && decide ((m : Int) ≤ 2147483647 - f))) = true then some ⟨(h : Int), (f : Int), (f : Int) + m⟩ else none
    | _ => none
theorem behind_some {c : UInt8} {s l : List UInt8} (h : behind c s = some l) : s = c :: l := by
  cases s with
  | nil => simp [behind] at h
  | cons d t =>
    simp only [behind] at h
    split at h
    · rename_i e
      cases h
      rw [e]
    · cases h
theorem decBa_some {s : List UInt8} {b : Ba} (h : decBa s = some b) : b.ok = true ∧ b.bytes = s := by
  unfold decBa at h
  cases e : behind 66 s with
  | none => rw [e] at h; simp at h
  | some l =>
    rw [e] at h
    simp only at h
    cases e1 : nums 3 l with
    | none => rw [e1] at h; simp at h
    | some p =>
      obtain ⟨ns, r⟩ := p
      obtain ⟨n1, n2, n3⟩ := nums_some e1
      match ns, n1 with
      | [x, f, m], _ =>
        rw [e1] at h
        simp only at h
        split at h
        · rename_i hn
          cases e2 : spansR m r with
          | none => rw [e2] at h; simp at h
          | some q =>
            obtain ⟨sp, r2⟩ := q
            rw [e2] at h
            obtain ⟨s1, s2, s3⟩ := spansR_some e2
            cases r2 with
            | cons a t => simp at h
            | nil =>
              simp only [Option.some.injEq] at h
              subst h
              subst s1
              refine ⟨by unfold Ba.ok; rw [hn, s3]; rfl, ?_⟩
              unfold Ba.bytes
              simp only [Int.toNat_natCast]
              rw [List.append_nil] at s2
              rw [behind_some e, n2, s2]
        · cases h
theorem okNums {h f : Int} {m : Nat} (k : numsOk h f m = true) : 0 ≤ h ∧ h ≤ 3 ∧ 0 ≤ f ∧ f ≤ 2147483647 ∧ f + m ≤ 2147483647 ∧ 1 ≤ m ∧ m ≤ 8 := by
  unfold numsOk hoOk reOk at k
  simp only [Bool.and_eq_true, decide_eq_true_eq] at k
  omega
theorem decBa_behind {b : Ba} (h : b.ok = true) (r : List UInt8) : nums 3 (putN [b.ho.toNat, b.fi.toNat, b.sp.length] ++ (putSp b.sp ++ r)) = some ([b.ho.toNat, b.fi.toNat, b.sp.length], putSp b.sp ++ r) := by
  unfold Ba.ok at h
  simp only [Bool.and_eq_true] at h
  have := okNums h.1
  refine nums_put _ [b.ho.toNat, b.fi.toNat, b.sp.length] ?_
  intro n hn
  simp only [List.mem_cons, List.not_mem_nil, or_false] at hn
  rcases hn with rfl | rfl | rfl <;> omega
theorem decBa_bytes {b : Ba} (h : b.ok = true) : decBa b.bytes = some b := by
  have h0 := h
  unfold Ba.ok at h
  simp only [Bool.and_eq_true] at h
  have hb := okNums h.1
  have h1 := decBa_behind h0 []
  rw [List.append_nil] at h1
  have e1 : ((b.ho.toNat : Nat) : Int) = b.ho := by omega
  have e2 : ((b.fi.toNat : Nat) : Int) = b.fi := by omega
  unfold decBa Ba.bytes
  simp only [behind, if_true, h1, e1, e2, h.1]
  have h2 := spansR_put [] b.sp h.2
  rw [List.append_nil] at h2
  rw [h2]
theorem okAck {a : Ak} (h : a.ok = true) : 0 ≤ a.ho ∧ a.ho ≤ 3 ∧ 0 ≤ a.fi ∧ a.fi ≤ 2147483647 ∧ a.fi ≤ a.ne ∧ a.ne ≤ 2147483647 := by
  unfold Ak.ok hoOk reOk at h
  simp only [Bool.and_eq_true, decide_eq_true_eq] at h
  omega
theorem decAk_some {s : List UInt8} {a : Ak} (h : decAk s = some a) : a.ok = true ∧ a.bytes = s := by
  unfold decAk at h
  cases e : behind 65 s with
  | none => rw [e] at h; simp at h
  | some l =>
    rw [e] at h
    simp only at h
    cases e1 : nums 3 l with
    | none => rw [e1] at h; simp at h
    | some p =>
      obtain ⟨ns, r⟩ := p
      obtain ⟨n1, n2, n3⟩ := nums_some e1
      match ns, n1 with
      | [x, f, m], _ =>
        rw [e1] at h
        cases r with
        | cons c t => simp at h
        | nil =>
          simp only at h
          split at h
          · rename_i hn
            simp only [Option.some.injEq] at h
            subst h
            simp only [Bool.and_eq_true, decide_eq_true_eq] at hn
            obtain ⟨k1, k2, k3⟩ := hn
            refine ⟨?_, ?_⟩
            · unfold Ak.ok
              simp only [k1, k2, Bool.true_and, Bool.and_eq_true, decide_eq_true_eq, reOk]
              omega
            · unfold Ak.bytes
              have e2 : ((f : Int) + (m : Int) - (f : Int)).toNat = m := by omega
              simp only [Int.toNat_natCast, e2]
              rw [List.append_nil] at n2
              rw [behind_some e, n2]
          · cases h
theorem nums_ack {a : Ak} (h : a.ok = true) (r : List UInt8) : nums 3 (putN [a.ho.toNat, a.fi.toNat, (a.ne - a.fi).toNat] ++ r) = some ([a.ho.toNat, a.fi.toNat, (a.ne - a.fi).toNat], r) := by
  have := okAck h
  refine nums_put _ [a.ho.toNat, a.fi.toNat, (a.ne - a.fi).toNat] ?_
  intro n hn
  simp only [List.mem_cons, List.not_mem_nil, or_false] at hn
  rcases hn with rfl | rfl | rfl <;> omega
theorem decAk_bytes {a : Ak} (h : a.ok = true) : decAk a.bytes = some a := by
  have hb := okAck h
  have h1 := nums_ack h []
  rw [List.append_nil] at h1
  have e1 : ((a.ho.toNat : Nat) : Int) = a.ho := by omega
  have e2 : ((a.fi.toNat : Nat) : Int) = a.fi := by omega
  have e3 : (((a.ne - a.fi).toNat : Nat) : Int) = a.ne - a.fi := by omega
  unfold decAk Ak.bytes
  simp only [behind, if_true, h1, e1, e2, e3]
  rw [if_pos]
  · have : a.fi + (a.ne - a.fi) = a.ne := by omega
    rw [this]
  · simp only [Bool.and_eq_true, decide_eq_true_eq, hoOk, reOk]
    omega
end Spoor
