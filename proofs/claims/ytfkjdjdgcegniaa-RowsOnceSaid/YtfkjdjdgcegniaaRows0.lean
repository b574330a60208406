/- Plain facts, no program in sight: a span's cells, the span of a cell, what has expired, and which spans are taken. -/
import Derived.Test.YtfkjdjdgcegniaaKeys0
import Derived.Test.YtfkjdjdgcegniaaBlocks0
namespace Spoor

/-- has what began at a tick expired at another one? -/
def lateB (st now : Int) : Bool := decide (st + 60 ≤ now)
def cellA (x : Sp) : Ce := ⟨sKey x.tr x.id, 0, x.bytes⟩
def cellI (x : Sp) : Ce := ⟨xKey x.sv x.ho x.st x.tr x.id, 0, []⟩
def cellsR (x : Sp) : Option (List Ce) := if x.ok = true then some [cellA x, cellI x] else none
def spanR (c : Ce) : Option Sp :=
  match decodeSp c.v with
  | none => none
  | some x => if sKey x.tr x.id = c.k then some x else none
def dropR (c : Ce) (now : Int) : Bool :=
  match spanR c with
  | some x => lateB x.st now
  | none =>
    match parseK c.k with
    | some p => decide (p.kind = 120) && lateB p.st now
    | none => false
theorem ok_ids {x : Sp} (h : x.ok = true) : (idOk x.tr && idOk x.id) = true := by
  obtain ⟨⟨a1, a2⟩, ⟨b1, b2⟩, _⟩ := ok_of h
  unfold idOk
  simp only [Bool.and_eq_true, decide_eq_true_eq]
  try simp only [Sp.num, leastOf, mostOf] at a1 a2 b1 b2
  omega
theorem spanR_cellA {x : Sp} (h : x.ok = true) : spanR (cellA x) = some x := by
  unfold spanR cellA
  simp only [decodeSp_bytes x h, if_true]
theorem spanR_some {c : Ce} {x : Sp} (h : spanR c = some x) : x.ok = true ∧ c.v = x.bytes ∧ c.k = sKey x.tr x.id := by
  unfold spanR at h
  cases e : decodeSp c.v with
  | none => rw [e] at h; simp at h
  | some y =>
    rw [e] at h
    simp only at h
    split at h
    · rename_i hk
      simp only [Option.some.injEq] at h
      subst h
      obtain ⟨d1, d2⟩ := decodeSp_some e
      exact ⟨d1, d2.symm, hk.symm⟩
    · cases h
theorem decode_empty : decodeSp [] = none := by rfl
theorem spanR_cellI (x : Sp) : spanR (cellI x) = none := by
  unfold spanR cellI
  simp only [decode_empty]
theorem dropR_cellA {x : Sp} (h : x.ok = true) (now : Int) : dropR (cellA x) now = lateB x.st now := by
  unfold dropR
  rw [spanR_cellA h]
theorem dropR_cellI {x : Sp} (h : x.ok = true) (now : Int) : dropR (cellI x) now = lateB x.st now := by
  unfold dropR
  rw [spanR_cellI]
  unfold cellI
  simp only [parseK_xKey (like_ok h)]
  rfl
/-- is nothing there, or what says nothing any more? -/
def freeR (o : Option Ce) (now : Int) : Bool :=
  match o with
  | none => true
  | some c => dropR c now
/-- which spans are taken, those ahead being taken -/
def taken (get : List UInt8 → Option Ce) (now : Int) (acc : List Sp) (x : Sp) : Bool :=
  x.ok && !lateB x.st now && !(acc.any fun y => sKey y.tr y.id == sKey x.tr x.id) && freeR (get (sKey x.tr x.id)) now
def takeR (get : List UInt8 → Option Ce) (now : Int) : List Sp → List Sp → List Sp
  | acc, [] => acc
  | acc, x :: l => takeR get now (if taken get now acc x then acc ++ [x] else acc) l
theorem takeR_append (get : List UInt8 → Option Ce) (now : Int) : ∀ (l m acc : List Sp), takeR get now acc (l ++ m) = takeR get now (takeR get now acc l) m
  | [], _, _ => rfl
  | x :: l, m, acc => by
    rw [List.cons_append, takeR, takeR, takeR_append]
theorem takeR_snoc (get : List UInt8 → Option Ce) (now : Int) (l acc : List Sp) (x : Sp) : takeR get now acc (l ++ [x]) = (if taken get now (takeR get now acc l) x then takeR get now acc l ++ [x] else takeR get now acc l) := by
  rw [takeR_append]
  rfl
def cellsOf (l : List Sp) : List Ce := l.flatMap fun x => [cellA x, cellI x]
theorem cellsOf_snoc (l : List Sp) (x : Sp) : cellsOf (l ++ [x]) = cellsOf l ++ [cellA x, cellI x] := by simp [cellsOf]
/-- which spans of cells have not expired -/
def liveR (l : List Ce) (now : Int) : List Sp := l.filterMap fun c => match spanR c with | some x => if lateB x.st now then none else some x | none => none
theorem liveR_append (l m : List Ce) (now : Int) : liveR (l ++ m) now = liveR l now ++ liveR m now := by simp [liveR]
theorem liveR_cells {l : List Sp} {now : Int} (h : ∀ x ∈ l, x.ok = true ∧ lateB x.st now = false) : liveR (cellsOf l) now = l := by
  induction l with
  | nil => rfl
  | cons x l ih =>
    obtain ⟨h1, h2⟩ := h x (by simp)
    have e : cellsOf (x :: l) = [cellA x, cellI x] ++ cellsOf l := by simp [cellsOf]
    rw [e, liveR_append, ih (fun y hy => h y (by simp [hy]))]
    unfold liveR
    simp only [List.filterMap_cons, spanR_cellA h1, spanR_cellI, h2, List.filterMap_nil]
    rfl
theorem takeR_in (get : List UInt8 → Option Ce) (now : Int) : ∀ (l acc : List Sp), (∀ x ∈ acc, x.ok = true ∧ lateB x.st now = false) → ∀ x ∈ takeR get now acc l, x.ok = true ∧ lateB x.st now = false
  | [], _, h => h
  | y :: l, acc, h => by
    rw [takeR]
    refine takeR_in get now l _ ?_
    intro x hx
    split at hx
    · rename_i ht
      rcases List.mem_append.1 hx with hx | hx
      · exact h x hx
      · simp only [List.mem_singleton] at hx
        subst hx
        unfold taken at ht
        simp only [Bool.and_eq_true, Bool.not_eq_true'] at ht
        exact ⟨ht.1.1.1, ht.1.1.2⟩
    · exact h x hx
end Spoor
