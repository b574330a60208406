/- Plain facts, no program in sight: what bytes of batches and acks tell: unlike ones have unlike bytes, none begins another one. -/
import Derived.Test.YtheeekmhmbkncaaPosts0
namespace Spoor

/-- a batch that bytes begin with, and what is behind it -/
def preBa (s : List UInt8) : Option (Ba × List UInt8) :=
  match behind 66 s with
  | none => none
  | some l =>
    match nums 3 l with
    | some ([h, f, m], r) => (spansR m r).map fun q => (⟨(h : Int), (f : Int), q.1⟩, q.2)
    | _ => none
def preAk (s : List UInt8) : Option (Ak × List UInt8) :=
  match behind 65 s with
  | none => none
  | some l =>
    match nums 3 l with
    | some ([h, f, m], r) => some (⟨(h : Int), (f : Int), (f : Int) + m⟩, r)
    | _ => none
theorem preBa_bytes {b : Ba} (h : b.ok = true) (r : List UInt8) : preBa (b.bytes ++ r) = some (b, r) := by
  have h0 := h
  unfold Ba.ok at h
  simp only [Bool.and_eq_true] at h
  have hb := okNums h.1
  have h1 := decBa_behind h0 r
  have e1 : ((b.ho.toNat : Nat) : Int) = b.ho := by omega
  have e2 : ((b.fi.toNat : Nat) : Int) = b.fi := by omega
  unfold preBa Ba.bytes
  rw [List.cons_append, List.append_assoc]
  simp only [behind, if_true, h1, spansR_put r b.sp h.2, Option.map_some, e1, e2]
theorem preAk_bytes {a : Ak} (h : a.ok = true) (r : List UInt8) : preAk (a.bytes ++ r) = some (a, r) := by
  have hb := okAck h
  have h1 := nums_ack h r
  have e1 : ((a.ho.toNat : Nat) : Int) = a.ho := by omega
  have e2 : ((a.fi.toNat : Nat) : Int) = a.fi := by omega
  have e3 : (((a.ne - a.fi).toNat : Nat) : Int) = a.ne - a.fi := by omega
  have e4 : a.fi + (a.ne - a.fi) = a.ne := by omega
  unfold preAk Ak.bytes
  rw [List.cons_append]
  simp only [behind, if_true, h1, e1, e2, e3, e4]
theorem ba_pre {a b : Ba} (ha : a.ok = true) (hb : b.ok = true) {r t : List UInt8} (h : a.bytes ++ r = b.bytes ++ t) : a = b ∧ r = t := by
  have h1 := preBa_bytes ha r
  rw [h, preBa_bytes hb t] at h1
  simp only [Option.some.injEq, Prod.mk.injEq] at h1
  exact ⟨h1.1.symm, h1.2.symm⟩
theorem ak_pre {a b : Ak} (ha : a.ok = true) (hb : b.ok = true) {r t : List UInt8} (h : a.bytes ++ r = b.bytes ++ t) : a = b ∧ r = t := by
  have h1 := preAk_bytes ha r
  rw [h, preAk_bytes hb t] at h1
  simp only [Option.some.injEq, Prod.mk.injEq] at h1
  exact ⟨h1.1.symm, h1.2.symm⟩
theorem ba_bytes_inj {a b : Ba} (ha : a.ok = true) (hb : b.ok = true) : a.bytes = b.bytes ↔ a = b :=
  ⟨fun h => (ba_pre ha hb (r := []) (t := []) (by rw [h])).1, fun h => by rw [h]⟩
theorem ak_bytes_inj {a b : Ak} (ha : a.ok = true) (hb : b.ok = true) : a.bytes = b.bytes ↔ a = b :=
  ⟨fun h => (ak_pre ha hb (r := []) (t := []) (by rw [h])).1, fun h => by rw [h]⟩
/-- cut off: none -/
theorem decBa_cut {b : Ba} (h : b.ok = true) {i : Nat} (hi : i < b.bytes.length) : decBa (b.bytes.take i) = none := by
  cases e : decBa (b.bytes.take i) with
  | none => rfl
  | some c =>
    obtain ⟨c1, c2⟩ := decBa_some e
    have h1 := ba_pre c1 h (r := b.bytes.drop i) (t := []) (by rw [c2, List.take_append_drop, List.append_nil])
    have h2 := congrArg List.length h1.2
    simp at h2
    omega
theorem decAk_cut {b : Ak} (h : b.ok = true) {i : Nat} (hi : i < b.bytes.length) : decAk (b.bytes.take i) = none := by
  cases e : decAk (b.bytes.take i) with
  | none => rfl
  | some c =>
    obtain ⟨c1, c2⟩ := decAk_some e
    have h1 := ak_pre c1 h (r := b.bytes.drop i) (t := []) (by rw [c2, List.take_append_drop, List.append_nil])
    have h2 := congrArg List.length h1.2
    simp at h2
    omega
/-- with more behind them: none -/
theorem decBa_more {b : Ba} (h : b.ok = true) (m : List UInt8) : (decBa (b.bytes ++ m)).isSome = decide (m = []) := by
  by_cases hm : m = []
  · subst hm
    rw [List.append_nil, decBa_bytes h]
    rfl
  · rw [decide_eq_false hm]
    cases e : decBa (b.bytes ++ m) with
    | none => rfl
    | some c =>
      obtain ⟨c1, c2⟩ := decBa_some e
      have h1 := ba_pre c1 h (r := []) (t := m) (by rw [c2, List.append_nil])
      exact absurd h1.2.symm hm
theorem decAk_more {b : Ak} (h : b.ok = true) (m : List UInt8) : (decAk (b.bytes ++ m)).isSome = decide (m = []) := by
  by_cases hm : m = []
  · subst hm
    rw [List.append_nil, decAk_bytes h]
    rfl
  · rw [decide_eq_false hm]
    cases e : decAk (b.bytes ++ m) with
    | none => rfl
    | some c =>
      obtain ⟨c1, c2⟩ := decAk_some e
      have h1 := ak_pre c1 h (r := []) (t := m) (by rw [c2, List.append_nil])
      exact absurd h1.2.symm hm
/-- of one kind alone -/
theorem decAk_ba (b : Ba) : decAk b.bytes = none := rfl
theorem decBa_ak (a : Ak) : decBa a.bytes = none := rfl
theorem decAk_of_ba {s : List UInt8} {b : Ba} (h : decBa s = some b) : decAk s = none := by
  rw [← (decBa_some h).2]
  exact decAk_ba b
theorem putSp_short : ∀ {l : List Sp}, l.all Sp.ok = true → (putSp l).length ≤ 91 * l.length
  | [], _ => by simp [putSp]
  | x :: l, h => by
    simp only [List.all_cons, Bool.and_eq_true] at h
    have h1 := putSp_short h.2
    have h2 := bytes_length h.1
    have h3 := put_length 0 x.bytes.length (by omega)
    rw [putSp_cons, List.length_append, List.length_cons]
    unfold putText
    rw [List.length_append]
    omega
theorem ba_short {b : Ba} (h : b.ok = true) : b.bytes.length ≤ 800 := by
  unfold Ba.ok at h
  simp only [Bool.and_eq_true] at h
  have hb := okNums h.1
  have h1 := putSp_short h.2
  have p1 := put_length 8 b.ho.toNat (by omega)
  have p2 := put_length 8 b.fi.toNat (by omega)
  have p3 := put_length 8 b.sp.length (by omega)
  unfold Ba.bytes
  simp only [List.length_cons, List.length_append, putN_cons, putN_nil, List.length_nil]
  omega
end Spoor
