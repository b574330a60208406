/- Plain facts, no program in sight: what a name is, which spans may be, a span's bytes, and how they are read. -/
import Derived.Test.YtfkjdjdgcegniaaInts0
namespace Spoor

/-- a name's bytes -/
def byteOk (c : UInt8) : Bool := decide (33 ≤ c.toNat ∧ c.toNat ≤ 126)
def nameOk (l : List UInt8) : Bool := decide (1 ≤ l.length ∧ l.length ≤ 12) && l.all byteOk

structure Sp where
  tr : Int
  id : Int
  pa : Int
  sv : List UInt8
  ho : List UInt8
  st : Int
  du : Int
  no : List UInt8
  deriving DecidableEq

/-- the five numbers, in the order in which they are put -/
def Sp.num (x : Sp) : Nat → Int
  | 0 => x.tr
  | 1 => x.id
  | 2 => x.pa
  | 3 => x.st
  | _ => x.du
def leastOf : Nat → Int
  | 0 => 1
  | 1 => 1
  | _ => 0
def mostOf : Nat → Int
  | 0 => 2147483647
  | 1 => 2147483647
  | 2 => 2147483647
  | _ => 1073741824
def numOk (x : Sp) (i : Nat) : Bool := decide (leastOf i ≤ x.num i) && decide (x.num i ≤ mostOf i)
/-- may the span be? -/
def Sp.ok (x : Sp) : Bool := numOk x 0 && numOk x 1 && numOk x 2 && numOk x 3 && numOk x 4 && nameOk x.sv && nameOk x.ho && decide (x.no.length ≤ 24)

def Sp.zero : Sp := ⟨0, 0, 0, [], [], 0, 0, []⟩
/-- its bytes -/
def Sp.bytes (x : Sp) : List UInt8 := put x.tr.toNat ++ put x.id.toNat ++ put x.pa.toNat ++ put x.st.toNat ++ put x.du.toNat ++ putText x.sv ++ putText x.ho ++ putText x.no

/-- numbers, one behind the other, from a place on: the place behind so many, and they -/
def getN (l : List UInt8) (at' : Nat) : Nat → Option (Nat × List Nat)
  | 0 => some (at', [])
  | i + 1 => match getN l at' i with
    | none => none
    | some (p, ns) => match get (l.drop p) with
      | none => none
      | some (n, k) => some (p + k, ns ++ [n])
/-- texts, one behind the other, from a place on -/
def getT (l : List UInt8) (at' : Nat) : Nat → Option (Nat × List (List UInt8))
  | 0 => some (at', [])
  | i + 1 => match getT l at' i with
    | none => none
    | some (p, ts) => match getText (l.drop p) with
      | none => none
      | some (t, k) => some (p + k, ts ++ [t])
theorem getN_length (l : List UInt8) (at' : Nat) : ∀ (i p : Nat) (ns : List Nat), getN l at' i = some (p, ns) → ns.length = i := by
  intro i
  induction i with
  | zero => intro p ns h; simp [getN] at h; rw [h.2]; rfl
  | succ i ih =>
    intro p ns h
    rw [getN] at h
    cases h1 : getN l at' i with
    | none => rw [h1] at h; cases h
    | some q =>
      obtain ⟨p1, ns1⟩ := q
      rw [h1] at h
      simp only at h
      cases h2 : get (l.drop p1) with
      | none => rw [h2] at h; cases h
      | some q =>
        obtain ⟨n, k⟩ := q
        rw [h2] at h
        simp only [Option.some.injEq, Prod.mk.injEq] at h
        rw [← h.2, List.length_append, ih _ _ h1]
        rfl
theorem getT_length (l : List UInt8) (at' : Nat) : ∀ (i p : Nat) (ns : List (List UInt8)), getT l at' i = some (p, ns) → ns.length = i := by
  intro i
  induction i with
  | zero => intro p ns h; simp [getT] at h; rw [h.2]; rfl
  | succ i ih =>
    intro p ns h
    rw [getT] at h
    cases h1 : getT l at' i with
    | none => rw [h1] at h; cases h
    | some q =>
      obtain ⟨p1, ns1⟩ := q
      rw [h1] at h
      simp only at h
      cases h2 : getText (l.drop p1) with
      | none => rw [h2] at h; cases h
      | some q =>
        obtain ⟨n, k⟩ := q
        rw [h2] at h
        simp only [Option.some.injEq, Prod.mk.injEq] at h
        rw [← h.2, List.length_append, ih _ _ h1]
        rfl

/-- what stands at a place, as a span; the place behind it -/
def takeSp (l : List UInt8) (at' : Nat) : Option (Sp × Nat) :=
  match getN l at' 5 with
  | none => none
  | some (p, ns) => match getT l p 3 with
    | none => none
    | some (q, ts) => some (⟨ns.getD 0 0, ns.getD 1 0, ns.getD 2 0, ts.getD 0 [], ts.getD 1 [], ns.getD 3 0, ns.getD 4 0, ts.getD 2 []⟩, q)
/-- the span of some bytes -/
def decodeSp (l : List UInt8) : Option Sp :=
  match takeSp l 0 with
  | none => none
  | some (x, q) => if q = l.length ∧ x.ok = true then some x else none
def encodeSp (x : Sp) : Option (List UInt8) := if x.ok = true then some x.bytes else none

theorem numOk_of {x : Sp} {i : Nat} (h : numOk x i = true) : leastOf i ≤ x.num i ∧ x.num i ≤ mostOf i := by
  unfold numOk at h
  simpa using h
theorem ok_of {x : Sp} (h : x.ok = true) : (1 ≤ x.tr ∧ x.tr ≤ 2147483647) ∧ (1 ≤ x.id ∧ x.id ≤ 2147483647) ∧ (0 ≤ x.pa ∧ x.pa ≤ 2147483647) ∧ (0 ≤ x.st ∧ x.st ≤ 1073741824) ∧ (0 ≤ x.du ∧ x.du ≤ 1073741824) ∧ nameOk x.sv = true ∧ nameOk x.ho = true ∧ x.no.length ≤ 24 := by
  unfold Sp.ok at h
  simp only [Bool.and_eq_true, decide_eq_true_eq] at h
  obtain ⟨⟨⟨⟨⟨⟨⟨h0, h1⟩, h2⟩, h3⟩, h4⟩, h5⟩, h6⟩, h7⟩ := h
  exact ⟨numOk_of h0, numOk_of h1, numOk_of h2, numOk_of h3, numOk_of h4, h5, h6, h7⟩
theorem nameOk_of {l : List UInt8} (h : nameOk l = true) : 1 ≤ l.length ∧ l.length ≤ 12 := by
  unfold nameOk at h
  simp only [Bool.and_eq_true, decide_eq_true_eq] at h
  exact h.1

theorem drop_of {l a r : List UInt8} {p : Nat} (h : l.drop p = a ++ r) : l.drop (p + a.length) = r := by
  rw [← List.drop_drop, h, List.drop_left]
theorem getN_step {l r : List UInt8} {at' i p n : Nat} {ns : List Nat} (h : getN l at' i = some (p, ns)) (hd : l.drop p = put n ++ r) (hn : n ≤ 9223372036854775807) :
    getN l at' (i + 1) = some (p + (put n).length, ns ++ [n]) := by
  rw [getN, h]
  simp only
  rw [hd, get_put n r hn]
theorem getT_step {l r t : List UInt8} {at' i p : Nat} {ts : List (List UInt8)} (h : getT l at' i = some (p, ts)) (hd : l.drop p = putText t ++ r) (hn : t.length ≤ 9223372036854775807) :
    getT l at' (i + 1) = some (p + (putText t).length, ts ++ [t]) := by
  rw [getT, h]
  simp only
  rw [hd, getText_putText t r hn]

/-- what was put is read, whatever stands behind -/
theorem takeSp_bytes (x : Sp) (r : List UInt8) (h : x.ok = true) : takeSp (x.bytes ++ r) 0 = some (x, x.bytes.length) := by
  obtain ⟨⟨a1, a2⟩, ⟨b1, b2⟩, ⟨c1, c2⟩, ⟨d1, d2⟩, ⟨e1, e2⟩, f, g, k⟩ := ok_of h
  have fl := nameOk_of f
  have gl := nameOk_of g
  have hl : x.bytes ++ r = put x.tr.toNat ++ (put x.id.toNat ++ (put x.pa.toNat ++ (put x.st.toNat ++ (put x.du.toNat ++ (putText x.sv ++ (putText x.ho ++ (putText x.no ++ r))))))) := by
    simp [Sp.bytes]
  generalize hL : x.bytes ++ r = L at *
  have s0 : getN L 0 0 = some (0, []) := rfl
  have q0 : L.drop 0 = put x.tr.toNat ++ (put x.id.toNat ++ (put x.pa.toNat ++ (put x.st.toNat ++ (put x.du.toNat ++ (putText x.sv ++ (putText x.ho ++ (putText x.no ++ r))))))) := hl
  have s1 := getN_step s0 q0 (by omega)
  have q1 := drop_of q0
  have s2 := getN_step s1 q1 (by omega)
  have q2 := drop_of q1
  have s3 := getN_step s2 q2 (by omega)
  have q3 := drop_of q2
  have s4 := getN_step s3 q3 (by omega)
  have q4 := drop_of q3
  have s5 := getN_step s4 q4 (by omega)
  have q5 := drop_of q4
  generalize hp : 0 + (put x.tr.toNat).length + (put x.id.toNat).length + (put x.pa.toNat).length + (put x.st.toNat).length + (put x.du.toNat).length = p at *
  have t0 : getT L p 0 = some (p, []) := rfl
  have t1 := getT_step t0 q5 (by omega)
  have q6 := drop_of q5
  have t2 := getT_step t1 q6 (by omega)
  have q7 := drop_of q6
  have t3 := getT_step t2 q7 (by omega)
  unfold takeSp
  rw [s5]
  simp only
  rw [t3]
  simp only [Option.some.injEq, Prod.mk.injEq]
  constructor
  · have i1 : (x.tr.toNat : Int) = x.tr := by omega
    have i2 : (x.id.toNat : Int) = x.id := by omega
    have i3 : (x.pa.toNat : Int) = x.pa := by omega
    have i4 : (x.st.toNat : Int) = x.st := by omega
    have i5 : (x.du.toNat : Int) = x.du := by omega
    simp [i1, i2, i3, i4, i5]
  · rw [← hp]
    simp only [Sp.bytes, List.length_append]
    omega
theorem decodeSp_bytes (x : Sp) (h : x.ok = true) : decodeSp x.bytes = some x := by
  have := takeSp_bytes x [] h
  rw [List.append_nil] at this
  unfold decodeSp
  rw [this]
  simp [h]

theorem get_take {l : List UInt8} {p n k : Nat} (h : get (l.drop p) = some (n, k)) : p + k ≤ l.length ∧ n ≤ 9223372036854775807 ∧ l.take (p + k) = l.take p ++ put n := by
  obtain ⟨g1, g2, g3, g4, g5⟩ := get_some h
  rw [List.length_drop] at g3
  exact ⟨by omega, g4, by rw [List.take_add, g5]⟩
theorem getText_take {l t : List UInt8} {p k : Nat} (h : getText (l.drop p) = some (t, k)) (hp : p ≤ l.length) : p + k ≤ l.length ∧ l.take (p + k) = l.take p ++ putText t := by
  obtain ⟨g1, g2, g3, _⟩ := getText_some h
  rw [List.length_drop] at g1
  exact ⟨by omega, by rw [List.take_add, g3]⟩
/-- numbers' bytes -/
def putN (ns : List Nat) : List UInt8 := (ns.map put).flatten
def putT (ts : List (List UInt8)) : List UInt8 := (ts.map putText).flatten
theorem getN_take {l : List UInt8} {at' : Nat} (ha : at' ≤ l.length) : ∀ (i p : Nat) (ns : List Nat), getN l at' i = some (p, ns) → p ≤ l.length ∧ at' ≤ p ∧ l.take p = l.take at' ++ putN ns ∧ ∀ n ∈ ns, n ≤ 9223372036854775807 := by
  intro i
  induction i with
  | zero => intro p ns h; simp [getN] at h; obtain ⟨rfl, rfl⟩ := h; exact ⟨ha, Nat.le_refl _, by simp [putN], by simp⟩
  | succ i ih =>
    intro p ns h
    rw [getN] at h
    cases h1 : getN l at' i with
    | none => rw [h1] at h; cases h
    | some q =>
      obtain ⟨p1, ns1⟩ := q
      rw [h1] at h
      simp only at h
      cases h2 : get (l.drop p1) with
      | none => rw [h2] at h; cases h
      | some q =>
        obtain ⟨n, k⟩ := q
        rw [h2] at h
        simp only [Option.some.injEq, Prod.mk.injEq] at h
        obtain ⟨rfl, rfl⟩ := h
        obtain ⟨j1, j2, j3, j4⟩ := ih _ _ h1
        obtain ⟨k1, k2, k3⟩ := get_take h2
        refine ⟨k1, by omega, ?_, ?_⟩
        · rw [k3, j3]; simp [putN]
        · intro m hm
          rcases List.mem_append.1 hm with hm | hm
          · exact j4 m hm
          · simp at hm; omega
theorem getT_take {l : List UInt8} {at' : Nat} (ha : at' ≤ l.length) : ∀ (i p : Nat) (ts : List (List UInt8)), getT l at' i = some (p, ts) → p ≤ l.length ∧ at' ≤ p ∧ l.take p = l.take at' ++ putT ts := by
  intro i
  induction i with
  | zero => intro p ns h; simp [getT] at h; obtain ⟨rfl, rfl⟩ := h; exact ⟨ha, Nat.le_refl _, by simp [putT]⟩
  | succ i ih =>
    intro p ns h
    rw [getT] at h
    cases h1 : getT l at' i with
    | none => rw [h1] at h; cases h
    | some q =>
      obtain ⟨p1, ns1⟩ := q
      rw [h1] at h
      simp only at h
      cases h2 : getText (l.drop p1) with
      | none => rw [h2] at h; cases h
      | some q =>
        obtain ⟨n, k⟩ := q
        rw [h2] at h
        simp only [Option.some.injEq, Prod.mk.injEq] at h
        obtain ⟨rfl, rfl⟩ := h
        obtain ⟨j1, j2, j3⟩ := ih _ _ h1
        obtain ⟨k1, k2⟩ := getText_take h2 j1
        refine ⟨k1, by omega, ?_⟩
        rw [k2, j3]
        simp [putT]
/-- what is read was put -/
theorem takeSp_some {l : List UInt8} {x : Sp} {q : Nat} (h : takeSp l 0 = some (x, q)) : q ≤ l.length ∧ l.take q = x.bytes := by
  unfold takeSp at h
  cases h1 : getN l 0 5 with
  | none => rw [h1] at h; cases h
  | some s =>
    obtain ⟨p, ns⟩ := s
    rw [h1] at h
    simp only at h
    cases h2 : getT l p 3 with
    | none => rw [h2] at h; cases h
    | some s =>
      obtain ⟨q', ts⟩ := s
      rw [h2] at h
      simp only [Option.some.injEq, Prod.mk.injEq] at h
      obtain ⟨rfl, rfl⟩ := h
      obtain ⟨j1, j2, j3, j4⟩ := getN_take (Nat.zero_le _) _ _ _ h1
      obtain ⟨k1, k2, k3⟩ := getT_take j1 _ _ _ h2
      have hn := getN_length _ _ _ _ _ h1
      have ht := getT_length _ _ _ _ _ h2
      refine ⟨k1, ?_⟩
      rw [k3, j3]
      match ns, hn, ts, ht with
      | [a, b, c, d, e], _, [u, v, w], _ => simp [putN, putT, Sp.bytes]
theorem decodeSp_some {l : List UInt8} {x : Sp} (h : decodeSp l = some x) : x.ok = true ∧ x.bytes = l := by
  unfold decodeSp at h
  cases h1 : takeSp l 0 with
  | none => rw [h1] at h; cases h
  | some s =>
    obtain ⟨y, q⟩ := s
    rw [h1] at h
    simp only at h
    split at h
    · rename_i hc
      simp only [Option.some.injEq] at h
      subst h
      obtain ⟨g1, g2⟩ := takeSp_some h1
      refine ⟨hc.2, ?_⟩
      rw [← g2, hc.1, List.take_length]
    · cases h
/-- unlike spans have unlike bytes, with anything behind them -/
theorem bytes_inj {x y : Sp} {a b : List UInt8} (hx : x.ok = true) (hy : y.ok = true) (h : x.bytes ++ a = y.bytes ++ b) : x = y ∧ a = b := by
  have h1 := takeSp_bytes x a hx
  have h2 := takeSp_bytes y b hy
  rw [h, h2] at h1
  simp only [Option.some.injEq, Prod.mk.injEq] at h1
  obtain ⟨rfl, _⟩ := h1
  exact ⟨rfl, List.append_cancel_left h⟩
theorem putText_length_le {t : List UInt8} {m : Nat} (h : t.length ≤ m) (hm : m < 128) : (putText t).length ≤ m + 1 := by
  have h2 : (put t.length).length = 1 := (put_one _).2 (by omega)
  rw [putText, List.length_append, h2]
  omega
theorem bytes_length {x : Sp} (h : x.ok = true) : x.bytes.length ≤ 90 := by
  obtain ⟨⟨a1, a2⟩, ⟨b1, b2⟩, ⟨c1, c2⟩, ⟨d1, d2⟩, ⟨e1, e2⟩, f, g, k⟩ := ok_of h
  have fl := nameOk_of f
  have gl := nameOk_of g
  have p1 := put_length 4 x.tr.toNat (by omega)
  have p2 := put_length 4 x.id.toNat (by omega)
  have p3 := put_length 4 x.pa.toNat (by omega)
  have p4 := put_length 4 x.st.toNat (by omega)
  have p5 := put_length 4 x.du.toNat (by omega)
  have t1 := putText_length_le fl.2 (by omega)
  have t2 := putText_length_le gl.2 (by omega)
  have t3 := putText_length_le k (by omega)
  simp only [Sp.bytes, List.length_append]
  omega
end Spoor
