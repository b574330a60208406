/- Plain facts, no program in sight: the keys of cells as lists of bytes, how they are parsed, and their order. No condition but those that each theorem names. -/
import Derived.Test.YtfkjdjdgcegniaaSpans0
import Derived.Test.YtfkjdjdgcegniaaBytes0
import Derived.WalkKit
namespace Spoor
open Go

/-! the order of texts -/
theorem bl_snoc : ∀ (x y : List UInt8) (c d : UInt8), x.length = y.length → Op.bytesLess (x ++ [c]) (y ++ [d]) = (Op.bytesLess x y || (x == y && decide (c < d)))
  | [], [], c, d, _ => by simp [Op.bytesLess]
  | a :: x, b :: y, c, d, h => by
    have ih := bl_snoc x y c d (by simpa using h)
    simp only [List.cons_append, Op.bytesLess, ih]
    by_cases h1 : a < b
    · simp [h1]
    · by_cases h2 : a = b
      · subst h2; simp
      · have h3 : (a == b) = false := by simpa using h2
        simp [h1, h3]
theorem bigK_eq (k a b : Nat) : (bigK k a == bigK k b) = decide (a % 256 ^ k = b % 256 ^ k) := by
  rw [Bool.eq_iff_iff, beq_iff_eq, decide_eq_true_iff]
  constructor
  · intro h; rw [← val256_bigK k a, ← val256_bigK k b, h]
  · intro h
    have h1 := bigK_val256 k (bigK k a) (bigK_length k a)
    have h2 := bigK_val256 k (bigK k b) (bigK_length k b)
    rw [val256_bigK] at h1 h2
    rw [← h1, ← h2, h]
theorem bigK_less : ∀ (k a b : Nat), Op.bytesLess (bigK k a) (bigK k b) = decide (a % 256 ^ k < b % 256 ^ k)
  | 0, a, b => by simp [bigK, Op.bytesLess, Nat.mod_one]
  | k + 1, a, b => by
    rw [bigK, bigK, bl_snoc _ _ _ _ (by rw [bigK_length, bigK_length]), bigK_less k, bigK_eq k]
    have ea : a % 256 ^ (k + 1) = a / 256 % 256 ^ k * 256 + a % 256 := by rw [Nat.pow_succ, Nat.mul_comm (256 ^ k) 256, Nat.mod_mul]; omega
    have eb : b % 256 ^ (k + 1) = b / 256 % 256 ^ k * 256 + b % 256 := by rw [Nat.pow_succ, Nat.mul_comm (256 ^ k) 256, Nat.mod_mul]; omega
    rw [ea, eb]
    have hc : (UInt8.ofNat (a % 256) < UInt8.ofNat (b % 256)) ↔ a % 256 < b % 256 := by
      rw [UInt8.lt_iff_toNat_lt]; simp
    generalize a / 256 % 256 ^ k = x
    generalize b / 256 % 256 ^ k = y
    rw [Bool.eq_iff_iff]
    simp only [Bool.or_eq_true, Bool.and_eq_true, decide_eq_true_iff, hc]
    omega
theorem big_less (a b : Nat) (ha : a ≤ 9223372036854775807) (hb : b ≤ 9223372036854775807) : Op.bytesLess (big a) (big b) = decide ((a : Int) < b) := by
  rw [big, big, bigK_less, Nat.mod_eq_of_lt (by omega), Nat.mod_eq_of_lt (by omega)]
  simp
theorem big_eq (a b : Nat) (ha : a ≤ 9223372036854775807) (hb : b ≤ 9223372036854775807) : (big a == big b) = ((a : Int) == b) := by
  rw [big, big, bigK_eq, Nat.mod_eq_of_lt (by omega), Nat.mod_eq_of_lt (by omega), Bool.eq_iff_iff, beq_iff_eq, decide_eq_true_iff]
  omega
theorem bl_app : ∀ (x y a b : List UInt8), x.length = y.length → Op.bytesLess (x ++ a) (y ++ b) = (Op.bytesLess x y || (x == y && Op.bytesLess a b))
  | [], [], a, b, _ => by simp [Op.bytesLess]
  | c :: x, d :: y, a, b, h => by
    have ih := bl_app x y a b (by simpa using h)
    simp only [List.cons_append, Op.bytesLess, ih]
    by_cases h1 : c < d
    · simp [h1]
    · by_cases h2 : c = d
      · subst h2; simp
      · have h3 : (c == d) = false := by simpa using h2
        simp [h1, h3]
/-- no byte of it is 0 -/
def nz (l : List UInt8) : Bool := l.all fun c => c != 0
theorem bl_names : ∀ (u v a b : List UInt8), nz u = true → nz v = true → Op.bytesLess (u ++ 0 :: a) (v ++ 0 :: b) = (Op.bytesLess u v || (u == v && Op.bytesLess a b))
  | [], [], a, b, _, _ => by simp [Op.bytesLess]
  | [], d :: v, a, b, _, h => by
    simp only [nz, List.all_cons, Bool.and_eq_true, bne_iff_ne] at h
    have : (0 : UInt8) < d := by rw [UInt8.lt_iff_toNat_lt]; have : d.toNat ≠ 0 := fun e => h.1 (UInt8.toNat_inj.1 e); simp; omega
    simp [Op.bytesLess, this]
  | c :: u, [], a, b, h, _ => by
    simp only [nz, List.all_cons, Bool.and_eq_true, bne_iff_ne] at h
    have h1 : ¬ c < 0 := by rw [UInt8.lt_iff_toNat_lt]; simp
    have h2 : (c == 0) = false := by simpa using h.1
    simp [Op.bytesLess, h1, h2]
  | c :: u, d :: v, a, b, h, k => by
    simp only [nz, List.all_cons, Bool.and_eq_true] at h k
    have ih := bl_names u v a b h.2 k.2
    simp only [List.cons_append, Op.bytesLess, ih]
    by_cases h1 : c < d
    · simp [h1]
    · by_cases h2 : c = d
      · subst h2; simp
      · have h3 : (c == d) = false := by simpa using h2
        simp [h1, h3]
theorem nz_name {l : List UInt8} (h : nameOk l = true) : nz l = true := by
  unfold nameOk at h
  unfold nz
  rw [Bool.and_eq_true] at h
  rw [List.all_eq_true] at h ⊢
  intro c hc
  have := h.2 c hc
  simp only [byteOk, decide_eq_true_eq] at this
  rw [bne_iff_ne]
  intro e
  subst e
  simp at this

/-! keys -/
/-- a key's parts -/
structure KP where
  kind : Nat
  tr : Int
  id : Int
  st : Int
  sv : List UInt8
  ho : List UInt8
  deriving DecidableEq
def KP.zero : KP := ⟨0, 0, 0, 0, [], []⟩
def idOk (n : Int) : Bool := decide (1 ≤ n) && decide (n ≤ 2147483647)
def sKey (tr id : Int) : List UInt8 := 115 :: (big tr.toNat ++ big id.toNat)
def aheadK (sv ho : List UInt8) : List UInt8 := 120 :: (sv ++ 0 :: (ho ++ [0]))
def xKey (sv ho : List UInt8) (st tr id : Int) : List UInt8 := 120 :: (sv ++ 0 :: (ho ++ 0 :: (big st.toNat ++ (big tr.toNat ++ big id.toNat))))
theorem xKey_ahead (sv ho : List UInt8) (st tr id : Int) : xKey sv ho st tr id = aheadK sv ho ++ big st.toNat ++ big tr.toNat ++ big id.toNat := by
  simp [xKey, aheadK]
/-- the span that stands for a key's parts -/
def KP.like (p : KP) : Sp := if p.kind = 115 then ⟨p.tr, p.id, 0, [115], [115], p.st, 0, []⟩ else ⟨p.tr, p.id, 0, p.sv, p.ho, p.st, 0, []⟩
def KP.key (p : KP) : Option (List UInt8) :=
  if p.like.ok = true then some (if p.kind = 115 then sKey p.tr p.id else xKey p.sv p.ho p.st p.tr p.id) else none
def ofKey (tr id : Int) : Option (List UInt8) := if (idOk tr && idOk id) = true then some (sKey tr id) else none
def indexKey (x : Sp) : Option (List UInt8) := if x.ok = true then some (xKey x.sv x.ho x.st x.tr x.id) else none
theorem ok_s (tr id st : Int) : (⟨tr, id, 0, [115], [115], st, 0, []⟩ : Sp).ok = (idOk tr && idOk id && (decide (0 ≤ st) && decide (st ≤ 1073741824))) := by
  have h1 : nameOk [115] = true := by decide
  unfold Sp.ok numOk idOk
  simp only [Sp.num, leastOf, mostOf, h1]
  simp
theorem ofKey_key (tr id : Int) : (⟨115, tr, id, 0, [], []⟩ : KP).key = ofKey tr id := by
  unfold KP.key ofKey KP.like
  simp only [if_true, ok_s]
  simp
/-- the span's index key asks what the span asks, but for its parent, duration and note -/
theorem like_ok {x : Sp} (h : x.ok = true) : (⟨120, x.tr, x.id, x.st, x.sv, x.ho⟩ : KP).like.ok = true := by
  unfold Sp.ok at h
  simp only [Bool.and_eq_true] at h
  obtain ⟨⟨⟨⟨⟨⟨⟨a, b⟩, c⟩, d⟩, e⟩, f⟩, g⟩, k⟩ := h
  unfold KP.like Sp.ok
  simp only [show ((120 : Nat) = 115) = False by simp, if_false, Bool.and_eq_true]
  refine ⟨⟨⟨⟨⟨⟨⟨a, b⟩, by simp [numOk, Sp.num, leastOf, mostOf]⟩, d⟩, by simp [numOk, Sp.num, leastOf, mostOf]⟩, f⟩, g⟩, by simp⟩

/-- a text cut at its first byte 0 -/
def cut0 (l : List UInt8) : List UInt8 × List UInt8 × Bool := (l.takeWhile (· != 0), (l.dropWhile (· != 0)).drop 1, !nz l)
theorem cut0_nz (l : List UInt8) : nz (cut0 l).1 = true := by
  unfold nz cut0
  exact List.all_takeWhile
theorem cut0_app {u : List UInt8} (r : List UInt8) (h : nz u = true) : cut0 (u ++ 0 :: r) = (u, r, true) := by
  induction u with
  | nil => simp [cut0, nz]
  | cons c u ih =>
    simp only [nz, List.all_cons, Bool.and_eq_true] at h
    have := ih h.2
    simp only [cut0, Prod.mk.injEq] at this ⊢
    simp only [List.cons_append, List.takeWhile_cons, List.dropWhile_cons, h.1, if_true, this, nz, List.all_cons]
    have h2 : (!nz (u ++ 0 :: r)) = true := this.2.2
    unfold nz at h2
    simp
theorem cut0_true {l : List UInt8} (h : (cut0 l).2.2 = true) : l = (cut0 l).1 ++ 0 :: (cut0 l).2.1 := by
  induction l with
  | nil => simp [cut0, nz] at h
  | cons c l ih =>
    by_cases hc : c = 0
    · subst hc; simp [cut0]
    · have hc' : (c != 0) = true := by simpa using hc
      have h' : (cut0 l).2.2 = true := by
        simp only [cut0, nz, List.all_cons, hc', Bool.true_and] at h ⊢
        exact h
      have := ih h'
      simp only [cut0, List.takeWhile_cons, List.dropWhile_cons, hc', if_true, List.cons_append] at this ⊢
      rw [← this]
theorem cut0_false {l : List UInt8} (h : (cut0 l).2.2 = false) : cut0 l = (l, [], false) := by
  induction l with
  | nil => rfl
  | cons c l ih =>
    by_cases hc : c = 0
    · subst hc; simp [cut0, nz] at h
    · have hc' : (c != 0) = true := by simpa using hc
      have h' : (cut0 l).2.2 = false := by
        simp only [cut0, nz, List.all_cons, hc', Bool.true_and] at h ⊢
        exact h
      have e := ih h'
      simp only [cut0, Prod.mk.injEq] at e
      simp only [cut0, List.takeWhile_cons, List.dropWhile_cons, hc', if_true, e, Prod.mk.injEq, true_and]
      simp only [nz, List.all_cons, hc', Bool.true_and]
      simpa [nz] using e.2.2

/-- two, three numbers that stand big in a text, which has nothing else -/
def big2 (l : List UInt8) : Option (Nat × Nat) :=
  if l.length = 16 then match ofBig l, ofBig (l.drop 8) with
    | some a, some b => some (a, b)
    | _, _ => none
  else none
def big3 (l : List UInt8) : Option (Nat × Nat × Nat) :=
  if l.length = 24 then match ofBig l, ofBig (l.drop 8), ofBig (l.drop 16) with
    | some a, some b, some c => some (a, b, c)
    | _, _, _ => none
  else none
theorem big2_some {l : List UInt8} {a b : Nat} (h : big2 l = some (a, b)) : a ≤ 9223372036854775807 ∧ b ≤ 9223372036854775807 ∧ l = big a ++ big b := by
  unfold big2 at h
  split at h
  · split at h
    · rename_i hl _ _ _ _ h1 h2
      simp only [Option.some.injEq, Prod.mk.injEq] at h
      obtain ⟨rfl, rfl⟩ := h
      obtain ⟨_, g1, g2⟩ := ofBig_some h1
      obtain ⟨_, g3, g4⟩ := ofBig_some h2
      refine ⟨g1, g3, ?_⟩
      rw [← g2, ← g4, List.take_of_length_le (l := l.drop 8) (by simp; omega), List.take_append_drop]
    · cases h
  · cases h
theorem big3_some {l : List UInt8} {a b c : Nat} (h : big3 l = some (a, b, c)) : a ≤ 9223372036854775807 ∧ b ≤ 9223372036854775807 ∧ c ≤ 9223372036854775807 ∧ l = big a ++ (big b ++ big c) := by
  unfold big3 at h
  split at h
  · split at h
    · rename_i hl _ _ _ _ _ _ h1 h2 h3
      simp only [Option.some.injEq, Prod.mk.injEq] at h
      obtain ⟨rfl, rfl, rfl⟩ := h
      obtain ⟨_, g1, g2⟩ := ofBig_some h1
      obtain ⟨_, g3, g4⟩ := ofBig_some h2
      obtain ⟨_, g5, g6⟩ := ofBig_some h3
      refine ⟨g1, g3, g5, ?_⟩
      have e : l.drop 16 = (l.drop 8).drop 8 := by rw [List.drop_drop]
      rw [← g2, ← g4, ← g6, List.take_of_length_le (l := l.drop 16) (by simp; omega), e, List.take_append_drop, List.take_append_drop]
    · cases h
  · cases h
theorem big2_app {a b : Nat} (ha : a ≤ 9223372036854775807) (hb : b ≤ 9223372036854775807) : big2 (big a ++ big b) = some (a, b) := by
  have e : (big a ++ big b).drop 8 = big b := by
    have := List.drop_left (l₁ := big a) (l₂ := big b)
    rwa [big_length] at this
  have h2 := ofBig_big b [] hb
  rw [List.append_nil] at h2
  unfold big2
  rw [if_pos (by simp [big_length]), e, ofBig_big a _ ha, h2]
theorem big3_app {a b c : Nat} (ha : a ≤ 9223372036854775807) (hb : b ≤ 9223372036854775807) (hc : c ≤ 9223372036854775807) : big3 (big a ++ (big b ++ big c)) = some (a, b, c) := by
  have e : (big a ++ (big b ++ big c)).drop 8 = big b ++ big c := by
    have := List.drop_left (l₁ := big a) (l₂ := big b ++ big c)
    rwa [big_length] at this
  have e2 : (big a ++ (big b ++ big c)).drop 16 = big c := by
    have : (big a ++ (big b ++ big c)).drop 16 = ((big a ++ (big b ++ big c)).drop 8).drop 8 := by rw [List.drop_drop]
    rw [this, e]
    have := List.drop_left (l₁ := big b) (l₂ := big c)
    rwa [big_length] at this
  have h2 := ofBig_big c [] hc
  rw [List.append_nil] at h2
  unfold big3
  rw [if_pos (by simp [big_length]), e, e2, ofBig_big a _ ha, ofBig_big b _ hb, h2]

/-- the parts of a text, if it is a key -/
def parseK : List UInt8 → Option KP
  | [] => none
  | c :: r =>
    if c = 115 then match big2 r with
      | some (t, i) => if (idOk t && idOk i) = true then some ⟨115, t, i, 0, [], []⟩ else none
      | none => none
    else if c = 120 then
      if (cut0 (cut0 r).2.1).2.2 = true then match big3 (cut0 (cut0 r).2.1).2.1 with
        | some (s, t, i) => if (⟨120, t, i, s, (cut0 r).1, (cut0 (cut0 r).2.1).1⟩ : KP).like.ok = true then some ⟨120, t, i, s, (cut0 r).1, (cut0 (cut0 r).2.1).1⟩ else none
        | none => none
      else none
    else none
theorem parseK_some {l : List UInt8} {p : KP} (h : parseK l = some p) : p.key = some l ∧ ((p.kind = 115 ∧ p.st = 0 ∧ p.sv = [] ∧ p.ho = []) ∨ p.kind = 120) := by
  match l, h with
  | [], h => cases h
  | c :: r, h =>
    rw [parseK] at h
    split at h
    · rename_i hc
      subst hc
      split at h
      · rename_i t i hb
        split at h
        · rename_i hok
          simp only [Option.some.injEq] at h
          subst h
          obtain ⟨g1, g2, g3⟩ := big2_some hb
          refine ⟨?_, .inl ⟨rfl, rfl, rfl, rfl⟩⟩
          rw [ofKey_key, ofKey, if_pos hok, sKey, g3]
          rfl
        · cases h
      · cases h
    · split at h
      · rename_i hc
        subst hc
        split at h
        · rename_i his
          split at h
          · rename_i s t i hb
            split at h
            · rename_i hok
              simp only [Option.some.injEq] at h
              subst h
              obtain ⟨g1, g2, g3, g4⟩ := big3_some hb
              refine ⟨?_, .inr rfl⟩
              unfold KP.key
              rw [if_pos hok, if_neg (by simp)]
              have e1 := cut0_true his
              have his2 : (cut0 r).2.2 = true := by
                cases hq : (cut0 r).2.2 with
                | true => rfl
                | false =>
                  rw [cut0_false hq] at his
                  simp [cut0, nz] at his
              have e2 := cut0_true his2
              rw [xKey]
              simp only [Int.toNat_natCast]
              rw [← g4, ← e1, ← e2]
            · cases h
          · cases h
        · cases h
      · cases h
theorem parseK_sKey {tr id : Int} (h : (idOk tr && idOk id) = true) : parseK (sKey tr id) = some ⟨115, tr, id, 0, [], []⟩ := by
  have h' := h
  simp only [idOk, Bool.and_eq_true, decide_eq_true_eq] at h
  rw [sKey, parseK, if_pos rfl, big2_app (by omega) (by omega)]
  have e1 : ((tr.toNat : Nat) : Int) = tr := by omega
  have e2 : ((id.toNat : Nat) : Int) = id := by omega
  simp only [e1, e2]
  rw [if_pos h']
theorem parseK_xKey {sv ho : List UInt8} {st tr id : Int} (h : (⟨120, tr, id, st, sv, ho⟩ : KP).like.ok = true) : parseK (xKey sv ho st tr id) = some ⟨120, tr, id, st, sv, ho⟩ := by
  have h' := h
  have e0 : (⟨120, tr, id, st, sv, ho⟩ : KP).like = ⟨tr, id, 0, sv, ho, st, 0, []⟩ := by unfold KP.like; rw [if_neg (by simp)]
  rw [e0] at h
  obtain ⟨⟨a1, a2⟩, ⟨b1, b2⟩, _, ⟨d1, d2⟩, _, f, g, _⟩ := ok_of h
  simp only at a1 a2 b1 b2 d1 d2 f g
  rw [xKey, parseK, if_neg (by decide), if_pos rfl, cut0_app _ (nz_name f)]
  simp only [cut0_app _ (nz_name g), if_true]
  rw [big3_app (by omega) (by omega) (by omega)]
  have e1 : ((tr.toNat : Nat) : Int) = tr := by omega
  have e2 : ((id.toNat : Nat) : Int) = id := by omega
  have e3 : ((st.toNat : Nat) : Int) = st := by omega
  simp only [e1, e2, e3]
  rw [if_pos h']
/-- a key's row -/
def rowK (l : List UInt8) : List UInt8 :=
  match parseK l with
  | none => []
  | some p => if p.kind = 115 then l.take 9 else l
theorem sKey_length (a b : Int) : (sKey a b).length = 17 := by simp [sKey, big_length]
theorem xKey_length {x : Sp} (h : x.ok = true) : (xKey x.sv x.ho x.st x.tr x.id).length ≤ 51 := by
  obtain ⟨_, _, _, _, _, f, g, _⟩ := ok_of h
  have := nameOk_of f
  have := nameOk_of g
  simp [xKey, big_length]
  omega
theorem rowK_s {tr id : Int} (h : (idOk tr && idOk id) = true) : rowK (sKey tr id) = 115 :: big tr.toNat := by
  rw [rowK, parseK_sKey h]
  have h8 := List.take_left (l₁ := big tr.toNat) (l₂ := big id.toNat)
  rw [big_length] at h8
  simp only [if_true]
  rw [sKey, List.take_succ_cons, h8]
theorem rowK_x {x : Sp} (h : x.ok = true) : rowK (xKey x.sv x.ho x.st x.tr x.id) = xKey x.sv x.ho x.st x.tr x.id := by
  rw [rowK, parseK_xKey (like_ok h)]
  simp

/-! the order of keys -/
theorem big_lt {a b : Int} (ha : 0 ≤ a) (hb : 0 ≤ b) (ha' : a ≤ 9223372036854775807) (hb' : b ≤ 9223372036854775807) : Op.bytesLess (big a.toNat) (big b.toNat) = decide (a < b) := by
  rw [big_less _ _ (by omega) (by omega), decide_eq_decide]
  omega
theorem big_beq {a b : Int} (ha : 0 ≤ a) (hb : 0 ≤ b) (ha' : a ≤ 9223372036854775807) (hb' : b ≤ 9223372036854775807) : (big a.toNat == big b.toNat) = decide (a = b) := by
  rw [big_eq _ _ (by omega) (by omega), Bool.eq_iff_iff, beq_iff_eq, decide_eq_true_eq]
  omega
theorem cons_less (c : UInt8) (x y : List UInt8) : Op.bytesLess (c :: x) (c :: y) = Op.bytesLess x y := by
  simp [Op.bytesLess]
theorem sKey_less {a b c d : Int} (h : (idOk a && idOk b) = true) (k : (idOk c && idOk d) = true) : Op.bytesLess (sKey a b) (sKey c d) = (decide (a < c) || (decide (a = c) && decide (b < d))) := by
  simp only [idOk, Bool.and_eq_true, decide_eq_true_eq] at h k
  rw [sKey, sKey, cons_less, bl_app _ _ _ _ (by rw [big_length, big_length]), big_lt (by omega) (by omega) (by omega) (by omega), big_lt (by omega) (by omega) (by omega) (by omega), big_beq (by omega) (by omega) (by omega) (by omega)]
theorem xKey_less {x y : Sp} (hx : x.ok = true) (hy : y.ok = true) : Op.bytesLess (xKey x.sv x.ho x.st x.tr x.id) (xKey y.sv y.ho y.st y.tr y.id) =
    (Op.bytesLess x.sv y.sv || (x.sv == y.sv && (Op.bytesLess x.ho y.ho || (x.ho == y.ho && (decide (x.st < y.st) || (decide (x.st = y.st) && (decide (x.tr < y.tr) || (decide (x.tr = y.tr) && decide (x.id < y.id))))))))) := by
  obtain ⟨⟨a1, a2⟩, ⟨b1, b2⟩, _, ⟨d1, d2⟩, _, f, g, _⟩ := ok_of hx
  obtain ⟨⟨a1', a2'⟩, ⟨b1', b2'⟩, _, ⟨d1', d2'⟩, _, f', g', _⟩ := ok_of hy
  rw [xKey, xKey, cons_less, bl_names _ _ _ _ (nz_name f) (nz_name f'), bl_names _ _ _ _ (nz_name g) (nz_name g'), bl_app _ _ _ _ (by rw [big_length, big_length]), bl_app _ _ _ _ (by rw [big_length, big_length]),
    big_lt (by omega) (by omega) (by omega) (by omega), big_beq (by omega) (by omega) (by omega) (by omega), big_lt (by omega) (by omega) (by omega) (by omega), big_beq (by omega) (by omega) (by omega) (by omega), big_lt (by omega) (by omega) (by omega) (by omega)]
theorem s_less_x (a b : Int) (x : Sp) : Op.bytesLess (sKey a b) (xKey x.sv x.ho x.st x.tr x.id) = true := by
  rw [sKey, xKey, Op.bytesLess]
  rw [decide_eq_true (by decide), Bool.true_or]
theorem sKey_inj {a b c d : Int} (h : (idOk a && idOk b) = true) (k : (idOk c && idOk d) = true) : sKey a b = sKey c d ↔ a = c ∧ b = d := by
  constructor
  · intro e
    have h1 := parseK_sKey h
    rw [e, parseK_sKey k] at h1
    simp only [Option.some.injEq, KP.mk.injEq] at h1
    exact ⟨h1.2.1.symm, h1.2.2.1.symm⟩
  · rintro ⟨rfl, rfl⟩; rfl
theorem xKey_inj {x y : Sp} (hx : x.ok = true) (hy : y.ok = true) (e : xKey x.sv x.ho x.st x.tr x.id = xKey y.sv y.ho y.st y.tr y.id) : x.tr = y.tr ∧ x.id = y.id ∧ x.st = y.st ∧ x.sv = y.sv ∧ x.ho = y.ho := by
  have h1 := parseK_xKey (like_ok hx)
  rw [e, parseK_xKey (like_ok hy)] at h1
  simp only [Option.some.injEq, KP.mk.injEq] at h1
  exact ⟨h1.2.1.symm, h1.2.2.1.symm, h1.2.2.2.1.symm, h1.2.2.2.2.1.symm, h1.2.2.2.2.2.symm⟩
end Spoor
