/- The walk of spans.Take. -/
import Derived.Test.YtojenagpnkhgfaaSpansF
import Derived.Deep.DeepCutAuto
import Derived.Deep.RegionWith
namespace Go.Proofs.Ytojenagpnkhgfaa
open Go.RowKit Spoor

/-- a span of so many first numbers, and of so many first texts -/
def spOf (ns : List Nat) (ts : List (List UInt8)) : Sp := ⟨ns.getD 0 0, ns.getD 1 0, ns.getD 2 0, ts.getD 0 [], ts.getD 1 [], ns.getD 3 0, ns.getD 4 0, ts.getD 2 []⟩
theorem SpAt.setN {b i : Nat} {ns : List Nat} {w : World} (h : SpAt b (spOf ns []) w) (hl : ns.length = i) (hi : i < 5) (n : Nat) : SpAt b (spOf (ns ++ [n]) []) (w.setCell ⟨b, offN i, none⟩ (.int .i64 n)) := by
  unfold SpAt at h ⊢
  rw [heap_setCell_same w b _ _ _ _ h]
  subst hl
  match ns, hi with
  | [], _ => rfl
  | [_], _ => rfl
  | [_, _], _ => rfl
  | [_, _, _], _ => rfl
  | [_, _, _, _], _ => rfl
theorem SpAt.setT {b i : Nat} {ns : List Nat} {ts : List (List UInt8)} {w : World} (h : SpAt b (spOf ns ts) w) (hl : ts.length = i) (hi : i < 3) (t : List UInt8) : SpAt b (spOf ns (ts ++ [t])) (w.setCell ⟨b, offT i, none⟩ (.string ⟨t.toArray⟩)) := by
  unfold SpAt at h ⊢
  rw [heap_setCell_same w b _ _ _ _ h]
  subst hl
  match ts, hi with
  | [], _ => rfl
  | [_], _ => rfl
  | [_, _], _ => rfl

theorem SpAt.free {b : Nat} {x : Sp} {w : World} (h : SpAt b x w) (j : Nat) : w.frozen? ⟨b, j, none⟩ = false := frozen_of_row w b j _ _ h
theorem SpAt.frees {b : Nat} {x : Sp} {w : World} (h : SpAt b x w) : w.frozen? ⟨b, 0, none⟩ = false ∧ w.frozen? ⟨b, 1, none⟩ = false ∧ w.frozen? ⟨b, 2, none⟩ = false ∧ w.frozen? ⟨b, 3, none⟩ = false ∧
    w.frozen? ⟨b, 4, none⟩ = false ∧ w.frozen? ⟨b, 5, none⟩ = false ∧ w.frozen? ⟨b, 6, none⟩ = false ∧ w.frozen? ⟨b, 7, none⟩ = false := ⟨h.free 0, h.free 1, h.free 2, h.free 3, h.free 4, h.free 5, h.free 6, h.free 7⟩
/-- what Take tells -/
def takeV : Option (Sp × Nat) → Value
  | none => .tuple #[spVal Sp.zero, .int .i64 0, .bool false]
  | some (x, q) => .tuple #[spVal x, .int .i64 (q : Int), .bool true]
theorem getAt_some {l : List UInt8} {p n k : Nat} (h : get (l.drop p) = some (n, k)) : getAt l (p : Int) = .tuple #[.int .i64 n, .int .i64 ((p + k : Nat) : Int), .bool true] := by
  rw [getAt, if_neg (by omega), Int.toNat_natCast, h]; rfl
theorem getAt_none {l : List UInt8} {p : Nat} (h : get (l.drop p) = none) : getAt l (p : Int) = .tuple #[.int .i64 0, .int .i64 0, .bool false] := by
  rw [getAt, if_neg (by omega), Int.toNat_natCast, h]; rfl
theorem getTextAt_some {l t : List UInt8} {p k : Nat} (h : getText (l.drop p) = some (t, k)) : getTextAt l (p : Int) = .tuple #[.string ⟨t.toArray⟩, .int .i64 ((p + k : Nat) : Int), .bool true] := by
  rw [getTextAt, if_neg (by omega), Int.toNat_natCast, h]; rfl
theorem getTextAt_none {l : List UInt8} {p : Nat} (h : getText (l.drop p) = none) : getTextAt l (p : Int) = .tuple #[.string ⟨#[]⟩, .int .i64 0, .bool false] := by
  rw [getTextAt, if_neg (by omega), Int.toNat_natCast, h]; rfl
theorem getN_none {l : List UInt8} {at' i : Nat} (h : getN l at' i = none) : ∀ j, i ≤ j → getN l at' j = none := by
  intro j hj
  induction j with
  | zero => have : i = 0 := by omega
            subst this; exact h
  | succ j ih =>
    by_cases hij : i = j + 1
    · subst hij; exact h
    · rw [getN, ih (by omega)]
theorem getT_none {l : List UInt8} {at' i : Nat} (h : getT l at' i = none) : ∀ j, i ≤ j → getT l at' j = none := by
  intro j hj
  induction j with
  | zero => have : i = 0 := by omega
            subst this; exact h
  | succ j ih =>
    by_cases hij : i = j + 1
    · subst hij; exact h
    · rw [getT, ih (by omega)]
theorem takeSp_noneN {l : List UInt8} {at' i p : Nat} {ns : List Nat} (h : getN l at' i = some (p, ns)) (hi : i < 5) (hg : get (l.drop p) = none) : takeSp l at' = none := by
  have h1 : getN l at' (i + 1) = none := by rw [getN, h]; simp only; rw [hg]
  unfold takeSp
  rw [getN_none h1 5 (by omega)]
theorem takeSp_noneT {l : List UInt8} {at' i p q : Nat} {ns : List Nat} {ts : List (List UInt8)} (h : getN l at' 5 = some (p, ns)) (ht : getT l p i = some (q, ts)) (hi : i < 3) (hg : getText (l.drop q) = none) : takeSp l at' = none := by
  have h1 : getT l p (i + 1) = none := by rw [getT, ht]; simp only; rw [hg]
  unfold takeSp
  rw [h]
  simp only
  rw [getT_none h1 3 (by omega)]
theorem takeSp_of {l : List UInt8} {at' p q : Nat} {ns : List Nat} {ts : List (List UInt8)} (h : getN l at' 5 = some (p, ns)) (ht : getT l p 3 = some (q, ts)) : takeSp l at' = some (spOf ns ts, q) := by
  unfold takeSp
  rw [h]
  simp only
  rw [ht]
  rfl

theorem below_set8 {B b : Nat} {a W : World} (h : Below B a W) (hb : B ≤ b) (v0 v1 v2 v3 v4 v5 v6 v7 : Value) :
    Below B a ((((((((W.setCell ⟨b, 0, none⟩ v0).setCell ⟨b, 1, none⟩ v1).setCell ⟨b, 2, none⟩ v2).setCell ⟨b, 3, none⟩ v3).setCell ⟨b, 4, none⟩ v4).setCell ⟨b, 5, none⟩ v5).setCell ⟨b, 6, none⟩ v6).setCell ⟨b, 7, none⟩ v7) :=
  (((((((h.setCell (p := ⟨b, 0, none⟩) hb _).setCell (p := ⟨b, 1, none⟩) hb _).setCell (p := ⟨b, 2, none⟩) hb _).setCell (p := ⟨b, 3, none⟩) hb _).setCell (p := ⟨b, 4, none⟩) hb _).setCell (p := ⟨b, 5, none⟩) hb _).setCell (p := ⟨b, 6, none⟩) hb _).setCell (p := ⟨b, 7, none⟩) hb _

end Go.Proofs.Ytojenagpnkhgfaa
