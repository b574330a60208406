/- The walks of Decode and of the reference's. -/
import Derived.Test.YtojenagpnkhgfaaSpansH
namespace Go.Proofs.Ytojenagpnkhgfaa
open Go.RowKit Spoor

/-- what Decode tells -/
def decodeV : Option Sp → Value
  | none => .tuple #[spVal Sp.zero, .int .i64 30]
  | some x => .tuple #[spVal x, .int .i64 0]
theorem take_fits {l : List UInt8} {x : Sp} {q : Nat} (h : takeSp l 0 = some (x, q)) (hl : l.length ≤ 140737488351232) : Fits x := by
  obtain ⟨g1, g2⟩ := takeSp_some h
  have e := congrArg List.length g2
  simp only [Sp.bytes, putText, List.length_append, List.length_take] at e
  exact ⟨by omega, by omega, by omega⟩
theorem decodeSp_take {l : List UInt8} {x : Sp} {q : Nat} (h : takeSp l 0 = some (x, q)) : decodeSp l = if q = l.length ∧ x.ok = true then some x else none := by
  unfold decodeSp; rw [h]
theorem decodeSp_none {l : List UInt8} (h : takeSp l 0 = none) : decodeSp l = none := by
  unfold decodeSp; rw [h]
theorem checkV_ok {x : Sp} (h : x.ok = true) : checkV x = 0 := by unfold checkV; rw [h]; rfl
theorem checkV_no {x : Sp} (h : x.ok = false) : checkV x = 2 := by unfold checkV; rw [h]; rfl
theorem below_new2 {w w1 : World} (o o' : Obj) (hb : Below (w.alloc o).heap.size (w.alloc o) w1) : Below w.heap.size w (w1.alloc o') :=
  (((Below.refl _ _).alloc (Nat.le_refl _) o).trans (hb.mono (by simp))).alloc (by have := hb.size; simp at this; omega) o'
theorem size_max' {s : ByteArray} (h : s.size ≤ 140737488351232) : s.size ≤ maxLen := by unfold maxLen; omega
theorem SpAt.alloc' {b : Nat} {x : Sp} {w : World} (h : SpAt b x w) (o : Obj) : SpAt b x (w.alloc o) := (Below.heap_alloc w o b h.lt).trans h

end Go.Proofs.Ytojenagpnkhgfaa
