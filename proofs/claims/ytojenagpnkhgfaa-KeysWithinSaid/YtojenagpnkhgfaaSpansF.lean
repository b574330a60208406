/- The walk of spans.Encode. -/
import Derived.Test.YtojenagpnkhgfaaSpansE
import Derived.Test.YtojenagpnkhgfaaBuilder
namespace Go.Proofs.Ytojenagpnkhgfaa
open Go.RowKit Spoor

/-- where the i-th number lies in a span -/
def offN : Nat → Nat
  | 0 => 0
  | 1 => 1
  | 2 => 2
  | 3 => 5
  | _ => 6
def offT : Nat → Nat
  | 0 => 3
  | 1 => 4
  | _ => 7
/-- the three texts, in the order in which they are put -/
def txt (x : Sp) : Nat → List UInt8
  | 0 => x.sv
  | 1 => x.ho
  | _ => x.no
theorem nums_index (b i : Nat) (h : i < 5) (w : World) : (Instr.index 71 (numsV b) (.int .i64 (i : Int))).run Try.prog w = .ok (.agg #[.pointer (some ⟨b, offN i, none⟩), .int .i64 (Spoor.leastOf i), .int .i64 (Spoor.mostOf i)]) w := by
  match i, h with
  | 0, _ => exact nums_index0 b w
  | 1, _ => exact nums_index1 b w
  | 2, _ => exact nums_index2 b w
  | 3, _ => exact nums_index3 b w
  | 4, _ => exact nums_index4 b w
theorem SpAt.num {b : Nat} {x : Sp} {w : World} (h : SpAt b x w) (i : Nat) : w.cell? ⟨b, offN i, none⟩ = some (.int .i64 (x.num i)) := by
  obtain ⟨c0, c1, c2, c3, c4, c5, c6, c7⟩ := h.cell
  match i with
  | 0 => exact c0
  | 1 => exact c1
  | 2 => exact c2
  | 3 => exact c5
  | n + 4 => exact c6
theorem SpAt.txt {b : Nat} {x : Sp} {w : World} (h : SpAt b x w) (i : Nat) : w.cell? ⟨b, offT i, none⟩ = some (.string ⟨(txt x i).toArray⟩) := by
  obtain ⟨c0, c1, c2, c3, c4, c5, c6, c7⟩ := h.cell
  match i with
  | 0 => exact c3
  | 1 => exact c4
  | n + 2 => exact c7

theorem own_later {w w' : World} {B e size n : Nat} {v : Value} {xs : List Value} (h : w.ownsRow B e size v n xs) (hb : Below w.heap.size w w') : w'.ownsRow B e size v n xs := by
  refine ⟨h.1, ?_⟩
  rcases h.2 with hn | ⟨g, cap, cur, rfl, hg, hgg, rest⟩
  · exact .inl hn
  · exact .inr ⟨g, cap, cur, rfl, hg, by rw [hb.block g (Array.getElem?_eq_some_iff.1 hgg).1]; exact hgg, rest⟩
/-- the bytes of the first numbers, and then of the first texts -/
def accN (x : Sp) : Nat → List UInt8
  | 0 => []
  | i + 1 => accN x i ++ put (x.num i).toNat
def accT (x : Sp) : Nat → List UInt8
  | 0 => accN x 5
  | i + 1 => accT x i ++ putText (txt x i)
theorem accT_bytes (x : Sp) : accT x 3 = x.bytes := by
  simp [accT, accN, Sp.bytes, txt, Sp.num]

end Go.Proofs.Ytojenagpnkhgfaa
