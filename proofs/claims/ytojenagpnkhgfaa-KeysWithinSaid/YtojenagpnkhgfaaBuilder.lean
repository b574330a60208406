/- strings.Builder at this translation: a text more, and the whole text. The walks go as the kit's own contracts do; copyCheck's panic is no part of them. -/
import Derived.Test.YtojenagpnkhgfaaIntsA
import Derived.Lib.Builder
import Derived.Lib.AppendStr
namespace Go.Proofs.Ytojenagpnkhgfaa
open Go.RowKit Spoor
theorem byteCells_append (l : List UInt8) (s : ByteArray) : Lib.byteCells l ++ Lib.strCells s = Lib.byteCells (l ++ s.data.toList) := by
  simp [Lib.byteCells, Lib.strCells]

end Go.Proofs.Ytojenagpnkhgfaa
