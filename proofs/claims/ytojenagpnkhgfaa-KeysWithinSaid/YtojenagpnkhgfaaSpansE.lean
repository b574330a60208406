/- The walks of Encode. -/
import Derived.Test.YtojenagpnkhgfaaSpansD
namespace Go.Proofs.Ytojenagpnkhgfaa
open Go.RowKit Spoor

theorem str_add (a b : List UInt8) : (⟨a.toArray⟩ ++ ⟨b.toArray⟩ : ByteArray) = ⟨(a ++ b).toArray⟩ := ByteArray.mk_append_mk a b
theorem putText_len {t : List UInt8} (h : t.length ≤ 140737488351232) : (putText t).length ≤ 140737488351241 := by
  have := put_length9 t.length (by omega)
  rw [putText, List.length_append]; omega

end Go.Proofs.Ytojenagpnkhgfaa
