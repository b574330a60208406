/- law18's SameCells and Beyond. -/
import Derived.Test.YtoglloafpnopaaaGreatTlF
set_option linter.unusedSimpArgs false
set_option linter.unusedVariables false
namespace Go.Proofs.YtoglloafpnopaaaGreat
set_option maxRecDepth 16000
open Go.RowKit Spoor
end Go.Proofs.YtoglloafpnopaaaGreat
