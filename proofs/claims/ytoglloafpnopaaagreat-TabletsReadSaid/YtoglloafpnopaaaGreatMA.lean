/- Rows of cells in memory; SameCells and Great. Searches: where a page, a cell, a key stands. A memory, as it lies: pages, each in a block of its own; what is asked of it. What is asked of a memory: Len, Range, Get. Get of a memory; New; what is left as it was. -/
import Derived.Test.YtoglloafpnopaaaGreatTC
import Derived.Test.YtoglloafpnopaaaGreatTD
import Derived.Test.YtoglloafpnopaaaGreatTE
import Derived.Test.YtoglloafpnopaaaGreatTF
import Derived.Test.YtoglloafpnopaaaGreatTabG
import Derived.Deep.MidRow
import Derived.Lib.Hide
import Derived.Laws.Cover1
import Derived.BigQuiet
import Derived.Deep.QuietTactic
import Derived.OneCell
import Derived.Deep.Onto
import Derived.OwnWalk
import Derived.Deep.Cut
import Derived.Laws.AppendOwnNone
import Derived.Deep.AppendLies
set_option linter.unusedSimpArgs false
set_option linter.unusedVariables false
namespace Go.Proofs.YtoglloafpnopaaaGreat
set_option maxRecDepth 16000
open Go.RowKit Spoor
end Go.Proofs.YtoglloafpnopaaaGreat
namespace Spoor
open Go
end Spoor
namespace Go.Proofs.YtoglloafpnopaaaGreat
set_option maxRecDepth 16000
open Go.RowKit Spoor
end Go.Proofs.YtoglloafpnopaaaGreat
