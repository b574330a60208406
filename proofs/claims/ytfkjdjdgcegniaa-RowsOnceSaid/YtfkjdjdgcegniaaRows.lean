/-
  No cell of these rows narrows 'for every input' (looked for: loops, veiled, ifaces, maps, wideKeys, modest, calm, conditions, laid).
  DERIVED. THE GIVEN ROWS OF THIS SEAT. 5 by the template 'for every input the law returns true; each argument reads behind the call as it read before'; 0 by the template 'total and deterministic' (their statements: YtfkjdjdgcegniaaTotals.lean).
  GIVEN WITH THE SEED: the statements are not yours to turn. If you find one false, say at which input.
  Laid BY PROGRAM, IN A SANDBOX (cutbox-rows.mjs): the forced cells as the released guide's own fill.sh prints them over the translation 34617882d74fc367… (all of the seat's roots in one cut). By AI agents, Wed Nov 11 2026. No macro, syntax, notation, axiom, sorry.
-/
import Derived.Test.YtfkjdjdgcegniaaChecked
import GoSem.Claim
import GoSem.ClaimJoined
import GoSem.ClaimMapViews
import Derived.JoinedTies
import Derived.KernelRfl
namespace Go.Proofs.Ytfkjdjdgcegniaa
/- THE CELL 'sum', in the pinned program and in every row, IS THE sha256 OF THE DUMP (.gsa) THAT YtfkjdjdgcegniaaProg.lean LOADS. Nothing in Lean hashes anything: it is a label: what it is worth is what the hold of that sum in a sandbox is worth. -/
noncomputable def Try.pinned : Pinned := { name := "ytfkjdjdgcegniaa", sum := "34617882d74fc3670dcf47cbcd728c6f3b67be19a8e407ef5247ab6c6ca7fd1b", checked := Try.checked }
namespace Rows
def none {H : Type} : Left H := { results := [], args := [] }

/-- 'spoorlaw21.RowsTell': WHATEVER THE INPUT: true; the input reads as it did. -/
def rowsTellSpec : ChangeSpec := { name := "rowsTell", fn := fun _ => fun
  | [d1, d2, d3] => { results := [.lit (.bool true)], args := [d1, d2, d3] }
  | _ => none }
def rowsTellRow : OpenClaim := { program := "ytfkjdjdgcegniaa", sum := "34617882d74fc3670dcf47cbcd728c6f3b67be19a8e407ef5247ab6c6ca7fd1b", func := "spoor/spoorlaw21.RowsTell", spec := "rowsTell", inPlace := ["internal/abi.NoEscape", "internal/bytealg.IndexByteString", "internal/bytealg.IndexString"], unfollowed := true, recurses := true, named := ["internal/bytealg.MaxLen"], apart := false }
def RowsTellSaid : Prop := rowsTellRow.holds Try.pinned (OpenSpec.ofChange rowsTellSpec)

/-- ITS FALSE NEIGHBOUR: 'it returns false'. Refute it at one input. -/
def rowsTellWrong : ChangeSpec := { name := "rowsTell", fn := fun _ => fun
  | [d1, d2, d3] => { results := [.lit (.bool false)], args := [d1, d2, d3] }
  | _ => none }
def RowsTellWrongFalsely : Prop := rowsTellRow.holds Try.pinned (OpenSpec.ofChange rowsTellWrong)

/-- 'spoorlaw21.RowsOnce': WHATEVER THE INPUT: true; the input reads as it did. -/
def rowsOnceSpec : ChangeSpec := { name := "rowsOnce", fn := fun _ => fun
  | [d1, d2, d3] => { results := [.lit (.bool true)], args := [d1, d2, d3] }
  | _ => none }
def rowsOnceRow : OpenClaim := { program := "ytfkjdjdgcegniaa", sum := "34617882d74fc3670dcf47cbcd728c6f3b67be19a8e407ef5247ab6c6ca7fd1b", func := "spoor/spoorlaw21.RowsOnce", spec := "rowsOnce", inPlace := ["internal/abi.NoEscape", "internal/bytealg.IndexByteString", "internal/bytealg.IndexString"], unfollowed := true, recurses := true, named := ["internal/bytealg.MaxLen"], apart := false }
def RowsOnceSaid : Prop := rowsOnceRow.holds Try.pinned (OpenSpec.ofChange rowsOnceSpec)

/-- ITS FALSE NEIGHBOUR: 'it returns false'. Refute it at one input. -/
def rowsOnceWrong : ChangeSpec := { name := "rowsOnce", fn := fun _ => fun
  | [d1, d2, d3] => { results := [.lit (.bool false)], args := [d1, d2, d3] }
  | _ => none }
def RowsOnceWrongFalsely : Prop := rowsOnceRow.holds Try.pinned (OpenSpec.ofChange rowsOnceWrong)

/-- 'spoorlaw21.RowsApart': WHATEVER THE INPUT: true; the input reads as it did. -/
def rowsApartSpec : ChangeSpec := { name := "rowsApart", fn := fun _ => fun
  | [d1, d2] => { results := [.lit (.bool true)], args := [d1, d2] }
  | _ => none }
def rowsApartRow : OpenClaim := { program := "ytfkjdjdgcegniaa", sum := "34617882d74fc3670dcf47cbcd728c6f3b67be19a8e407ef5247ab6c6ca7fd1b", func := "spoor/spoorlaw21.RowsApart", spec := "rowsApart", inPlace := ["internal/abi.NoEscape", "internal/bytealg.IndexByteString", "internal/bytealg.IndexString"], unfollowed := true, recurses := true, named := ["internal/bytealg.MaxLen"], apart := false }
def RowsApartSaid : Prop := rowsApartRow.holds Try.pinned (OpenSpec.ofChange rowsApartSpec)

/-- ITS FALSE NEIGHBOUR: 'it returns false'. Refute it at one input. -/
def rowsApartWrong : ChangeSpec := { name := "rowsApart", fn := fun _ => fun
  | [d1, d2] => { results := [.lit (.bool false)], args := [d1, d2] }
  | _ => none }
def RowsApartWrongFalsely : Prop := rowsApartRow.holds Try.pinned (OpenSpec.ofChange rowsApartWrong)

/-- 'spoorlaw21.RowsTake': WHATEVER THE INPUT: true; the input reads as it did. -/
def rowsTakeSpec : ChangeSpec := { name := "rowsTake", fn := fun _ => fun
  | [d1, d2, d3] => { results := [.lit (.bool true)], args := [d1, d2, d3] }
  | _ => none }
def rowsTakeRow : OpenClaim := { program := "ytfkjdjdgcegniaa", sum := "34617882d74fc3670dcf47cbcd728c6f3b67be19a8e407ef5247ab6c6ca7fd1b", func := "spoor/spoorlaw21.RowsTake", spec := "rowsTake", inPlace := ["internal/abi.NoEscape", "internal/bytealg.IndexByteString", "internal/bytealg.IndexString"], unfollowed := true, recurses := true, named := ["internal/bytealg.MaxLen"], apart := false }
def RowsTakeSaid : Prop := rowsTakeRow.holds Try.pinned (OpenSpec.ofChange rowsTakeSpec)

/-- ITS FALSE NEIGHBOUR: 'it returns false'. Refute it at one input. -/
def rowsTakeWrong : ChangeSpec := { name := "rowsTake", fn := fun _ => fun
  | [d1, d2, d3] => { results := [.lit (.bool false)], args := [d1, d2, d3] }
  | _ => none }
def RowsTakeWrongFalsely : Prop := rowsTakeRow.holds Try.pinned (OpenSpec.ofChange rowsTakeWrong)

/-- 'spoorlaw21.RowsLate': WHATEVER THE INPUT: true; the input reads as it did. -/
def rowsLateSpec : ChangeSpec := { name := "rowsLate", fn := fun _ => fun
  | [d1, d2] => { results := [.lit (.bool true)], args := [d1, d2] }
  | _ => none }
def rowsLateRow : OpenClaim := { program := "ytfkjdjdgcegniaa", sum := "34617882d74fc3670dcf47cbcd728c6f3b67be19a8e407ef5247ab6c6ca7fd1b", func := "spoor/spoorlaw21.RowsLate", spec := "rowsLate", inPlace := ["internal/abi.NoEscape", "internal/bytealg.IndexByteString", "internal/bytealg.IndexString"], unfollowed := true, recurses := true, named := ["internal/bytealg.MaxLen"], apart := false }
def RowsLateSaid : Prop := rowsLateRow.holds Try.pinned (OpenSpec.ofChange rowsLateSpec)

/-- ITS FALSE NEIGHBOUR: 'it returns false'. Refute it at one input. -/
def rowsLateWrong : ChangeSpec := { name := "rowsLate", fn := fun _ => fun
  | [d1, d2] => { results := [.lit (.bool false)], args := [d1, d2] }
  | _ => none }
def RowsLateWrongFalsely : Prop := rowsLateRow.holds Try.pinned (OpenSpec.ofChange rowsLateWrong)

/- THE SECOND FORM. 'bulk': how many values and letters a reading holds, each counted each time it is reached (what is shared counts as often as it is met; a slice's spare places count too). A statement '..UptoSaid' is the law's where the arguments, and the package variables that the reading takes, are together of bulk at most 1048576: NARROWER than '..Said'. Prove '..Said' where nothing that the law and all that it calls make is longer than what came in: it says more and counts as full. Else prove '..UptoSaid'. A law counts once. -/
mutual
def uptoBulk {H : Type} : DataW H → Nat
  | .lit (.string bytes) => bytes.length + 1
  | .lit _ => 1
  | .nil => 1
  | .ptr d => uptoBulk d + 1
  | .slice elems spare => uptoBulkAll elems + uptoBulkAll spare + 1
  | .agg parts => uptoBulkAll parts + 1
  | .iface _ d => uptoBulk d + 1
  | .map entries => uptoBulkEntries entries + 1
  | .held _ => 1
def uptoBulkAll {H : Type} : List (DataW H) → Nat
  | [] => 0
  | d :: r => uptoBulk d + uptoBulkAll r
def uptoBulkEntries {H : Type} : List (Lit × DataW H) → Nat
  | [] => 0
  | x :: r => uptoBulkEntry x + uptoBulkEntries r
def uptoBulkEntry {H : Type} : Lit × DataW H → Nat
  | (.string bytes, d) => bytes.length + uptoBulk d + 1
  | (_, d) => uptoBulk d + 1
 end
def uptoSmall : (H : Type) → List (DataW H) → Bool := fun _ ds => decide (uptoBulkAll ds ≤ 1048576)
def OpenSpec.upto (s : _root_.Go.ChangeSpec) : _root_.Go.OpenSpec := { _root_.Go.OpenSpec.ofChange s with cond := some uptoSmall }

/-- 'spoorlaw21.RowsTell', WHERE WHAT IT READS IS OF BULK AT MOST 1048576: true; the input reads as it did. -/
def rowsTellUptoRow : OpenClaim := { program := "ytfkjdjdgcegniaa", sum := "34617882d74fc3670dcf47cbcd728c6f3b67be19a8e407ef5247ab6c6ca7fd1b", func := "spoor/spoorlaw21.RowsTell", spec := "rowsTell", inPlace := ["internal/abi.NoEscape", "internal/bytealg.IndexByteString", "internal/bytealg.IndexString"], unfollowed := true, recurses := true, named := ["internal/bytealg.MaxLen"], apart := false, narrowed := true }
def RowsTellUptoSaid : Prop := rowsTellUptoRow.holds Try.pinned (OpenSpec.upto rowsTellSpec)

/-- 'spoorlaw21.RowsOnce', WHERE WHAT IT READS IS OF BULK AT MOST 1048576: true; the input reads as it did. -/
def rowsOnceUptoRow : OpenClaim := { program := "ytfkjdjdgcegniaa", sum := "34617882d74fc3670dcf47cbcd728c6f3b67be19a8e407ef5247ab6c6ca7fd1b", func := "spoor/spoorlaw21.RowsOnce", spec := "rowsOnce", inPlace := ["internal/abi.NoEscape", "internal/bytealg.IndexByteString", "internal/bytealg.IndexString"], unfollowed := true, recurses := true, named := ["internal/bytealg.MaxLen"], apart := false, narrowed := true }
def RowsOnceUptoSaid : Prop := rowsOnceUptoRow.holds Try.pinned (OpenSpec.upto rowsOnceSpec)

/-- 'spoorlaw21.RowsApart', WHERE WHAT IT READS IS OF BULK AT MOST 1048576: true; the input reads as it did. -/
def rowsApartUptoRow : OpenClaim := { program := "ytfkjdjdgcegniaa", sum := "34617882d74fc3670dcf47cbcd728c6f3b67be19a8e407ef5247ab6c6ca7fd1b", func := "spoor/spoorlaw21.RowsApart", spec := "rowsApart", inPlace := ["internal/abi.NoEscape", "internal/bytealg.IndexByteString", "internal/bytealg.IndexString"], unfollowed := true, recurses := true, named := ["internal/bytealg.MaxLen"], apart := false, narrowed := true }
def RowsApartUptoSaid : Prop := rowsApartUptoRow.holds Try.pinned (OpenSpec.upto rowsApartSpec)

/-- 'spoorlaw21.RowsTake', WHERE WHAT IT READS IS OF BULK AT MOST 1048576: true; the input reads as it did. -/
def rowsTakeUptoRow : OpenClaim := { program := "ytfkjdjdgcegniaa", sum := "34617882d74fc3670dcf47cbcd728c6f3b67be19a8e407ef5247ab6c6ca7fd1b", func := "spoor/spoorlaw21.RowsTake", spec := "rowsTake", inPlace := ["internal/abi.NoEscape", "internal/bytealg.IndexByteString", "internal/bytealg.IndexString"], unfollowed := true, recurses := true, named := ["internal/bytealg.MaxLen"], apart := false, narrowed := true }
def RowsTakeUptoSaid : Prop := rowsTakeUptoRow.holds Try.pinned (OpenSpec.upto rowsTakeSpec)

/-- 'spoorlaw21.RowsLate', WHERE WHAT IT READS IS OF BULK AT MOST 1048576: true; the input reads as it did. -/
def rowsLateUptoRow : OpenClaim := { program := "ytfkjdjdgcegniaa", sum := "34617882d74fc3670dcf47cbcd728c6f3b67be19a8e407ef5247ab6c6ca7fd1b", func := "spoor/spoorlaw21.RowsLate", spec := "rowsLate", inPlace := ["internal/abi.NoEscape", "internal/bytealg.IndexByteString", "internal/bytealg.IndexString"], unfollowed := true, recurses := true, named := ["internal/bytealg.MaxLen"], apart := false, narrowed := true }
def RowsLateUptoSaid : Prop := rowsLateUptoRow.holds Try.pinned (OpenSpec.upto rowsLateSpec)

end Rows
end Go.Proofs.Ytfkjdjdgcegniaa
