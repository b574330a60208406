/-
  No cell of these rows narrows 'for every input' (looked for: loops, veiled, ifaces, maps, wideKeys, modest, calm, conditions, laid).
  DERIVED. THE GIVEN ROWS OF THIS SEAT. 7 by the template 'for every input the law returns true; each argument reads behind the call as it read before'; 0 by the template 'total and deterministic' (their statements: YtglonbkhocnplaaTotals.lean).
  GIVEN WITH THE SEED: the statements are not yours to turn. If you find one false, say at which input.
  Laid BY PROGRAM, IN A SANDBOX (cutbox-rows.mjs): the forced cells as the released guide's own fill.sh prints them over the translation a5d8f3de61084ae1… (all of the seat's roots in one cut). By AI agents, Wed Nov 11 2026. No macro, syntax, notation, axiom, sorry.
-/
import Derived.Test.YtglonbkhocnplaaChecked
import GoSem.Claim
import GoSem.ClaimJoined
import GoSem.ClaimMapViews
import Derived.JoinedTies
import Derived.KernelRfl
namespace Go.Proofs.Ytglonbkhocnplaa
/- THE CELL 'sum', in the pinned program and in every row, IS THE sha256 OF THE DUMP (.gsa) THAT YtglonbkhocnplaaProg.lean LOADS. Nothing in Lean hashes anything: it is a label: what it is worth is what the hold of that sum in a sandbox is worth. -/
noncomputable def Try.pinned : Pinned := { name := "ytglonbkhocnplaa", sum := "a5d8f3de61084ae1a86fcd20af4c971a7ef6929ec9aef748fe1389819a7b229f", checked := Try.checked }
namespace Rows
def none {H : Type} : Left H := { results := [], args := [] }

/-- 'spoorlaw09.BlocksDecode': WHATEVER THE INPUT: true; the input reads as it did. -/
def blocksDecodeSpec : ChangeSpec := { name := "blocksDecode", fn := fun _ => fun
  | [d] => { results := [.lit (.bool true)], args := [d] }
  | _ => none }
def blocksDecodeRow : OpenClaim := { program := "ytglonbkhocnplaa", sum := "a5d8f3de61084ae1a86fcd20af4c971a7ef6929ec9aef748fe1389819a7b229f", func := "spoor/spoorlaw09.BlocksDecode", spec := "blocksDecode", unfollowed := true, recurses := true, apart := false }
def BlocksDecodeSaid : Prop := blocksDecodeRow.holds Try.pinned (OpenSpec.ofChange blocksDecodeSpec)

/-- ITS FALSE NEIGHBOUR: 'it returns false'. Refute it at one input. -/
def blocksDecodeWrong : ChangeSpec := { name := "blocksDecode", fn := fun _ => fun
  | [d] => { results := [.lit (.bool false)], args := [d] }
  | _ => none }
def BlocksDecodeWrongFalsely : Prop := blocksDecodeRow.holds Try.pinned (OpenSpec.ofChange blocksDecodeWrong)

/-- 'spoorlaw09.BlocksFind': WHATEVER THE INPUT: true; the input reads as it did. -/
def blocksFindSpec : ChangeSpec := { name := "blocksFind", fn := fun _ => fun
  | [d1, d2] => { results := [.lit (.bool true)], args := [d1, d2] }
  | _ => none }
def blocksFindRow : OpenClaim := { program := "ytglonbkhocnplaa", sum := "a5d8f3de61084ae1a86fcd20af4c971a7ef6929ec9aef748fe1389819a7b229f", func := "spoor/spoorlaw09.BlocksFind", spec := "blocksFind", unfollowed := true, recurses := true, apart := false }
def BlocksFindSaid : Prop := blocksFindRow.holds Try.pinned (OpenSpec.ofChange blocksFindSpec)

/-- ITS FALSE NEIGHBOUR: 'it returns false'. Refute it at one input. -/
def blocksFindWrong : ChangeSpec := { name := "blocksFind", fn := fun _ => fun
  | [d1, d2] => { results := [.lit (.bool false)], args := [d1, d2] }
  | _ => none }
def BlocksFindWrongFalsely : Prop := blocksFindRow.holds Try.pinned (OpenSpec.ofChange blocksFindWrong)

/-- 'spoorlaw09.BlocksAsk': WHATEVER THE INPUT: true; the input reads as it did. -/
def blocksAskSpec : ChangeSpec := { name := "blocksAsk", fn := fun _ => fun
  | [d1, d2] => { results := [.lit (.bool true)], args := [d1, d2] }
  | _ => none }
def blocksAskRow : OpenClaim := { program := "ytglonbkhocnplaa", sum := "a5d8f3de61084ae1a86fcd20af4c971a7ef6929ec9aef748fe1389819a7b229f", func := "spoor/spoorlaw09.BlocksAsk", spec := "blocksAsk", unfollowed := true, recurses := true, apart := false }
def BlocksAskSaid : Prop := blocksAskRow.holds Try.pinned (OpenSpec.ofChange blocksAskSpec)

/-- ITS FALSE NEIGHBOUR: 'it returns false'. Refute it at one input. -/
def blocksAskWrong : ChangeSpec := { name := "blocksAsk", fn := fun _ => fun
  | [d1, d2] => { results := [.lit (.bool false)], args := [d1, d2] }
  | _ => none }
def BlocksAskWrongFalsely : Prop := blocksAskRow.holds Try.pinned (OpenSpec.ofChange blocksAskWrong)

/-- 'spoorlaw09.BlocksApart': WHATEVER THE INPUT: true; the input reads as it did. -/
def blocksApartSpec : ChangeSpec := { name := "blocksApart", fn := fun _ => fun
  | [d1, d2, d3] => { results := [.lit (.bool true)], args := [d1, d2, d3] }
  | _ => none }
def blocksApartRow : OpenClaim := { program := "ytglonbkhocnplaa", sum := "a5d8f3de61084ae1a86fcd20af4c971a7ef6929ec9aef748fe1389819a7b229f", func := "spoor/spoorlaw09.BlocksApart", spec := "blocksApart", unfollowed := true, recurses := true, apart := false }
def BlocksApartSaid : Prop := blocksApartRow.holds Try.pinned (OpenSpec.ofChange blocksApartSpec)

/-- ITS FALSE NEIGHBOUR: 'it returns false'. Refute it at one input. -/
def blocksApartWrong : ChangeSpec := { name := "blocksApart", fn := fun _ => fun
  | [d1, d2, d3] => { results := [.lit (.bool false)], args := [d1, d2, d3] }
  | _ => none }
def BlocksApartWrongFalsely : Prop := blocksApartRow.holds Try.pinned (OpenSpec.ofChange blocksApartWrong)

/-- 'spoorlaw09.BlocksEncode': WHATEVER THE INPUT: true; the input reads as it did. -/
def blocksEncodeSpec : ChangeSpec := { name := "blocksEncode", fn := fun _ => fun
  | [d] => { results := [.lit (.bool true)], args := [d] }
  | _ => none }
def blocksEncodeRow : OpenClaim := { program := "ytglonbkhocnplaa", sum := "a5d8f3de61084ae1a86fcd20af4c971a7ef6929ec9aef748fe1389819a7b229f", func := "spoor/spoorlaw09.BlocksEncode", spec := "blocksEncode", unfollowed := true, recurses := true, apart := false }
def BlocksEncodeSaid : Prop := blocksEncodeRow.holds Try.pinned (OpenSpec.ofChange blocksEncodeSpec)

/-- ITS FALSE NEIGHBOUR: 'it returns false'. Refute it at one input. -/
def blocksEncodeWrong : ChangeSpec := { name := "blocksEncode", fn := fun _ => fun
  | [d] => { results := [.lit (.bool false)], args := [d] }
  | _ => none }
def BlocksEncodeWrongFalsely : Prop := blocksEncodeRow.holds Try.pinned (OpenSpec.ofChange blocksEncodeWrong)

/-- 'spoorlaw09.BlocksBack': WHATEVER THE INPUT: true; the input reads as it did. -/
def blocksBackSpec : ChangeSpec := { name := "blocksBack", fn := fun _ => fun
  | [d1, d2] => { results := [.lit (.bool true)], args := [d1, d2] }
  | _ => none }
def blocksBackRow : OpenClaim := { program := "ytglonbkhocnplaa", sum := "a5d8f3de61084ae1a86fcd20af4c971a7ef6929ec9aef748fe1389819a7b229f", func := "spoor/spoorlaw09.BlocksBack", spec := "blocksBack", unfollowed := true, recurses := true, apart := false }
def BlocksBackSaid : Prop := blocksBackRow.holds Try.pinned (OpenSpec.ofChange blocksBackSpec)

/-- ITS FALSE NEIGHBOUR: 'it returns false'. Refute it at one input. -/
def blocksBackWrong : ChangeSpec := { name := "blocksBack", fn := fun _ => fun
  | [d1, d2] => { results := [.lit (.bool false)], args := [d1, d2] }
  | _ => none }
def BlocksBackWrongFalsely : Prop := blocksBackRow.holds Try.pinned (OpenSpec.ofChange blocksBackWrong)

/-- 'spoorlaw09.BlocksOne': WHATEVER THE INPUT: true; the input reads as it did. -/
def blocksOneSpec : ChangeSpec := { name := "blocksOne", fn := fun _ => fun
  | [d1, d2, d3] => { results := [.lit (.bool true)], args := [d1, d2, d3] }
  | _ => none }
def blocksOneRow : OpenClaim := { program := "ytglonbkhocnplaa", sum := "a5d8f3de61084ae1a86fcd20af4c971a7ef6929ec9aef748fe1389819a7b229f", func := "spoor/spoorlaw09.BlocksOne", spec := "blocksOne", unfollowed := true, recurses := true, apart := false }
def BlocksOneSaid : Prop := blocksOneRow.holds Try.pinned (OpenSpec.ofChange blocksOneSpec)

/-- ITS FALSE NEIGHBOUR: 'it returns false'. Refute it at one input. -/
def blocksOneWrong : ChangeSpec := { name := "blocksOne", fn := fun _ => fun
  | [d1, d2, d3] => { results := [.lit (.bool false)], args := [d1, d2, d3] }
  | _ => none }
def BlocksOneWrongFalsely : Prop := blocksOneRow.holds Try.pinned (OpenSpec.ofChange blocksOneWrong)

/- THE SECOND FORM. 'bulk': how many values and letters a reading holds, each counted each time it is reached (what is shared counts as often as it is met; a slice's spare places count too). A statement '..UptoSaid' is the law's where the arguments, and the package variables that the reading takes, are together of bulk at most 1048576: NARROWER than '..Said'. Prove '..Said' where nothing that the law and all that it calls make is longer than what came in: it says more and counts as full. Else prove '..UptoSaid'. A law counts once. -/
mutual
def uptoBulk {H : Type} : DataW H → Nat
  | .lit (.string bytes) => bytes.length + 1
  | .lit _ => 1
  | .nil => 1
  | .ptr d => uptoBulk d + 1
  | .slice elems spare => uptoBulkAll elems + uptoBulkAll spare + 1
  | .agg parts => uptoBulkAll parts + 1
  | .iface _ d => uptoBulk d + 1
  | .map entries => uptoBulkEntries entries + 1
  | .held _ => 1
def uptoBulkAll {H : Type} : List (DataW H) → Nat
  | [] => 0
  | d :: r => uptoBulk d + uptoBulkAll r
def uptoBulkEntries {H : Type} : List (Lit × DataW H) → Nat
  | [] => 0
  | x :: r => uptoBulkEntry x + uptoBulkEntries r
def uptoBulkEntry {H : Type} : Lit × DataW H → Nat
  | (.string bytes, d) => bytes.length + uptoBulk d + 1
  | (_, d) => uptoBulk d + 1
 end
def uptoSmall : (H : Type) → List (DataW H) → Bool := fun _ ds => decide (uptoBulkAll ds ≤ 1048576)
def OpenSpec.upto (s : _root_.Go.ChangeSpec) : _root_.Go.OpenSpec := { _root_.Go.OpenSpec.ofChange s with cond := some uptoSmall }

/-- 'spoorlaw09.BlocksDecode', WHERE WHAT IT READS IS OF BULK AT MOST 1048576: true; the input reads as it did. -/
def blocksDecodeUptoRow : OpenClaim := { program := "ytglonbkhocnplaa", sum := "a5d8f3de61084ae1a86fcd20af4c971a7ef6929ec9aef748fe1389819a7b229f", func := "spoor/spoorlaw09.BlocksDecode", spec := "blocksDecode", unfollowed := true, recurses := true, apart := false, narrowed := true }
def BlocksDecodeUptoSaid : Prop := blocksDecodeUptoRow.holds Try.pinned (OpenSpec.upto blocksDecodeSpec)

/-- 'spoorlaw09.BlocksFind', WHERE WHAT IT READS IS OF BULK AT MOST 1048576: true; the input reads as it did. -/
def blocksFindUptoRow : OpenClaim := { program := "ytglonbkhocnplaa", sum := "a5d8f3de61084ae1a86fcd20af4c971a7ef6929ec9aef748fe1389819a7b229f", func := "spoor/spoorlaw09.BlocksFind", spec := "blocksFind", unfollowed := true, recurses := true, apart := false, narrowed := true }
def BlocksFindUptoSaid : Prop := blocksFindUptoRow.holds Try.pinned (OpenSpec.upto blocksFindSpec)

/-- 'spoorlaw09.BlocksAsk', WHERE WHAT IT READS IS OF BULK AT MOST 1048576: true; the input reads as it did. -/
def blocksAskUptoRow : OpenClaim := { program := "ytglonbkhocnplaa", sum := "a5d8f3de61084ae1a86fcd20af4c971a7ef6929ec9aef748fe1389819a7b229f", func := "spoor/spoorlaw09.BlocksAsk", spec := "blocksAsk", unfollowed := true, recurses := true, apart := false, narrowed := true }
def BlocksAskUptoSaid : Prop := blocksAskUptoRow.holds Try.pinned (OpenSpec.upto blocksAskSpec)

/-- 'spoorlaw09.BlocksApart', WHERE WHAT IT READS IS OF BULK AT MOST 1048576: true; the input reads as it did. -/
def blocksApartUptoRow : OpenClaim := { program := "ytglonbkhocnplaa", sum := "a5d8f3de61084ae1a86fcd20af4c971a7ef6929ec9aef748fe1389819a7b229f", func := "spoor/spoorlaw09.BlocksApart", spec := "blocksApart", unfollowed := true, recurses := true, apart := false, narrowed := true }
def BlocksApartUptoSaid : Prop := blocksApartUptoRow.holds Try.pinned (OpenSpec.upto blocksApartSpec)

/-- 'spoorlaw09.BlocksEncode', WHERE WHAT IT READS IS OF BULK AT MOST 1048576: true; the input reads as it did. -/
def blocksEncodeUptoRow : OpenClaim := { program := "ytglonbkhocnplaa", sum := "a5d8f3de61084ae1a86fcd20af4c971a7ef6929ec9aef748fe1389819a7b229f", func := "spoor/spoorlaw09.BlocksEncode", spec := "blocksEncode", unfollowed := true, recurses := true, apart := false, narrowed := true }
def BlocksEncodeUptoSaid : Prop := blocksEncodeUptoRow.holds Try.pinned (OpenSpec.upto blocksEncodeSpec)

/-- 'spoorlaw09.BlocksBack', WHERE WHAT IT READS IS OF BULK AT MOST 1048576: true; the input reads as it did. -/
def blocksBackUptoRow : OpenClaim := { program := "ytglonbkhocnplaa", sum := "a5d8f3de61084ae1a86fcd20af4c971a7ef6929ec9aef748fe1389819a7b229f", func := "spoor/spoorlaw09.BlocksBack", spec := "blocksBack", unfollowed := true, recurses := true, apart := false, narrowed := true }
def BlocksBackUptoSaid : Prop := blocksBackUptoRow.holds Try.pinned (OpenSpec.upto blocksBackSpec)

/-- 'spoorlaw09.BlocksOne', WHERE WHAT IT READS IS OF BULK AT MOST 1048576: true; the input reads as it did. -/
def blocksOneUptoRow : OpenClaim := { program := "ytglonbkhocnplaa", sum := "a5d8f3de61084ae1a86fcd20af4c971a7ef6929ec9aef748fe1389819a7b229f", func := "spoor/spoorlaw09.BlocksOne", spec := "blocksOne", unfollowed := true, recurses := true, apart := false, narrowed := true }
def BlocksOneUptoSaid : Prop := blocksOneUptoRow.holds Try.pinned (OpenSpec.upto blocksOneSpec)

end Rows
end Go.Proofs.Ytglonbkhocnplaa
