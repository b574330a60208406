/-
  No cell of these rows narrows 'for every input' (looked for: loops, veiled, ifaces, maps, wideKeys, modest, calm, conditions, laid).
  DERIVED. THE GIVEN ROWS OF THIS SEAT. 7 by the template 'for every input the law returns true; each argument reads behind the call as it read before'; 0 by the template 'total and deterministic' (their statements: YtojenagpnkhgfaaTotals.lean).
  GIVEN WITH THE SEED: the statements are not yours to turn. If you find one false, say at which input.
  Laid BY PROGRAM, IN A SANDBOX (cutbox-rows.mjs): the forced cells as the released guide's own fill.sh prints them over the translation 1366446fdb4b0757… (all of the seat's roots in one cut). By AI agents, Wed Nov 11 2026. No macro, syntax, notation, axiom, sorry.
-/
import Derived.Test.YtojenagpnkhgfaaChecked
import GoSem.Claim
import GoSem.ClaimJoined
import GoSem.ClaimMapViews
import Derived.JoinedTies
import Derived.KernelRfl
namespace Go.Proofs.Ytojenagpnkhgfaa
/- THE CELL 'sum', in the pinned program and in every row, IS THE sha256 OF THE DUMP (.gsa) THAT YtojenagpnkhgfaaProg.lean LOADS. Nothing in Lean hashes anything: it is a label: what it is worth is what the hold of that sum in a sandbox is worth. -/
noncomputable def Try.pinned : Pinned := { name := "ytojenagpnkhgfaa", sum := "1366446fdb4b0757c9c6f4425dee48b035655d6d95cb2ee6520dc8bf3bc69e9e", checked := Try.checked }
namespace Rows
def none {H : Type} : Left H := { results := [], args := [] }

/-- 'spoorlaw08.KeysOf': WHATEVER THE INPUT: true; the input reads as it did. -/
def keysOfSpec : ChangeSpec := { name := "keysOf", fn := fun _ => fun
  | [d1, d2, d3] => { results := [.lit (.bool true)], args := [d1, d2, d3] }
  | _ => none }
def keysOfRow : OpenClaim := { program := "ytojenagpnkhgfaa", sum := "1366446fdb4b0757c9c6f4425dee48b035655d6d95cb2ee6520dc8bf3bc69e9e", func := "spoor/spoorlaw08.KeysOf", spec := "keysOf", inPlace := ["internal/bytealg.IndexByteString", "internal/bytealg.IndexString"], unfollowed := true, recurses := true, named := ["internal/bytealg.MaxLen"], apart := false }
def KeysOfSaid : Prop := keysOfRow.holds Try.pinned (OpenSpec.ofChange keysOfSpec)

/-- ITS FALSE NEIGHBOUR: 'it returns false'. Refute it at one input. -/
def keysOfWrong : ChangeSpec := { name := "keysOf", fn := fun _ => fun
  | [d1, d2, d3] => { results := [.lit (.bool false)], args := [d1, d2, d3] }
  | _ => none }
def KeysOfWrongFalsely : Prop := keysOfRow.holds Try.pinned (OpenSpec.ofChange keysOfWrong)

/-- 'spoorlaw08.KeysStretch': WHATEVER THE INPUT: true; the input reads as it did. -/
def keysStretchSpec : ChangeSpec := { name := "keysStretch", fn := fun _ => fun
  | [d1, d2, d3] => { results := [.lit (.bool true)], args := [d1, d2, d3] }
  | _ => none }
def keysStretchRow : OpenClaim := { program := "ytojenagpnkhgfaa", sum := "1366446fdb4b0757c9c6f4425dee48b035655d6d95cb2ee6520dc8bf3bc69e9e", func := "spoor/spoorlaw08.KeysStretch", spec := "keysStretch", inPlace := ["internal/bytealg.IndexByteString", "internal/bytealg.IndexString"], unfollowed := true, recurses := true, named := ["internal/bytealg.MaxLen"], apart := false }
def KeysStretchSaid : Prop := keysStretchRow.holds Try.pinned (OpenSpec.ofChange keysStretchSpec)

/-- ITS FALSE NEIGHBOUR: 'it returns false'. Refute it at one input. -/
def keysStretchWrong : ChangeSpec := { name := "keysStretch", fn := fun _ => fun
  | [d1, d2, d3] => { results := [.lit (.bool false)], args := [d1, d2, d3] }
  | _ => none }
def KeysStretchWrongFalsely : Prop := keysStretchRow.holds Try.pinned (OpenSpec.ofChange keysStretchWrong)

/-- 'spoorlaw08.KeysParse': WHATEVER THE INPUT: true; the input reads as it did. -/
def keysParseSpec : ChangeSpec := { name := "keysParse", fn := fun _ => fun
  | [d] => { results := [.lit (.bool true)], args := [d] }
  | _ => none }
def keysParseRow : OpenClaim := { program := "ytojenagpnkhgfaa", sum := "1366446fdb4b0757c9c6f4425dee48b035655d6d95cb2ee6520dc8bf3bc69e9e", func := "spoor/spoorlaw08.KeysParse", spec := "keysParse", inPlace := ["internal/bytealg.IndexByteString", "internal/bytealg.IndexString"], unfollowed := true, recurses := true, named := ["internal/bytealg.MaxLen"], apart := false }
def KeysParseSaid : Prop := keysParseRow.holds Try.pinned (OpenSpec.ofChange keysParseSpec)

/-- ITS FALSE NEIGHBOUR: 'it returns false'. Refute it at one input. -/
def keysParseWrong : ChangeSpec := { name := "keysParse", fn := fun _ => fun
  | [d] => { results := [.lit (.bool false)], args := [d] }
  | _ => none }
def KeysParseWrongFalsely : Prop := keysParseRow.holds Try.pinned (OpenSpec.ofChange keysParseWrong)

/-- 'spoorlaw08.KeysBack': WHATEVER THE INPUT: true; the input reads as it did. -/
def keysBackSpec : ChangeSpec := { name := "keysBack", fn := fun _ => fun
  | [d1, d2] => { results := [.lit (.bool true)], args := [d1, d2] }
  | _ => none }
def keysBackRow : OpenClaim := { program := "ytojenagpnkhgfaa", sum := "1366446fdb4b0757c9c6f4425dee48b035655d6d95cb2ee6520dc8bf3bc69e9e", func := "spoor/spoorlaw08.KeysBack", spec := "keysBack", inPlace := ["internal/bytealg.IndexByteString", "internal/bytealg.IndexString"], unfollowed := true, recurses := true, named := ["internal/bytealg.MaxLen"], apart := false }
def KeysBackSaid : Prop := keysBackRow.holds Try.pinned (OpenSpec.ofChange keysBackSpec)

/-- ITS FALSE NEIGHBOUR: 'it returns false'. Refute it at one input. -/
def keysBackWrong : ChangeSpec := { name := "keysBack", fn := fun _ => fun
  | [d1, d2] => { results := [.lit (.bool false)], args := [d1, d2] }
  | _ => none }
def KeysBackWrongFalsely : Prop := keysBackRow.holds Try.pinned (OpenSpec.ofChange keysBackWrong)

/-- 'spoorlaw08.KeysOrder': WHATEVER THE INPUT: true; the input reads as it did. -/
def keysOrderSpec : ChangeSpec := { name := "keysOrder", fn := fun _ => fun
  | [d1, d2] => { results := [.lit (.bool true)], args := [d1, d2] }
  | _ => none }
def keysOrderRow : OpenClaim := { program := "ytojenagpnkhgfaa", sum := "1366446fdb4b0757c9c6f4425dee48b035655d6d95cb2ee6520dc8bf3bc69e9e", func := "spoor/spoorlaw08.KeysOrder", spec := "keysOrder", inPlace := ["internal/bytealg.IndexByteString", "internal/bytealg.IndexString"], unfollowed := true, recurses := true, named := ["internal/bytealg.MaxLen"], apart := false }
def KeysOrderSaid : Prop := keysOrderRow.holds Try.pinned (OpenSpec.ofChange keysOrderSpec)

/-- ITS FALSE NEIGHBOUR: 'it returns false'. Refute it at one input. -/
def keysOrderWrong : ChangeSpec := { name := "keysOrder", fn := fun _ => fun
  | [d1, d2] => { results := [.lit (.bool false)], args := [d1, d2] }
  | _ => none }
def KeysOrderWrongFalsely : Prop := keysOrderRow.holds Try.pinned (OpenSpec.ofChange keysOrderWrong)

/-- 'spoorlaw08.KeysWithin': WHATEVER THE INPUT: true; the input reads as it did. -/
def keysWithinSpec : ChangeSpec := { name := "keysWithin", fn := fun _ => fun
  | [d1, d2, d3] => { results := [.lit (.bool true)], args := [d1, d2, d3] }
  | _ => none }
def keysWithinRow : OpenClaim := { program := "ytojenagpnkhgfaa", sum := "1366446fdb4b0757c9c6f4425dee48b035655d6d95cb2ee6520dc8bf3bc69e9e", func := "spoor/spoorlaw08.KeysWithin", spec := "keysWithin", inPlace := ["internal/bytealg.IndexByteString", "internal/bytealg.IndexString"], unfollowed := true, recurses := true, named := ["internal/bytealg.MaxLen"], apart := false }
def KeysWithinSaid : Prop := keysWithinRow.holds Try.pinned (OpenSpec.ofChange keysWithinSpec)

/-- ITS FALSE NEIGHBOUR: 'it returns false'. Refute it at one input. -/
def keysWithinWrong : ChangeSpec := { name := "keysWithin", fn := fun _ => fun
  | [d1, d2, d3] => { results := [.lit (.bool false)], args := [d1, d2, d3] }
  | _ => none }
def KeysWithinWrongFalsely : Prop := keysWithinRow.holds Try.pinned (OpenSpec.ofChange keysWithinWrong)

/-- 'spoorlaw08.KeysApart': WHATEVER THE INPUT: true; the input reads as it did. -/
def keysApartSpec : ChangeSpec := { name := "keysApart", fn := fun _ => fun
  | [d1, d2] => { results := [.lit (.bool true)], args := [d1, d2] }
  | _ => none }
def keysApartRow : OpenClaim := { program := "ytojenagpnkhgfaa", sum := "1366446fdb4b0757c9c6f4425dee48b035655d6d95cb2ee6520dc8bf3bc69e9e", func := "spoor/spoorlaw08.KeysApart", spec := "keysApart", inPlace := ["internal/bytealg.IndexByteString", "internal/bytealg.IndexString"], unfollowed := true, recurses := true, named := ["internal/bytealg.MaxLen"], apart := false }
def KeysApartSaid : Prop := keysApartRow.holds Try.pinned (OpenSpec.ofChange keysApartSpec)

/-- ITS FALSE NEIGHBOUR: 'it returns false'. Refute it at one input. -/
def keysApartWrong : ChangeSpec := { name := "keysApart", fn := fun _ => fun
  | [d1, d2] => { results := [.lit (.bool false)], args := [d1, d2] }
  | _ => none }
def KeysApartWrongFalsely : Prop := keysApartRow.holds Try.pinned (OpenSpec.ofChange keysApartWrong)

/- THE SECOND FORM. 'bulk': how many values and letters a reading holds, each counted each time it is reached (what is shared counts as often as it is met; a slice's spare places count too). A statement '..UptoSaid' is the law's where the arguments, and the package variables that the reading takes, are together of bulk at most 1048576: NARROWER than '..Said'. Prove '..Said' where nothing that the law and all that it calls make is longer than what came in: it says more and counts as full. Else prove '..UptoSaid'. A law counts once. -/
mutual
def uptoBulk {H : Type} : DataW H → Nat
  | .lit (.string bytes) => bytes.length + 1
  | .lit _ => 1
  | .nil => 1
  | .ptr d => uptoBulk d + 1
  | .slice elems spare => uptoBulkAll elems + uptoBulkAll spare + 1
  | .agg parts => uptoBulkAll parts + 1
  | .iface _ d => uptoBulk d + 1
  | .map entries => uptoBulkEntries entries + 1
  | .held _ => 1
def uptoBulkAll {H : Type} : List (DataW H) → Nat
  | [] => 0
  | d :: r => uptoBulk d + uptoBulkAll r
def uptoBulkEntries {H : Type} : List (Lit × DataW H) → Nat
  | [] => 0
  | x :: r => uptoBulkEntry x + uptoBulkEntries r
def uptoBulkEntry {H : Type} : Lit × DataW H → Nat
  | (.string bytes, d) => bytes.length + uptoBulk d + 1
  | (_, d) => uptoBulk d + 1
 end
def uptoSmall : (H : Type) → List (DataW H) → Bool := fun _ ds => decide (uptoBulkAll ds ≤ 1048576)
def OpenSpec.upto (s : _root_.Go.ChangeSpec) : _root_.Go.OpenSpec := { _root_.Go.OpenSpec.ofChange s with cond := some uptoSmall }

/-- 'spoorlaw08.KeysOf', WHERE WHAT IT READS IS OF BULK AT MOST 1048576: true; the input reads as it did. -/
def keysOfUptoRow : OpenClaim := { program := "ytojenagpnkhgfaa", sum := "1366446fdb4b0757c9c6f4425dee48b035655d6d95cb2ee6520dc8bf3bc69e9e", func := "spoor/spoorlaw08.KeysOf", spec := "keysOf", inPlace := ["internal/bytealg.IndexByteString", "internal/bytealg.IndexString"], unfollowed := true, recurses := true, named := ["internal/bytealg.MaxLen"], apart := false, narrowed := true }
def KeysOfUptoSaid : Prop := keysOfUptoRow.holds Try.pinned (OpenSpec.upto keysOfSpec)

/-- 'spoorlaw08.KeysStretch', WHERE WHAT IT READS IS OF BULK AT MOST 1048576: true; the input reads as it did. -/
def keysStretchUptoRow : OpenClaim := { program := "ytojenagpnkhgfaa", sum := "1366446fdb4b0757c9c6f4425dee48b035655d6d95cb2ee6520dc8bf3bc69e9e", func := "spoor/spoorlaw08.KeysStretch", spec := "keysStretch", inPlace := ["internal/bytealg.IndexByteString", "internal/bytealg.IndexString"], unfollowed := true, recurses := true, named := ["internal/bytealg.MaxLen"], apart := false, narrowed := true }
def KeysStretchUptoSaid : Prop := keysStretchUptoRow.holds Try.pinned (OpenSpec.upto keysStretchSpec)

/-- 'spoorlaw08.KeysParse', WHERE WHAT IT READS IS OF BULK AT MOST 1048576: true; the input reads as it did. -/
def keysParseUptoRow : OpenClaim := { program := "ytojenagpnkhgfaa", sum := "1366446fdb4b0757c9c6f4425dee48b035655d6d95cb2ee6520dc8bf3bc69e9e", func := "spoor/spoorlaw08.KeysParse", spec := "keysParse", inPlace := ["internal/bytealg.IndexByteString", "internal/bytealg.IndexString"], unfollowed := true, recurses := true, named := ["internal/bytealg.MaxLen"], apart := false, narrowed := true }
def KeysParseUptoSaid : Prop := keysParseUptoRow.holds Try.pinned (OpenSpec.upto keysParseSpec)

/-- 'spoorlaw08.KeysBack', WHERE WHAT IT READS IS OF BULK AT MOST 1048576: true; the input reads as it did. -/
def keysBackUptoRow : OpenClaim := { program := "ytojenagpnkhgfaa", sum := "1366446fdb4b0757c9c6f4425dee48b035655d6d95cb2ee6520dc8bf3bc69e9e", func := "spoor/spoorlaw08.KeysBack", spec := "keysBack", inPlace := ["internal/bytealg.IndexByteString", "internal/bytealg.IndexString"], unfollowed := true, recurses := true, named := ["internal/bytealg.MaxLen"], apart := false, narrowed := true }
def KeysBackUptoSaid : Prop := keysBackUptoRow.holds Try.pinned (OpenSpec.upto keysBackSpec)

/-- 'spoorlaw08.KeysOrder', WHERE WHAT IT READS IS OF BULK AT MOST 1048576: true; the input reads as it did. -/
def keysOrderUptoRow : OpenClaim := { program := "ytojenagpnkhgfaa", sum := "1366446fdb4b0757c9c6f4425dee48b035655d6d95cb2ee6520dc8bf3bc69e9e", func := "spoor/spoorlaw08.KeysOrder", spec := "keysOrder", inPlace := ["internal/bytealg.IndexByteString", "internal/bytealg.IndexString"], unfollowed := true, recurses := true, named := ["internal/bytealg.MaxLen"], apart := false, narrowed := true }
def KeysOrderUptoSaid : Prop := keysOrderUptoRow.holds Try.pinned (OpenSpec.upto keysOrderSpec)

/-- 'spoorlaw08.KeysWithin', WHERE WHAT IT READS IS OF BULK AT MOST 1048576: true; the input reads as it did. -/
def keysWithinUptoRow : OpenClaim := { program := "ytojenagpnkhgfaa", sum := "1366446fdb4b0757c9c6f4425dee48b035655d6d95cb2ee6520dc8bf3bc69e9e", func := "spoor/spoorlaw08.KeysWithin", spec := "keysWithin", inPlace := ["internal/bytealg.IndexByteString", "internal/bytealg.IndexString"], unfollowed := true, recurses := true, named := ["internal/bytealg.MaxLen"], apart := false, narrowed := true }
def KeysWithinUptoSaid : Prop := keysWithinUptoRow.holds Try.pinned (OpenSpec.upto keysWithinSpec)

/-- 'spoorlaw08.KeysApart', WHERE WHAT IT READS IS OF BULK AT MOST 1048576: true; the input reads as it did. -/
def keysApartUptoRow : OpenClaim := { program := "ytojenagpnkhgfaa", sum := "1366446fdb4b0757c9c6f4425dee48b035655d6d95cb2ee6520dc8bf3bc69e9e", func := "spoor/spoorlaw08.KeysApart", spec := "keysApart", inPlace := ["internal/bytealg.IndexByteString", "internal/bytealg.IndexString"], unfollowed := true, recurses := true, named := ["internal/bytealg.MaxLen"], apart := false, narrowed := true }
def KeysApartUptoSaid : Prop := keysApartUptoRow.holds Try.pinned (OpenSpec.upto keysApartSpec)

end Rows
end Go.Proofs.Ytojenagpnkhgfaa
