/-
  No cell of these rows narrows 'for every input' (looked for: loops, veiled, ifaces, maps, wideKeys, modest, calm, conditions, laid).
  DERIVED. THE GIVEN ROWS OF THIS SEAT. 8 by the template 'for every input the law returns true; each argument reads behind the call as it read before'; 0 by the template 'total and deterministic' (their statements: YtnfagkcmcliagaaTotals.lean).
  GIVEN WITH THE SEED: the statements are not yours to turn. If you find one false, say at which input.
  Laid BY PROGRAM, IN A SANDBOX (cutbox-rows.mjs): the forced cells as the released guide's own fill.sh prints them over the translation c9b84ff115986650… (all of the seat's roots in one cut). By AI agents, Wed Nov 11 2026. No macro, syntax, notation, axiom, sorry.
-/
import Derived.Test.YtnfagkcmcliagaaChecked
import GoSem.Claim
import GoSem.ClaimJoined
import GoSem.ClaimMapViews
import Derived.JoinedTies
import Derived.KernelRfl
namespace Go.Proofs.Ytnfagkcmcliagaa
/- THE CELL 'sum', in the pinned program and in every row, IS THE sha256 OF THE DUMP (.gsa) THAT YtnfagkcmcliagaaProg.lean LOADS. Nothing in Lean hashes anything: it is a label: what it is worth is what the hold of that sum in a sandbox is worth. -/
noncomputable def Try.pinned : Pinned := { name := "ytnfagkcmcliagaa", sum := "c9b84ff115986650ad29f075cef8cdb7eb5d0e3565a03edc7677a05addfd2342", checked := Try.checked }
namespace Rows
def none {H : Type} : Left H := { results := [], args := [] }

/-- 'spoorlaw03.SpansEncode': WHATEVER THE INPUT: true; the input reads as it did. -/
def spansEncodeSpec : ChangeSpec := { name := "spansEncode", fn := fun _ => fun
  | [d] => { results := [.lit (.bool true)], args := [d] }
  | _ => none }
def spansEncodeRow : OpenClaim := { program := "ytnfagkcmcliagaa", sum := "c9b84ff115986650ad29f075cef8cdb7eb5d0e3565a03edc7677a05addfd2342", func := "spoor/spoorlaw03.SpansEncode", spec := "spansEncode", inPlace := ["internal/abi.NoEscape"], unfollowed := true, recurses := true, apart := false }
def SpansEncodeSaid : Prop := spansEncodeRow.holds Try.pinned (OpenSpec.ofChange spansEncodeSpec)

/-- ITS FALSE NEIGHBOUR: 'it returns false'. Refute it at one input. -/
def spansEncodeWrong : ChangeSpec := { name := "spansEncode", fn := fun _ => fun
  | [d] => { results := [.lit (.bool false)], args := [d] }
  | _ => none }
def SpansEncodeWrongFalsely : Prop := spansEncodeRow.holds Try.pinned (OpenSpec.ofChange spansEncodeWrong)

/-- 'spoorlaw03.SpansDecode': WHATEVER THE INPUT: true; the input reads as it did. -/
def spansDecodeSpec : ChangeSpec := { name := "spansDecode", fn := fun _ => fun
  | [d] => { results := [.lit (.bool true)], args := [d] }
  | _ => none }
def spansDecodeRow : OpenClaim := { program := "ytnfagkcmcliagaa", sum := "c9b84ff115986650ad29f075cef8cdb7eb5d0e3565a03edc7677a05addfd2342", func := "spoor/spoorlaw03.SpansDecode", spec := "spansDecode", inPlace := ["internal/abi.NoEscape"], unfollowed := true, recurses := true, apart := false }
def SpansDecodeSaid : Prop := spansDecodeRow.holds Try.pinned (OpenSpec.ofChange spansDecodeSpec)

/-- ITS FALSE NEIGHBOUR: 'it returns false'. Refute it at one input. -/
def spansDecodeWrong : ChangeSpec := { name := "spansDecode", fn := fun _ => fun
  | [d] => { results := [.lit (.bool false)], args := [d] }
  | _ => none }
def SpansDecodeWrongFalsely : Prop := spansDecodeRow.holds Try.pinned (OpenSpec.ofChange spansDecodeWrong)

/-- 'spoorlaw03.SpansLess': WHATEVER THE INPUT: true; the input reads as it did. -/
def spansLessSpec : ChangeSpec := { name := "spansLess", fn := fun _ => fun
  | [d1, d2] => { results := [.lit (.bool true)], args := [d1, d2] }
  | _ => none }
def spansLessRow : OpenClaim := { program := "ytnfagkcmcliagaa", sum := "c9b84ff115986650ad29f075cef8cdb7eb5d0e3565a03edc7677a05addfd2342", func := "spoor/spoorlaw03.SpansLess", spec := "spansLess", inPlace := ["internal/abi.NoEscape"], unfollowed := true, recurses := true, apart := false }
def SpansLessSaid : Prop := spansLessRow.holds Try.pinned (OpenSpec.ofChange spansLessSpec)

/-- ITS FALSE NEIGHBOUR: 'it returns false'. Refute it at one input. -/
def spansLessWrong : ChangeSpec := { name := "spansLess", fn := fun _ => fun
  | [d1, d2] => { results := [.lit (.bool false)], args := [d1, d2] }
  | _ => none }
def SpansLessWrongFalsely : Prop := spansLessRow.holds Try.pinned (OpenSpec.ofChange spansLessWrong)

/-- 'spoorlaw03.SpansBack': WHATEVER THE INPUT: true; the input reads as it did. -/
def spansBackSpec : ChangeSpec := { name := "spansBack", fn := fun _ => fun
  | [d1, d2] => { results := [.lit (.bool true)], args := [d1, d2] }
  | _ => none }
def spansBackRow : OpenClaim := { program := "ytnfagkcmcliagaa", sum := "c9b84ff115986650ad29f075cef8cdb7eb5d0e3565a03edc7677a05addfd2342", func := "spoor/spoorlaw03.SpansBack", spec := "spansBack", inPlace := ["internal/abi.NoEscape"], unfollowed := true, recurses := true, apart := false }
def SpansBackSaid : Prop := spansBackRow.holds Try.pinned (OpenSpec.ofChange spansBackSpec)

/-- ITS FALSE NEIGHBOUR: 'it returns false'. Refute it at one input. -/
def spansBackWrong : ChangeSpec := { name := "spansBack", fn := fun _ => fun
  | [d1, d2] => { results := [.lit (.bool false)], args := [d1, d2] }
  | _ => none }
def SpansBackWrongFalsely : Prop := spansBackRow.holds Try.pinned (OpenSpec.ofChange spansBackWrong)

/-- 'spoorlaw03.SpansApart': WHATEVER THE INPUT: true; the input reads as it did. -/
def spansApartSpec : ChangeSpec := { name := "spansApart", fn := fun _ => fun
  | [d1, d2, d3] => { results := [.lit (.bool true)], args := [d1, d2, d3] }
  | _ => none }
def spansApartRow : OpenClaim := { program := "ytnfagkcmcliagaa", sum := "c9b84ff115986650ad29f075cef8cdb7eb5d0e3565a03edc7677a05addfd2342", func := "spoor/spoorlaw03.SpansApart", spec := "spansApart", inPlace := ["internal/abi.NoEscape"], unfollowed := true, recurses := true, apart := false }
def SpansApartSaid : Prop := spansApartRow.holds Try.pinned (OpenSpec.ofChange spansApartSpec)

/-- ITS FALSE NEIGHBOUR: 'it returns false'. Refute it at one input. -/
def spansApartWrong : ChangeSpec := { name := "spansApart", fn := fun _ => fun
  | [d1, d2, d3] => { results := [.lit (.bool false)], args := [d1, d2, d3] }
  | _ => none }
def SpansApartWrongFalsely : Prop := spansApartRow.holds Try.pinned (OpenSpec.ofChange spansApartWrong)

/-- 'spoorlaw03.SpansOrder': WHATEVER THE INPUT: true; the input reads as it did. -/
def spansOrderSpec : ChangeSpec := { name := "spansOrder", fn := fun _ => fun
  | [d1, d2, d3] => { results := [.lit (.bool true)], args := [d1, d2, d3] }
  | _ => none }
def spansOrderRow : OpenClaim := { program := "ytnfagkcmcliagaa", sum := "c9b84ff115986650ad29f075cef8cdb7eb5d0e3565a03edc7677a05addfd2342", func := "spoor/spoorlaw03.SpansOrder", spec := "spansOrder", inPlace := ["internal/abi.NoEscape"], unfollowed := true, recurses := true, apart := false }
def SpansOrderSaid : Prop := spansOrderRow.holds Try.pinned (OpenSpec.ofChange spansOrderSpec)

/-- ITS FALSE NEIGHBOUR: 'it returns false'. Refute it at one input. -/
def spansOrderWrong : ChangeSpec := { name := "spansOrder", fn := fun _ => fun
  | [d1, d2, d3] => { results := [.lit (.bool false)], args := [d1, d2, d3] }
  | _ => none }
def SpansOrderWrongFalsely : Prop := spansOrderRow.holds Try.pinned (OpenSpec.ofChange spansOrderWrong)

/-- 'spoorlaw03.SpansField': WHATEVER THE INPUT: true; the input reads as it did. -/
def spansFieldSpec : ChangeSpec := { name := "spansField", fn := fun _ => fun
  | [d1, d2, d3] => { results := [.lit (.bool true)], args := [d1, d2, d3] }
  | _ => none }
def spansFieldRow : OpenClaim := { program := "ytnfagkcmcliagaa", sum := "c9b84ff115986650ad29f075cef8cdb7eb5d0e3565a03edc7677a05addfd2342", func := "spoor/spoorlaw03.SpansField", spec := "spansField", inPlace := ["internal/abi.NoEscape"], unfollowed := true, recurses := true, apart := false }
def SpansFieldSaid : Prop := spansFieldRow.holds Try.pinned (OpenSpec.ofChange spansFieldSpec)

/-- ITS FALSE NEIGHBOUR: 'it returns false'. Refute it at one input. -/
def spansFieldWrong : ChangeSpec := { name := "spansField", fn := fun _ => fun
  | [d1, d2, d3] => { results := [.lit (.bool false)], args := [d1, d2, d3] }
  | _ => none }
def SpansFieldWrongFalsely : Prop := spansFieldRow.holds Try.pinned (OpenSpec.ofChange spansFieldWrong)

/-- 'spoorlaw03.SpansParts': WHATEVER THE INPUT: true; the input reads as it did. -/
def spansPartsSpec : ChangeSpec := { name := "spansParts", fn := fun _ => fun
  | [d] => { results := [.lit (.bool true)], args := [d] }
  | _ => none }
def spansPartsRow : OpenClaim := { program := "ytnfagkcmcliagaa", sum := "c9b84ff115986650ad29f075cef8cdb7eb5d0e3565a03edc7677a05addfd2342", func := "spoor/spoorlaw03.SpansParts", spec := "spansParts", inPlace := ["internal/abi.NoEscape"], unfollowed := true, recurses := true, apart := false }
def SpansPartsSaid : Prop := spansPartsRow.holds Try.pinned (OpenSpec.ofChange spansPartsSpec)

/-- ITS FALSE NEIGHBOUR: 'it returns false'. Refute it at one input. -/
def spansPartsWrong : ChangeSpec := { name := "spansParts", fn := fun _ => fun
  | [d] => { results := [.lit (.bool false)], args := [d] }
  | _ => none }
def SpansPartsWrongFalsely : Prop := spansPartsRow.holds Try.pinned (OpenSpec.ofChange spansPartsWrong)

/- THE SECOND FORM. 'bulk': how many values and letters a reading holds, each counted each time it is reached (what is shared counts as often as it is met; a slice's spare places count too). A statement '..UptoSaid' is the law's where the arguments, and the package variables that the reading takes, are together of bulk at most 1048576: NARROWER than '..Said'. Prove '..Said' where nothing that the law and all that it calls make is longer than what came in: it says more and counts as full. Else prove '..UptoSaid'. A law counts once. -/
mutual
def uptoBulk {H : Type} : DataW H → Nat
  | .lit (.string bytes) => bytes.length + 1
  | .lit _ => 1
  | .nil => 1
  | .ptr d => uptoBulk d + 1
  | .slice elems spare => uptoBulkAll elems + uptoBulkAll spare + 1
  | .agg parts => uptoBulkAll parts + 1
  | .iface _ d => uptoBulk d + 1
  | .map entries => uptoBulkEntries entries + 1
  | .held _ => 1
def uptoBulkAll {H : Type} : List (DataW H) → Nat
  | [] => 0
  | d :: r => uptoBulk d + uptoBulkAll r
def uptoBulkEntries {H : Type} : List (Lit × DataW H) → Nat
  | [] => 0
  | x :: r => uptoBulkEntry x + uptoBulkEntries r
def uptoBulkEntry {H : Type} : Lit × DataW H → Nat
  | (.string bytes, d) => bytes.length + uptoBulk d + 1
  | (_, d) => uptoBulk d + 1
 end
def uptoSmall : (H : Type) → List (DataW H) → Bool := fun _ ds => decide (uptoBulkAll ds ≤ 1048576)
def OpenSpec.upto (s : _root_.Go.ChangeSpec) : _root_.Go.OpenSpec := { _root_.Go.OpenSpec.ofChange s with cond := some uptoSmall }

/-- 'spoorlaw03.SpansEncode', WHERE WHAT IT READS IS OF BULK AT MOST 1048576: true; the input reads as it did. -/
def spansEncodeUptoRow : OpenClaim := { program := "ytnfagkcmcliagaa", sum := "c9b84ff115986650ad29f075cef8cdb7eb5d0e3565a03edc7677a05addfd2342", func := "spoor/spoorlaw03.SpansEncode", spec := "spansEncode", inPlace := ["internal/abi.NoEscape"], unfollowed := true, recurses := true, apart := false, narrowed := true }
def SpansEncodeUptoSaid : Prop := spansEncodeUptoRow.holds Try.pinned (OpenSpec.upto spansEncodeSpec)

/-- 'spoorlaw03.SpansDecode', WHERE WHAT IT READS IS OF BULK AT MOST 1048576: true; the input reads as it did. -/
def spansDecodeUptoRow : OpenClaim := { program := "ytnfagkcmcliagaa", sum := "c9b84ff115986650ad29f075cef8cdb7eb5d0e3565a03edc7677a05addfd2342", func := "spoor/spoorlaw03.SpansDecode", spec := "spansDecode", inPlace := ["internal/abi.NoEscape"], unfollowed := true, recurses := true, apart := false, narrowed := true }
def SpansDecodeUptoSaid : Prop := spansDecodeUptoRow.holds Try.pinned (OpenSpec.upto spansDecodeSpec)

/-- 'spoorlaw03.SpansLess', WHERE WHAT IT READS IS OF BULK AT MOST 1048576: true; the input reads as it did. -/
def spansLessUptoRow : OpenClaim := { program := "ytnfagkcmcliagaa", sum := "c9b84ff115986650ad29f075cef8cdb7eb5d0e3565a03edc7677a05addfd2342", func := "spoor/spoorlaw03.SpansLess", spec := "spansLess", inPlace := ["internal/abi.NoEscape"], unfollowed := true, recurses := true, apart := false, narrowed := true }
def SpansLessUptoSaid : Prop := spansLessUptoRow.holds Try.pinned (OpenSpec.upto spansLessSpec)

/-- 'spoorlaw03.SpansBack', WHERE WHAT IT READS IS OF BULK AT MOST 1048576: true; the input reads as it did. -/
def spansBackUptoRow : OpenClaim := { program := "ytnfagkcmcliagaa", sum := "c9b84ff115986650ad29f075cef8cdb7eb5d0e3565a03edc7677a05addfd2342", func := "spoor/spoorlaw03.SpansBack", spec := "spansBack", inPlace := ["internal/abi.NoEscape"], unfollowed := true, recurses := true, apart := false, narrowed := true }
def SpansBackUptoSaid : Prop := spansBackUptoRow.holds Try.pinned (OpenSpec.upto spansBackSpec)

/-- 'spoorlaw03.SpansApart', WHERE WHAT IT READS IS OF BULK AT MOST 1048576: true; the input reads as it did. -/
def spansApartUptoRow : OpenClaim := { program := "ytnfagkcmcliagaa", sum := "c9b84ff115986650ad29f075cef8cdb7eb5d0e3565a03edc7677a05addfd2342", func := "spoor/spoorlaw03.SpansApart", spec := "spansApart", inPlace := ["internal/abi.NoEscape"], unfollowed := true, recurses := true, apart := false, narrowed := true }
def SpansApartUptoSaid : Prop := spansApartUptoRow.holds Try.pinned (OpenSpec.upto spansApartSpec)

/-- 'spoorlaw03.SpansOrder', WHERE WHAT IT READS IS OF BULK AT MOST 1048576: true; the input reads as it did. -/
def spansOrderUptoRow : OpenClaim := { program := "ytnfagkcmcliagaa", sum := "c9b84ff115986650ad29f075cef8cdb7eb5d0e3565a03edc7677a05addfd2342", func := "spoor/spoorlaw03.SpansOrder", spec := "spansOrder", inPlace := ["internal/abi.NoEscape"], unfollowed := true, recurses := true, apart := false, narrowed := true }
def SpansOrderUptoSaid : Prop := spansOrderUptoRow.holds Try.pinned (OpenSpec.upto spansOrderSpec)

/-- 'spoorlaw03.SpansField', WHERE WHAT IT READS IS OF BULK AT MOST 1048576: true; the input reads as it did. -/
def spansFieldUptoRow : OpenClaim := { program := "ytnfagkcmcliagaa", sum := "c9b84ff115986650ad29f075cef8cdb7eb5d0e3565a03edc7677a05addfd2342", func := "spoor/spoorlaw03.SpansField", spec := "spansField", inPlace := ["internal/abi.NoEscape"], unfollowed := true, recurses := true, apart := false, narrowed := true }
def SpansFieldUptoSaid : Prop := spansFieldUptoRow.holds Try.pinned (OpenSpec.upto spansFieldSpec)

/-- 'spoorlaw03.SpansParts', WHERE WHAT IT READS IS OF BULK AT MOST 1048576: true; the input reads as it did. -/
def spansPartsUptoRow : OpenClaim := { program := "ytnfagkcmcliagaa", sum := "c9b84ff115986650ad29f075cef8cdb7eb5d0e3565a03edc7677a05addfd2342", func := "spoor/spoorlaw03.SpansParts", spec := "spansParts", inPlace := ["internal/abi.NoEscape"], unfollowed := true, recurses := true, apart := false, narrowed := true }
def SpansPartsUptoSaid : Prop := spansPartsUptoRow.holds Try.pinned (OpenSpec.upto spansPartsSpec)

end Rows
end Go.Proofs.Ytnfagkcmcliagaa
