/-
  No cell of these rows narrows 'for every input' (looked for: loops, veiled, ifaces, maps, wideKeys, modest, calm, conditions, laid).
  DERIVED. THE GIVEN ROWS OF THIS SEAT. 5 by the template 'for every input the law returns true; each argument reads behind the call as it read before'; 0 by the template 'total and deterministic' (their statements: YtpcapifjbhaeeaaTotals.lean).
  GIVEN WITH THE SEED: the statements are not yours to turn. If you find one false, say at which input.
  Laid BY PROGRAM, IN A SANDBOX (cutbox-rows.mjs): the forced cells as the released guide's own fill.sh prints them over the translation 6a3f0de0f6b5c0ad… (all of the seat's roots in one cut). By AI agents, Wed Nov 11 2026. No macro, syntax, notation, axiom, sorry.
-/
import Derived.Test.YtpcapifjbhaeeaaChecked
import GoSem.Claim
import GoSem.ClaimJoined
import GoSem.ClaimMapViews
import Derived.JoinedTies
import Derived.KernelRfl
namespace Go.Proofs.Ytpcapifjbhaeeaa
/- THE CELL 'sum', in the pinned program and in every row, IS THE sha256 OF THE DUMP (.gsa) THAT YtpcapifjbhaeeaaProg.lean LOADS. Nothing in Lean hashes anything: it is a label: what it is worth is what the hold of that sum in a sandbox is worth. -/
noncomputable def Try.pinned : Pinned := { name := "ytpcapifjbhaeeaa", sum := "6a3f0de0f6b5c0ad367bd99ff7a74f2edb8632357d4bd699c2057438da2d2ecd", checked := Try.checked }
namespace Rows
def none {H : Type} : Left H := { results := [], args := [] }

/-- 'spoorlaw15.MemoryPlays': WHATEVER THE INPUT: true; the input reads as it did. -/
def memoryPlaysSpec : ChangeSpec := { name := "memoryPlays", fn := fun _ => fun
  | [d1, d2, d3] => { results := [.lit (.bool true)], args := [d1, d2, d3] }
  | _ => none }
def memoryPlaysRow : OpenClaim := { program := "ytpcapifjbhaeeaa", sum := "6a3f0de0f6b5c0ad367bd99ff7a74f2edb8632357d4bd699c2057438da2d2ecd", func := "spoor/spoorlaw15.MemoryPlays", spec := "memoryPlays", inPlace := ["slices.overlaps[spoor/api.Cell]", "slices.overlaps[spoor/memory.page]"], unfollowed := true, recurses := true, apart := false }
def MemoryPlaysSaid : Prop := memoryPlaysRow.holds Try.pinned (OpenSpec.ofChange memoryPlaysSpec)

/-- ITS FALSE NEIGHBOUR: 'it returns false'. Refute it at one input. -/
def memoryPlaysWrong : ChangeSpec := { name := "memoryPlays", fn := fun _ => fun
  | [d1, d2, d3] => { results := [.lit (.bool false)], args := [d1, d2, d3] }
  | _ => none }
def MemoryPlaysWrongFalsely : Prop := memoryPlaysRow.holds Try.pinned (OpenSpec.ofChange memoryPlaysWrong)

/-- 'spoorlaw15.MemoryCut': WHATEVER THE INPUT: true; the input reads as it did. -/
def memoryCutSpec : ChangeSpec := { name := "memoryCut", fn := fun _ => fun
  | [d1, d2, d3] => { results := [.lit (.bool true)], args := [d1, d2, d3] }
  | _ => none }
def memoryCutRow : OpenClaim := { program := "ytpcapifjbhaeeaa", sum := "6a3f0de0f6b5c0ad367bd99ff7a74f2edb8632357d4bd699c2057438da2d2ecd", func := "spoor/spoorlaw15.MemoryCut", spec := "memoryCut", inPlace := ["slices.overlaps[spoor/api.Cell]", "slices.overlaps[spoor/memory.page]"], unfollowed := true, recurses := true, apart := false }
def MemoryCutSaid : Prop := memoryCutRow.holds Try.pinned (OpenSpec.ofChange memoryCutSpec)

/-- ITS FALSE NEIGHBOUR: 'it returns false'. Refute it at one input. -/
def memoryCutWrong : ChangeSpec := { name := "memoryCut", fn := fun _ => fun
  | [d1, d2, d3] => { results := [.lit (.bool false)], args := [d1, d2, d3] }
  | _ => none }
def MemoryCutWrongFalsely : Prop := memoryCutRow.holds Try.pinned (OpenSpec.ofChange memoryCutWrong)

/-- 'spoorlaw15.MemoryOrder': WHATEVER THE INPUT: true; the input reads as it did. -/
def memoryOrderSpec : ChangeSpec := { name := "memoryOrder", fn := fun _ => fun
  | [d1, d2, d3] => { results := [.lit (.bool true)], args := [d1, d2, d3] }
  | _ => none }
def memoryOrderRow : OpenClaim := { program := "ytpcapifjbhaeeaa", sum := "6a3f0de0f6b5c0ad367bd99ff7a74f2edb8632357d4bd699c2057438da2d2ecd", func := "spoor/spoorlaw15.MemoryOrder", spec := "memoryOrder", inPlace := ["slices.overlaps[spoor/api.Cell]", "slices.overlaps[spoor/memory.page]"], unfollowed := true, recurses := true, apart := false }
def MemoryOrderSaid : Prop := memoryOrderRow.holds Try.pinned (OpenSpec.ofChange memoryOrderSpec)

/-- ITS FALSE NEIGHBOUR: 'it returns false'. Refute it at one input. -/
def memoryOrderWrong : ChangeSpec := { name := "memoryOrder", fn := fun _ => fun
  | [d1, d2, d3] => { results := [.lit (.bool false)], args := [d1, d2, d3] }
  | _ => none }
def MemoryOrderWrongFalsely : Prop := memoryOrderRow.holds Try.pinned (OpenSpec.ofChange memoryOrderWrong)

/-- 'spoorlaw15.MemoryParts': WHATEVER THE INPUT: true; the input reads as it did. -/
def memoryPartsSpec : ChangeSpec := { name := "memoryParts", fn := fun _ => fun
  | [d1, d2] => { results := [.lit (.bool true)], args := [d1, d2] }
  | _ => none }
def memoryPartsRow : OpenClaim := { program := "ytpcapifjbhaeeaa", sum := "6a3f0de0f6b5c0ad367bd99ff7a74f2edb8632357d4bd699c2057438da2d2ecd", func := "spoor/spoorlaw15.MemoryParts", spec := "memoryParts", inPlace := ["slices.overlaps[spoor/api.Cell]", "slices.overlaps[spoor/memory.page]"], unfollowed := true, recurses := true, apart := false }
def MemoryPartsSaid : Prop := memoryPartsRow.holds Try.pinned (OpenSpec.ofChange memoryPartsSpec)

/-- ITS FALSE NEIGHBOUR: 'it returns false'. Refute it at one input. -/
def memoryPartsWrong : ChangeSpec := { name := "memoryParts", fn := fun _ => fun
  | [d1, d2] => { results := [.lit (.bool false)], args := [d1, d2] }
  | _ => none }
def MemoryPartsWrongFalsely : Prop := memoryPartsRow.holds Try.pinned (OpenSpec.ofChange memoryPartsWrong)

/-- 'spoorlaw15.MemoryMerges': WHATEVER THE INPUT: true; the input reads as it did. -/
def memoryMergesSpec : ChangeSpec := { name := "memoryMerges", fn := fun _ => fun
  | [d1, d2] => { results := [.lit (.bool true)], args := [d1, d2] }
  | _ => none }
def memoryMergesRow : OpenClaim := { program := "ytpcapifjbhaeeaa", sum := "6a3f0de0f6b5c0ad367bd99ff7a74f2edb8632357d4bd699c2057438da2d2ecd", func := "spoor/spoorlaw15.MemoryMerges", spec := "memoryMerges", inPlace := ["slices.overlaps[spoor/api.Cell]", "slices.overlaps[spoor/memory.page]"], unfollowed := true, recurses := true, apart := false }
def MemoryMergesSaid : Prop := memoryMergesRow.holds Try.pinned (OpenSpec.ofChange memoryMergesSpec)

/-- ITS FALSE NEIGHBOUR: 'it returns false'. Refute it at one input. -/
def memoryMergesWrong : ChangeSpec := { name := "memoryMerges", fn := fun _ => fun
  | [d1, d2] => { results := [.lit (.bool false)], args := [d1, d2] }
  | _ => none }
def MemoryMergesWrongFalsely : Prop := memoryMergesRow.holds Try.pinned (OpenSpec.ofChange memoryMergesWrong)

/- THE SECOND FORM. 'bulk': how many values and letters a reading holds, each counted each time it is reached (what is shared counts as often as it is met; a slice's spare places count too). A statement '..UptoSaid' is the law's where the arguments, and the package variables that the reading takes, are together of bulk at most 1048576: NARROWER than '..Said'. Prove '..Said' where nothing that the law and all that it calls make is longer than what came in: it says more and counts as full. Else prove '..UptoSaid'. A law counts once. -/
mutual
def uptoBulk {H : Type} : DataW H → Nat
  | .lit (.string bytes) => bytes.length + 1
  | .lit _ => 1
  | .nil => 1
  | .ptr d => uptoBulk d + 1
  | .slice elems spare => uptoBulkAll elems + uptoBulkAll spare + 1
  | .agg parts => uptoBulkAll parts + 1
  | .iface _ d => uptoBulk d + 1
  | .map entries => uptoBulkEntries entries + 1
  | .held _ => 1
def uptoBulkAll {H : Type} : List (DataW H) → Nat
  | [] => 0
  | d :: r => uptoBulk d + uptoBulkAll r
def uptoBulkEntries {H : Type} : List (Lit × DataW H) → Nat
  | [] => 0
  | x :: r => uptoBulkEntry x + uptoBulkEntries r
def uptoBulkEntry {H : Type} : Lit × DataW H → Nat
  | (.string bytes, d) => bytes.length + uptoBulk d + 1
  | (_, d) => uptoBulk d + 1
 end
def uptoSmall : (H : Type) → List (DataW H) → Bool := fun _ ds => decide (uptoBulkAll ds ≤ 1048576)
def OpenSpec.upto (s : _root_.Go.ChangeSpec) : _root_.Go.OpenSpec := { _root_.Go.OpenSpec.ofChange s with cond := some uptoSmall }

/-- 'spoorlaw15.MemoryPlays', WHERE WHAT IT READS IS OF BULK AT MOST 1048576: true; the input reads as it did. -/
def memoryPlaysUptoRow : OpenClaim := { program := "ytpcapifjbhaeeaa", sum := "6a3f0de0f6b5c0ad367bd99ff7a74f2edb8632357d4bd699c2057438da2d2ecd", func := "spoor/spoorlaw15.MemoryPlays", spec := "memoryPlays", inPlace := ["slices.overlaps[spoor/api.Cell]", "slices.overlaps[spoor/memory.page]"], unfollowed := true, recurses := true, apart := false, narrowed := true }
def MemoryPlaysUptoSaid : Prop := memoryPlaysUptoRow.holds Try.pinned (OpenSpec.upto memoryPlaysSpec)

/-- 'spoorlaw15.MemoryCut', WHERE WHAT IT READS IS OF BULK AT MOST 1048576: true; the input reads as it did. -/
def memoryCutUptoRow : OpenClaim := { program := "ytpcapifjbhaeeaa", sum := "6a3f0de0f6b5c0ad367bd99ff7a74f2edb8632357d4bd699c2057438da2d2ecd", func := "spoor/spoorlaw15.MemoryCut", spec := "memoryCut", inPlace := ["slices.overlaps[spoor/api.Cell]", "slices.overlaps[spoor/memory.page]"], unfollowed := true, recurses := true, apart := false, narrowed := true }
def MemoryCutUptoSaid : Prop := memoryCutUptoRow.holds Try.pinned (OpenSpec.upto memoryCutSpec)

/-- 'spoorlaw15.MemoryOrder', WHERE WHAT IT READS IS OF BULK AT MOST 1048576: true; the input reads as it did. -/
def memoryOrderUptoRow : OpenClaim := { program := "ytpcapifjbhaeeaa", sum := "6a3f0de0f6b5c0ad367bd99ff7a74f2edb8632357d4bd699c2057438da2d2ecd", func := "spoor/spoorlaw15.MemoryOrder", spec := "memoryOrder", inPlace := ["slices.overlaps[spoor/api.Cell]", "slices.overlaps[spoor/memory.page]"], unfollowed := true, recurses := true, apart := false, narrowed := true }
def MemoryOrderUptoSaid : Prop := memoryOrderUptoRow.holds Try.pinned (OpenSpec.upto memoryOrderSpec)

/-- 'spoorlaw15.MemoryParts', WHERE WHAT IT READS IS OF BULK AT MOST 1048576: true; the input reads as it did. -/
def memoryPartsUptoRow : OpenClaim := { program := "ytpcapifjbhaeeaa", sum := "6a3f0de0f6b5c0ad367bd99ff7a74f2edb8632357d4bd699c2057438da2d2ecd", func := "spoor/spoorlaw15.MemoryParts", spec := "memoryParts", inPlace := ["slices.overlaps[spoor/api.Cell]", "slices.overlaps[spoor/memory.page]"], unfollowed := true, recurses := true, apart := false, narrowed := true }
def MemoryPartsUptoSaid : Prop := memoryPartsUptoRow.holds Try.pinned (OpenSpec.upto memoryPartsSpec)

/-- 'spoorlaw15.MemoryMerges', WHERE WHAT IT READS IS OF BULK AT MOST 1048576: true; the input reads as it did. -/
def memoryMergesUptoRow : OpenClaim := { program := "ytpcapifjbhaeeaa", sum := "6a3f0de0f6b5c0ad367bd99ff7a74f2edb8632357d4bd699c2057438da2d2ecd", func := "spoor/spoorlaw15.MemoryMerges", spec := "memoryMerges", inPlace := ["slices.overlaps[spoor/api.Cell]", "slices.overlaps[spoor/memory.page]"], unfollowed := true, recurses := true, apart := false, narrowed := true }
def MemoryMergesUptoSaid : Prop := memoryMergesUptoRow.holds Try.pinned (OpenSpec.upto memoryMergesSpec)

end Rows
end Go.Proofs.Ytpcapifjbhaeeaa
