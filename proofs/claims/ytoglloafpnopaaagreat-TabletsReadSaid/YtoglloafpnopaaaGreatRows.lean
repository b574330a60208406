/-
  No cell of these rows narrows 'for every input' (looked for: loops, veiled, ifaces, maps, wideKeys, modest, calm, conditions, laid).
  DERIVED. THE GIVEN ROWS OF THIS SEAT. 6 by the template 'for every input the law returns true; each argument reads behind the call as it read before'; 0 by the template 'total and deterministic' (their statements: YtoglloafpnopaaaGreatTotals.lean).
  GIVEN WITH THE SEED: the statements are not yours to turn. If you find one false, say at which input.
  Laid BY PROGRAM, IN A SANDBOX (cutbox-rows.mjs): the forced cells as the released guide's own fill.sh prints them over the translation 1fea84e726b4a839… (all of the seat's roots in one cut). By AI agents, Wed Nov 11 2026. No macro, syntax, notation, axiom, sorry.
-/
import Derived.Test.YtoglloafpnopaaaGreatChecked
import GoSem.Claim
import GoSem.ClaimJoined
import GoSem.ClaimMapViews
import Derived.JoinedTies
import Derived.KernelRfl
namespace Go.Proofs.YtoglloafpnopaaaGreat
/- THE CELL 'sum', in the pinned program and in every row, IS THE sha256 OF THE DUMP (.gsa) THAT YtoglloafpnopaaaGreatProg.lean LOADS. Nothing in Lean hashes anything: it is a label: what it is worth is what the hold of that sum in a sandbox is worth. -/
noncomputable def Tryz.pinned : Pinned := { name := "ytoglloafpnopaaagreat", sum := "1fea84e726b4a839a1319e45fb4f89698f2245898d6bd2d80ffd5330c30c2078", checked := Tryz.checked }
namespace Rows
def none {H : Type} : Left H := { results := [], args := [] }

/-- 'spoorlaw19.TabletsMerge': WHATEVER THE INPUT: true; the input reads as it did. -/
def tabletsMergeSpec : ChangeSpec := { name := "tabletsMerge", fn := fun _ => fun
  | [d1, d2] => { results := [.lit (.bool true)], args := [d1, d2] }
  | _ => none }
def tabletsMergeRow : OpenClaim := { program := "ytoglloafpnopaaagreat", sum := "1fea84e726b4a839a1319e45fb4f89698f2245898d6bd2d80ffd5330c30c2078", func := "spoor/spoorlaw19.TabletsMerge", spec := "tabletsMerge", inPlace := ["slices.overlaps[spoor/api.Cell]", "slices.overlaps[spoor/memory.page]", "internal/abi.NoEscape"], unfollowed := true, recurses := true, apart := false }
def TabletsMergeSaid : Prop := tabletsMergeRow.holds Tryz.pinned (OpenSpec.ofChange tabletsMergeSpec)

/-- ITS FALSE NEIGHBOUR: 'it returns false'. Refute it at one input. -/
def tabletsMergeWrong : ChangeSpec := { name := "tabletsMerge", fn := fun _ => fun
  | [d1, d2] => { results := [.lit (.bool false)], args := [d1, d2] }
  | _ => none }
def TabletsMergeWrongFalsely : Prop := tabletsMergeRow.holds Tryz.pinned (OpenSpec.ofChange tabletsMergeWrong)

/-- 'spoorlaw19.TabletsCompact': WHATEVER THE INPUT: true; the input reads as it did. -/
def tabletsCompactSpec : ChangeSpec := { name := "tabletsCompact", fn := fun _ => fun
  | [d1, d2] => { results := [.lit (.bool true)], args := [d1, d2] }
  | _ => none }
def tabletsCompactRow : OpenClaim := { program := "ytoglloafpnopaaagreat", sum := "1fea84e726b4a839a1319e45fb4f89698f2245898d6bd2d80ffd5330c30c2078", func := "spoor/spoorlaw19.TabletsCompact", spec := "tabletsCompact", inPlace := ["slices.overlaps[spoor/api.Cell]", "slices.overlaps[spoor/memory.page]", "internal/abi.NoEscape"], unfollowed := true, recurses := true, apart := false }
def TabletsCompactSaid : Prop := tabletsCompactRow.holds Tryz.pinned (OpenSpec.ofChange tabletsCompactSpec)

/-- ITS FALSE NEIGHBOUR: 'it returns false'. Refute it at one input. -/
def tabletsCompactWrong : ChangeSpec := { name := "tabletsCompact", fn := fun _ => fun
  | [d1, d2] => { results := [.lit (.bool false)], args := [d1, d2] }
  | _ => none }
def TabletsCompactWrongFalsely : Prop := tabletsCompactRow.holds Tryz.pinned (OpenSpec.ofChange tabletsCompactWrong)

/-- 'spoorlaw19.TabletsStretch': WHATEVER THE INPUT: true; the input reads as it did. -/
def tabletsStretchSpec : ChangeSpec := { name := "tabletsStretch", fn := fun _ => fun
  | [d1, d2, d3] => { results := [.lit (.bool true)], args := [d1, d2, d3] }
  | _ => none }
def tabletsStretchRow : OpenClaim := { program := "ytoglloafpnopaaagreat", sum := "1fea84e726b4a839a1319e45fb4f89698f2245898d6bd2d80ffd5330c30c2078", func := "spoor/spoorlaw19.TabletsStretch", spec := "tabletsStretch", inPlace := ["slices.overlaps[spoor/api.Cell]", "slices.overlaps[spoor/memory.page]", "internal/abi.NoEscape"], unfollowed := true, recurses := true, apart := false }
def TabletsStretchSaid : Prop := tabletsStretchRow.holds Tryz.pinned (OpenSpec.ofChange tabletsStretchSpec)

/-- ITS FALSE NEIGHBOUR: 'it returns false'. Refute it at one input. -/
def tabletsStretchWrong : ChangeSpec := { name := "tabletsStretch", fn := fun _ => fun
  | [d1, d2, d3] => { results := [.lit (.bool false)], args := [d1, d2, d3] }
  | _ => none }
def TabletsStretchWrongFalsely : Prop := tabletsStretchRow.holds Tryz.pinned (OpenSpec.ofChange tabletsStretchWrong)

/-- 'spoorlaw19.TabletsHalves': WHATEVER THE INPUT: true; the input reads as it did. -/
def tabletsHalvesSpec : ChangeSpec := { name := "tabletsHalves", fn := fun _ => fun
  | [d1, d2, d3] => { results := [.lit (.bool true)], args := [d1, d2, d3] }
  | _ => none }
def tabletsHalvesRow : OpenClaim := { program := "ytoglloafpnopaaagreat", sum := "1fea84e726b4a839a1319e45fb4f89698f2245898d6bd2d80ffd5330c30c2078", func := "spoor/spoorlaw19.TabletsHalves", spec := "tabletsHalves", inPlace := ["slices.overlaps[spoor/api.Cell]", "slices.overlaps[spoor/memory.page]", "internal/abi.NoEscape"], unfollowed := true, recurses := true, apart := false }
def TabletsHalvesSaid : Prop := tabletsHalvesRow.holds Tryz.pinned (OpenSpec.ofChange tabletsHalvesSpec)

/-- ITS FALSE NEIGHBOUR: 'it returns false'. Refute it at one input. -/
def tabletsHalvesWrong : ChangeSpec := { name := "tabletsHalves", fn := fun _ => fun
  | [d1, d2, d3] => { results := [.lit (.bool false)], args := [d1, d2, d3] }
  | _ => none }
def TabletsHalvesWrongFalsely : Prop := tabletsHalvesRow.holds Tryz.pinned (OpenSpec.ofChange tabletsHalvesWrong)

/-- 'spoorlaw19.TabletsRead': WHATEVER THE INPUT: true; the input reads as it did. -/
def tabletsReadSpec : ChangeSpec := { name := "tabletsRead", fn := fun _ => fun
  | [d1, d2] => { results := [.lit (.bool true)], args := [d1, d2] }
  | _ => none }
def tabletsReadRow : OpenClaim := { program := "ytoglloafpnopaaagreat", sum := "1fea84e726b4a839a1319e45fb4f89698f2245898d6bd2d80ffd5330c30c2078", func := "spoor/spoorlaw19.TabletsRead", spec := "tabletsRead", inPlace := ["slices.overlaps[spoor/api.Cell]", "slices.overlaps[spoor/memory.page]", "internal/abi.NoEscape", "internal/bytealg.IndexByteString", "internal/bytealg.IndexString"], unfollowed := true, recurses := true, named := ["internal/bytealg.MaxLen"], apart := false }
def TabletsReadSaid : Prop := tabletsReadRow.holds Tryz.pinned (OpenSpec.ofChange tabletsReadSpec)

/-- ITS FALSE NEIGHBOUR: 'it returns false'. Refute it at one input. -/
def tabletsReadWrong : ChangeSpec := { name := "tabletsRead", fn := fun _ => fun
  | [d1, d2] => { results := [.lit (.bool false)], args := [d1, d2] }
  | _ => none }
def TabletsReadWrongFalsely : Prop := tabletsReadRow.holds Tryz.pinned (OpenSpec.ofChange tabletsReadWrong)

/-- 'spoorlaw19.TabletsNone': WHATEVER THE INPUT: true; the input reads as it did. -/
def tabletsNoneSpec : ChangeSpec := { name := "tabletsNone", fn := fun _ => fun
  | [d1, d2, d3] => { results := [.lit (.bool true)], args := [d1, d2, d3] }
  | _ => none }
def tabletsNoneRow : OpenClaim := { program := "ytoglloafpnopaaagreat", sum := "1fea84e726b4a839a1319e45fb4f89698f2245898d6bd2d80ffd5330c30c2078", func := "spoor/spoorlaw19.TabletsNone", spec := "tabletsNone", inPlace := ["slices.overlaps[spoor/api.Cell]", "slices.overlaps[spoor/memory.page]", "internal/abi.NoEscape", "internal/bytealg.IndexByteString", "internal/bytealg.IndexString"], unfollowed := true, recurses := true, named := ["internal/bytealg.MaxLen"], apart := false }
def TabletsNoneSaid : Prop := tabletsNoneRow.holds Tryz.pinned (OpenSpec.ofChange tabletsNoneSpec)

/-- ITS FALSE NEIGHBOUR: 'it returns false'. Refute it at one input. -/
def tabletsNoneWrong : ChangeSpec := { name := "tabletsNone", fn := fun _ => fun
  | [d1, d2, d3] => { results := [.lit (.bool false)], args := [d1, d2, d3] }
  | _ => none }
def TabletsNoneWrongFalsely : Prop := tabletsNoneRow.holds Tryz.pinned (OpenSpec.ofChange tabletsNoneWrong)

/- THE SECOND FORM. 'bulk': how many values and letters a reading holds, each counted each time it is reached (what is shared counts as often as it is met; a slice's spare places count too). A statement '..UptoSaid' is the law's where the arguments, and the package variables that the reading takes, are together of bulk at most 1048576: NARROWER than '..Said'. Prove '..Said' where nothing that the law and all that it calls make is longer than what came in: it says more and counts as full. Else prove '..UptoSaid'. A law counts once. -/
mutual
def uptoBulk {H : Type} : DataW H → Nat
  | .lit (.string bytes) => bytes.length + 1
  | .lit _ => 1
  | .nil => 1
  | .ptr d => uptoBulk d + 1
  | .slice elems spare => uptoBulkAll elems + uptoBulkAll spare + 1
  | .agg parts => uptoBulkAll parts + 1
  | .iface _ d => uptoBulk d + 1
  | .map entries => uptoBulkEntries entries + 1
  | .held _ => 1
def uptoBulkAll {H : Type} : List (DataW H) → Nat
  | [] => 0
  | d :: r => uptoBulk d + uptoBulkAll r
def uptoBulkEntries {H : Type} : List (Lit × DataW H) → Nat
  | [] => 0
  | x :: r => uptoBulkEntry x + uptoBulkEntries r
def uptoBulkEntry {H : Type} : Lit × DataW H → Nat
  | (.string bytes, d) => bytes.length + uptoBulk d + 1
  | (_, d) => uptoBulk d + 1
 end
def uptoSmall : (H : Type) → List (DataW H) → Bool := fun _ ds => decide (uptoBulkAll ds ≤ 1048576)
def OpenSpec.upto (s : _root_.Go.ChangeSpec) : _root_.Go.OpenSpec := { _root_.Go.OpenSpec.ofChange s with cond := some uptoSmall }

/-- 'spoorlaw19.TabletsMerge', WHERE WHAT IT READS IS OF BULK AT MOST 1048576: true; the input reads as it did. -/
def tabletsMergeUptoRow : OpenClaim := { program := "ytoglloafpnopaaagreat", sum := "1fea84e726b4a839a1319e45fb4f89698f2245898d6bd2d80ffd5330c30c2078", func := "spoor/spoorlaw19.TabletsMerge", spec := "tabletsMerge", inPlace := ["slices.overlaps[spoor/api.Cell]", "slices.overlaps[spoor/memory.page]", "internal/abi.NoEscape"], unfollowed := true, recurses := true, apart := false, narrowed := true }
def TabletsMergeUptoSaid : Prop := tabletsMergeUptoRow.holds Tryz.pinned (OpenSpec.upto tabletsMergeSpec)

/-- 'spoorlaw19.TabletsCompact', WHERE WHAT IT READS IS OF BULK AT MOST 1048576: true; the input reads as it did. -/
def tabletsCompactUptoRow : OpenClaim := { program := "ytoglloafpnopaaagreat", sum := "1fea84e726b4a839a1319e45fb4f89698f2245898d6bd2d80ffd5330c30c2078", func := "spoor/spoorlaw19.TabletsCompact", spec := "tabletsCompact", inPlace := ["slices.overlaps[spoor/api.Cell]", "slices.overlaps[spoor/memory.page]", "internal/abi.NoEscape"], unfollowed := true, recurses := true, apart := false, narrowed := true }
def TabletsCompactUptoSaid : Prop := tabletsCompactUptoRow.holds Tryz.pinned (OpenSpec.upto tabletsCompactSpec)

/-- 'spoorlaw19.TabletsStretch', WHERE WHAT IT READS IS OF BULK AT MOST 1048576: true; the input reads as it did. -/
def tabletsStretchUptoRow : OpenClaim := { program := "ytoglloafpnopaaagreat", sum := "1fea84e726b4a839a1319e45fb4f89698f2245898d6bd2d80ffd5330c30c2078", func := "spoor/spoorlaw19.TabletsStretch", spec := "tabletsStretch", inPlace := ["slices.overlaps[spoor/api.Cell]", "slices.overlaps[spoor/memory.page]", "internal/abi.NoEscape"], unfollowed := true, recurses := true, apart := false, narrowed := true }
def TabletsStretchUptoSaid : Prop := tabletsStretchUptoRow.holds Tryz.pinned (OpenSpec.upto tabletsStretchSpec)

/-- 'spoorlaw19.TabletsHalves', WHERE WHAT IT READS IS OF BULK AT MOST 1048576: true; the input reads as it did. -/
def tabletsHalvesUptoRow : OpenClaim := { program := "ytoglloafpnopaaagreat", sum := "1fea84e726b4a839a1319e45fb4f89698f2245898d6bd2d80ffd5330c30c2078", func := "spoor/spoorlaw19.TabletsHalves", spec := "tabletsHalves", inPlace := ["slices.overlaps[spoor/api.Cell]", "slices.overlaps[spoor/memory.page]", "internal/abi.NoEscape"], unfollowed := true, recurses := true, apart := false, narrowed := true }
def TabletsHalvesUptoSaid : Prop := tabletsHalvesUptoRow.holds Tryz.pinned (OpenSpec.upto tabletsHalvesSpec)

/-- 'spoorlaw19.TabletsRead', WHERE WHAT IT READS IS OF BULK AT MOST 1048576: true; the input reads as it did. -/
def tabletsReadUptoRow : OpenClaim := { program := "ytoglloafpnopaaagreat", sum := "1fea84e726b4a839a1319e45fb4f89698f2245898d6bd2d80ffd5330c30c2078", func := "spoor/spoorlaw19.TabletsRead", spec := "tabletsRead", inPlace := ["slices.overlaps[spoor/api.Cell]", "slices.overlaps[spoor/memory.page]", "internal/abi.NoEscape", "internal/bytealg.IndexByteString", "internal/bytealg.IndexString"], unfollowed := true, recurses := true, named := ["internal/bytealg.MaxLen"], apart := false, narrowed := true }
def TabletsReadUptoSaid : Prop := tabletsReadUptoRow.holds Tryz.pinned (OpenSpec.upto tabletsReadSpec)

/-- 'spoorlaw19.TabletsNone', WHERE WHAT IT READS IS OF BULK AT MOST 1048576: true; the input reads as it did. -/
def tabletsNoneUptoRow : OpenClaim := { program := "ytoglloafpnopaaagreat", sum := "1fea84e726b4a839a1319e45fb4f89698f2245898d6bd2d80ffd5330c30c2078", func := "spoor/spoorlaw19.TabletsNone", spec := "tabletsNone", inPlace := ["slices.overlaps[spoor/api.Cell]", "slices.overlaps[spoor/memory.page]", "internal/abi.NoEscape", "internal/bytealg.IndexByteString", "internal/bytealg.IndexString"], unfollowed := true, recurses := true, named := ["internal/bytealg.MaxLen"], apart := false, narrowed := true }
def TabletsNoneUptoSaid : Prop := tabletsNoneUptoRow.holds Tryz.pinned (OpenSpec.upto tabletsNoneSpec)

end Rows
end Go.Proofs.YtoglloafpnopaaaGreat
