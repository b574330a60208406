/-
  No cell of these rows narrows 'for every input' (looked for: loops, veiled, ifaces, maps, wideKeys, modest, calm, conditions, laid).
  DERIVED. THE GIVEN ROWS OF THIS SEAT. 8 by the template 'for every input the law returns true; each argument reads behind the call as it read before'; 0 by the template 'total and deterministic' (their statements: YtanaoepakllohaaTotals.lean).
  GIVEN WITH THE SEED: the statements are not yours to turn. If you find one false, say at which input.
  Laid BY PROGRAM, IN A SANDBOX (cutbox-rows.mjs): the forced cells as the released guide's own fill.sh prints them over the translation e929ec622159829b… (all of the seat's roots in one cut). By AI agents, Wed Nov 11 2026. No macro, syntax, notation, axiom, sorry.
-/
import Derived.Test.YtanaoepakllohaaChecked
import GoSem.Claim
import GoSem.ClaimJoined
import GoSem.ClaimMapViews
import Derived.JoinedTies
import Derived.KernelRfl
namespace Go.Proofs.Ytanaoepakllohaa
/- THE CELL 'sum', in the pinned program and in every row, IS THE sha256 OF THE DUMP (.gsa) THAT YtanaoepakllohaaProg.lean LOADS. Nothing in Lean hashes anything: it is a label: what it is worth is what the hold of that sum in a sandbox is worth. -/
noncomputable def Try.pinned : Pinned := { name := "ytanaoepakllohaa", sum := "e929ec622159829b938922bab7e974ff23145988bfb997616f5c83684ea80f4a", checked := Try.checked }
namespace Rows
def none {H : Type} : Left H := { results := [], args := [] }

/-- 'spoorlaw10.TablesBuild': WHATEVER THE INPUT: true; the input reads as it did. -/
def tablesBuildSpec : ChangeSpec := { name := "tablesBuild", fn := fun _ => fun
  | [d] => { results := [.lit (.bool true)], args := [d] }
  | _ => none }
def tablesBuildRow : OpenClaim := { program := "ytanaoepakllohaa", sum := "e929ec622159829b938922bab7e974ff23145988bfb997616f5c83684ea80f4a", func := "spoor/spoorlaw10.TablesBuild", spec := "tablesBuild", inPlace := ["internal/abi.NoEscape"], unfollowed := true, recurses := true, apart := false }
def TablesBuildSaid : Prop := tablesBuildRow.holds Try.pinned (OpenSpec.ofChange tablesBuildSpec)

/-- ITS FALSE NEIGHBOUR: 'it returns false'. Refute it at one input. -/
def tablesBuildWrong : ChangeSpec := { name := "tablesBuild", fn := fun _ => fun
  | [d] => { results := [.lit (.bool false)], args := [d] }
  | _ => none }
def TablesBuildWrongFalsely : Prop := tablesBuildRow.holds Try.pinned (OpenSpec.ofChange tablesBuildWrong)

/-- 'spoorlaw10.TablesAsk': WHATEVER THE INPUT: true; the input reads as it did. -/
def tablesAskSpec : ChangeSpec := { name := "tablesAsk", fn := fun _ => fun
  | [d1, d2, d3] => { results := [.lit (.bool true)], args := [d1, d2, d3] }
  | _ => none }
def tablesAskRow : OpenClaim := { program := "ytanaoepakllohaa", sum := "e929ec622159829b938922bab7e974ff23145988bfb997616f5c83684ea80f4a", func := "spoor/spoorlaw10.TablesAsk", spec := "tablesAsk", inPlace := ["internal/abi.NoEscape"], unfollowed := true, recurses := true, apart := false }
def TablesAskSaid : Prop := tablesAskRow.holds Try.pinned (OpenSpec.ofChange tablesAskSpec)

/-- ITS FALSE NEIGHBOUR: 'it returns false'. Refute it at one input. -/
def tablesAskWrong : ChangeSpec := { name := "tablesAsk", fn := fun _ => fun
  | [d1, d2, d3] => { results := [.lit (.bool false)], args := [d1, d2, d3] }
  | _ => none }
def TablesAskWrongFalsely : Prop := tablesAskRow.holds Try.pinned (OpenSpec.ofChange tablesAskWrong)

/-- 'spoorlaw10.TablesTorn': WHATEVER THE INPUT: true; the input reads as it did. -/
def tablesTornSpec : ChangeSpec := { name := "tablesTorn", fn := fun _ => fun
  | [d1, d2, d3] => { results := [.lit (.bool true)], args := [d1, d2, d3] }
  | _ => none }
def tablesTornRow : OpenClaim := { program := "ytanaoepakllohaa", sum := "e929ec622159829b938922bab7e974ff23145988bfb997616f5c83684ea80f4a", func := "spoor/spoorlaw10.TablesTorn", spec := "tablesTorn", inPlace := ["internal/abi.NoEscape"], unfollowed := true, recurses := true, apart := false }
def TablesTornSaid : Prop := tablesTornRow.holds Try.pinned (OpenSpec.ofChange tablesTornSpec)

/-- ITS FALSE NEIGHBOUR: 'it returns false'. Refute it at one input. -/
def tablesTornWrong : ChangeSpec := { name := "tablesTorn", fn := fun _ => fun
  | [d1, d2, d3] => { results := [.lit (.bool false)], args := [d1, d2, d3] }
  | _ => none }
def TablesTornWrongFalsely : Prop := tablesTornRow.holds Try.pinned (OpenSpec.ofChange tablesTornWrong)

/-- 'spoorlaw10.TablesEach': WHATEVER THE INPUT: true; the input reads as it did. -/
def tablesEachSpec : ChangeSpec := { name := "tablesEach", fn := fun _ => fun
  | [d] => { results := [.lit (.bool true)], args := [d] }
  | _ => none }
def tablesEachRow : OpenClaim := { program := "ytanaoepakllohaa", sum := "e929ec622159829b938922bab7e974ff23145988bfb997616f5c83684ea80f4a", func := "spoor/spoorlaw10.TablesEach", spec := "tablesEach", inPlace := ["internal/abi.NoEscape"], unfollowed := true, recurses := true, apart := false }
def TablesEachSaid : Prop := tablesEachRow.holds Try.pinned (OpenSpec.ofChange tablesEachSpec)

/-- ITS FALSE NEIGHBOUR: 'it returns false'. Refute it at one input. -/
def tablesEachWrong : ChangeSpec := { name := "tablesEach", fn := fun _ => fun
  | [d] => { results := [.lit (.bool false)], args := [d] }
  | _ => none }
def TablesEachWrongFalsely : Prop := tablesEachRow.holds Try.pinned (OpenSpec.ofChange tablesEachWrong)

/-- 'spoorlaw10.TablesOpen': WHATEVER THE INPUT: true; the input reads as it did. -/
def tablesOpenSpec : ChangeSpec := { name := "tablesOpen", fn := fun _ => fun
  | [d1, d2, d3] => { results := [.lit (.bool true)], args := [d1, d2, d3] }
  | _ => none }
def tablesOpenRow : OpenClaim := { program := "ytanaoepakllohaa", sum := "e929ec622159829b938922bab7e974ff23145988bfb997616f5c83684ea80f4a", func := "spoor/spoorlaw10.TablesOpen", spec := "tablesOpen", inPlace := ["internal/abi.NoEscape"], unfollowed := true, recurses := true, apart := false }
def TablesOpenSaid : Prop := tablesOpenRow.holds Try.pinned (OpenSpec.ofChange tablesOpenSpec)

/-- ITS FALSE NEIGHBOUR: 'it returns false'. Refute it at one input. -/
def tablesOpenWrong : ChangeSpec := { name := "tablesOpen", fn := fun _ => fun
  | [d1, d2, d3] => { results := [.lit (.bool false)], args := [d1, d2, d3] }
  | _ => none }
def TablesOpenWrongFalsely : Prop := tablesOpenRow.holds Try.pinned (OpenSpec.ofChange tablesOpenWrong)

/-- 'spoorlaw10.TablesBack': WHATEVER THE INPUT: true; the input reads as it did. -/
def tablesBackSpec : ChangeSpec := { name := "tablesBack", fn := fun _ => fun
  | [d1, d2] => { results := [.lit (.bool true)], args := [d1, d2] }
  | _ => none }
def tablesBackRow : OpenClaim := { program := "ytanaoepakllohaa", sum := "e929ec622159829b938922bab7e974ff23145988bfb997616f5c83684ea80f4a", func := "spoor/spoorlaw10.TablesBack", spec := "tablesBack", inPlace := ["internal/abi.NoEscape"], unfollowed := true, recurses := true, apart := false }
def TablesBackSaid : Prop := tablesBackRow.holds Try.pinned (OpenSpec.ofChange tablesBackSpec)

/-- ITS FALSE NEIGHBOUR: 'it returns false'. Refute it at one input. -/
def tablesBackWrong : ChangeSpec := { name := "tablesBack", fn := fun _ => fun
  | [d1, d2] => { results := [.lit (.bool false)], args := [d1, d2] }
  | _ => none }
def TablesBackWrongFalsely : Prop := tablesBackRow.holds Try.pinned (OpenSpec.ofChange tablesBackWrong)

/-- 'spoorlaw10.TablesParts': WHATEVER THE INPUT: true; the input reads as it did. -/
def tablesPartsSpec : ChangeSpec := { name := "tablesParts", fn := fun _ => fun
  | [d1, d2] => { results := [.lit (.bool true)], args := [d1, d2] }
  | _ => none }
def tablesPartsRow : OpenClaim := { program := "ytanaoepakllohaa", sum := "e929ec622159829b938922bab7e974ff23145988bfb997616f5c83684ea80f4a", func := "spoor/spoorlaw10.TablesParts", spec := "tablesParts", inPlace := ["internal/abi.NoEscape"], unfollowed := true, recurses := true, apart := false }
def TablesPartsSaid : Prop := tablesPartsRow.holds Try.pinned (OpenSpec.ofChange tablesPartsSpec)

/-- ITS FALSE NEIGHBOUR: 'it returns false'. Refute it at one input. -/
def tablesPartsWrong : ChangeSpec := { name := "tablesParts", fn := fun _ => fun
  | [d1, d2] => { results := [.lit (.bool false)], args := [d1, d2] }
  | _ => none }
def TablesPartsWrongFalsely : Prop := tablesPartsRow.holds Try.pinned (OpenSpec.ofChange tablesPartsWrong)

/-- 'spoorlaw10.TablesNone': WHATEVER THE INPUT: true; the input reads as it did. -/
def tablesNoneSpec : ChangeSpec := { name := "tablesNone", fn := fun _ => fun
  | [d1, d2] => { results := [.lit (.bool true)], args := [d1, d2] }
  | _ => none }
def tablesNoneRow : OpenClaim := { program := "ytanaoepakllohaa", sum := "e929ec622159829b938922bab7e974ff23145988bfb997616f5c83684ea80f4a", func := "spoor/spoorlaw10.TablesNone", spec := "tablesNone", inPlace := ["internal/abi.NoEscape"], unfollowed := true, recurses := true, apart := false }
def TablesNoneSaid : Prop := tablesNoneRow.holds Try.pinned (OpenSpec.ofChange tablesNoneSpec)

/-- ITS FALSE NEIGHBOUR: 'it returns false'. Refute it at one input. -/
def tablesNoneWrong : ChangeSpec := { name := "tablesNone", fn := fun _ => fun
  | [d1, d2] => { results := [.lit (.bool false)], args := [d1, d2] }
  | _ => none }
def TablesNoneWrongFalsely : Prop := tablesNoneRow.holds Try.pinned (OpenSpec.ofChange tablesNoneWrong)

/- THE SECOND FORM. 'bulk': how many values and letters a reading holds, each counted each time it is reached (what is shared counts as often as it is met; a slice's spare places count too). A statement '..UptoSaid' is the law's where the arguments, and the package variables that the reading takes, are together of bulk at most 1048576: NARROWER than '..Said'. Prove '..Said' where nothing that the law and all that it calls make is longer than what came in: it says more and counts as full. Else prove '..UptoSaid'. A law counts once. -/
mutual
def uptoBulk {H : Type} : DataW H → Nat
  | .lit (.string bytes) => bytes.length + 1
  | .lit _ => 1
  | .nil => 1
  | .ptr d => uptoBulk d + 1
  | .slice elems spare => uptoBulkAll elems + uptoBulkAll spare + 1
  | .agg parts => uptoBulkAll parts + 1
  | .iface _ d => uptoBulk d + 1
  | .map entries => uptoBulkEntries entries + 1
  | .held _ => 1
def uptoBulkAll {H : Type} : List (DataW H) → Nat
  | [] => 0
  | d :: r => uptoBulk d + uptoBulkAll r
def uptoBulkEntries {H : Type} : List (Lit × DataW H) → Nat
  | [] => 0
  | x :: r => uptoBulkEntry x + uptoBulkEntries r
def uptoBulkEntry {H : Type} : Lit × DataW H → Nat
  | (.string bytes, d) => bytes.length + uptoBulk d + 1
  | (_, d) => uptoBulk d + 1
 end
def uptoSmall : (H : Type) → List (DataW H) → Bool := fun _ ds => decide (uptoBulkAll ds ≤ 1048576)
def OpenSpec.upto (s : _root_.Go.ChangeSpec) : _root_.Go.OpenSpec := { _root_.Go.OpenSpec.ofChange s with cond := some uptoSmall }

/-- 'spoorlaw10.TablesBuild', WHERE WHAT IT READS IS OF BULK AT MOST 1048576: true; the input reads as it did. -/
def tablesBuildUptoRow : OpenClaim := { program := "ytanaoepakllohaa", sum := "e929ec622159829b938922bab7e974ff23145988bfb997616f5c83684ea80f4a", func := "spoor/spoorlaw10.TablesBuild", spec := "tablesBuild", inPlace := ["internal/abi.NoEscape"], unfollowed := true, recurses := true, apart := false, narrowed := true }
def TablesBuildUptoSaid : Prop := tablesBuildUptoRow.holds Try.pinned (OpenSpec.upto tablesBuildSpec)

/-- 'spoorlaw10.TablesAsk', WHERE WHAT IT READS IS OF BULK AT MOST 1048576: true; the input reads as it did. -/
def tablesAskUptoRow : OpenClaim := { program := "ytanaoepakllohaa", sum := "e929ec622159829b938922bab7e974ff23145988bfb997616f5c83684ea80f4a", func := "spoor/spoorlaw10.TablesAsk", spec := "tablesAsk", inPlace := ["internal/abi.NoEscape"], unfollowed := true, recurses := true, apart := false, narrowed := true }
def TablesAskUptoSaid : Prop := tablesAskUptoRow.holds Try.pinned (OpenSpec.upto tablesAskSpec)

/-- 'spoorlaw10.TablesTorn', WHERE WHAT IT READS IS OF BULK AT MOST 1048576: true; the input reads as it did. -/
def tablesTornUptoRow : OpenClaim := { program := "ytanaoepakllohaa", sum := "e929ec622159829b938922bab7e974ff23145988bfb997616f5c83684ea80f4a", func := "spoor/spoorlaw10.TablesTorn", spec := "tablesTorn", inPlace := ["internal/abi.NoEscape"], unfollowed := true, recurses := true, apart := false, narrowed := true }
def TablesTornUptoSaid : Prop := tablesTornUptoRow.holds Try.pinned (OpenSpec.upto tablesTornSpec)

/-- 'spoorlaw10.TablesEach', WHERE WHAT IT READS IS OF BULK AT MOST 1048576: true; the input reads as it did. -/
def tablesEachUptoRow : OpenClaim := { program := "ytanaoepakllohaa", sum := "e929ec622159829b938922bab7e974ff23145988bfb997616f5c83684ea80f4a", func := "spoor/spoorlaw10.TablesEach", spec := "tablesEach", inPlace := ["internal/abi.NoEscape"], unfollowed := true, recurses := true, apart := false, narrowed := true }
def TablesEachUptoSaid : Prop := tablesEachUptoRow.holds Try.pinned (OpenSpec.upto tablesEachSpec)

/-- 'spoorlaw10.TablesOpen', WHERE WHAT IT READS IS OF BULK AT MOST 1048576: true; the input reads as it did. -/
def tablesOpenUptoRow : OpenClaim := { program := "ytanaoepakllohaa", sum := "e929ec622159829b938922bab7e974ff23145988bfb997616f5c83684ea80f4a", func := "spoor/spoorlaw10.TablesOpen", spec := "tablesOpen", inPlace := ["internal/abi.NoEscape"], unfollowed := true, recurses := true, apart := false, narrowed := true }
def TablesOpenUptoSaid : Prop := tablesOpenUptoRow.holds Try.pinned (OpenSpec.upto tablesOpenSpec)

/-- 'spoorlaw10.TablesBack', WHERE WHAT IT READS IS OF BULK AT MOST 1048576: true; the input reads as it did. -/
def tablesBackUptoRow : OpenClaim := { program := "ytanaoepakllohaa", sum := "e929ec622159829b938922bab7e974ff23145988bfb997616f5c83684ea80f4a", func := "spoor/spoorlaw10.TablesBack", spec := "tablesBack", inPlace := ["internal/abi.NoEscape"], unfollowed := true, recurses := true, apart := false, narrowed := true }
def TablesBackUptoSaid : Prop := tablesBackUptoRow.holds Try.pinned (OpenSpec.upto tablesBackSpec)

/-- 'spoorlaw10.TablesParts', WHERE WHAT IT READS IS OF BULK AT MOST 1048576: true; the input reads as it did. -/
def tablesPartsUptoRow : OpenClaim := { program := "ytanaoepakllohaa", sum := "e929ec622159829b938922bab7e974ff23145988bfb997616f5c83684ea80f4a", func := "spoor/spoorlaw10.TablesParts", spec := "tablesParts", inPlace := ["internal/abi.NoEscape"], unfollowed := true, recurses := true, apart := false, narrowed := true }
def TablesPartsUptoSaid : Prop := tablesPartsUptoRow.holds Try.pinned (OpenSpec.upto tablesPartsSpec)

/-- 'spoorlaw10.TablesNone', WHERE WHAT IT READS IS OF BULK AT MOST 1048576: true; the input reads as it did. -/
def tablesNoneUptoRow : OpenClaim := { program := "ytanaoepakllohaa", sum := "e929ec622159829b938922bab7e974ff23145988bfb997616f5c83684ea80f4a", func := "spoor/spoorlaw10.TablesNone", spec := "tablesNone", inPlace := ["internal/abi.NoEscape"], unfollowed := true, recurses := true, apart := false, narrowed := true }
def TablesNoneUptoSaid : Prop := tablesNoneUptoRow.holds Try.pinned (OpenSpec.upto tablesNoneSpec)

end Rows
end Go.Proofs.Ytanaoepakllohaa
