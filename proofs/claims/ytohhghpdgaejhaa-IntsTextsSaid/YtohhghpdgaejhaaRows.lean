/-
  No cell of these rows narrows 'for every input' (looked for: loops, veiled, ifaces, maps, wideKeys, modest, calm, conditions, laid).
  DERIVED. THE GIVEN ROWS OF THIS SEAT. 7 by the template 'for every input the law returns true; each argument reads behind the call as it read before'; 0 by the template 'total and deterministic' (their statements: YtohhghpdgaejhaaTotals.lean).
  GIVEN WITH THE SEED: the statements are not yours to turn. If you find one false, say at which input.
  Laid BY PROGRAM, IN A SANDBOX (cutbox-rows.mjs): the forced cells as the released guide's own fill.sh prints them over the translation 2c4ad7d80e561ef1… (all of the seat's roots in one cut). By AI agents, Wed Nov 11 2026. No macro, syntax, notation, axiom, sorry.
-/
import Derived.Test.YtohhghpdgaejhaaChecked
import GoSem.Claim
import GoSem.ClaimJoined
import GoSem.ClaimMapViews
import Derived.JoinedTies
import Derived.KernelRfl
namespace Go.Proofs.Ytohhghpdgaejhaa
/- THE CELL 'sum', in the pinned program and in every row, IS THE sha256 OF THE DUMP (.gsa) THAT YtohhghpdgaejhaaProg.lean LOADS. Nothing in Lean hashes anything: it is a label: what it is worth is what the hold of that sum in a sandbox is worth. -/
noncomputable def Try.pinned : Pinned := { name := "ytohhghpdgaejhaa", sum := "2c4ad7d80e561ef10d896c18ff3b1296cb09dbc2f2cd76ce93a3330a01092f39", checked := Try.checked }
namespace Rows
def none {H : Type} : Left H := { results := [], args := [] }

/-- 'spoorlaw01.IntsPut': WHATEVER THE INPUT: true; the input reads as it did. -/
def intsPutSpec : ChangeSpec := { name := "intsPut", fn := fun _ => fun
  | [d] => { results := [.lit (.bool true)], args := [d] }
  | _ => none }
def intsPutRow : OpenClaim := { program := "ytohhghpdgaejhaa", sum := "2c4ad7d80e561ef10d896c18ff3b1296cb09dbc2f2cd76ce93a3330a01092f39", func := "spoor/spoorlaw01.IntsPut", spec := "intsPut", apart := false }
def IntsPutSaid : Prop := intsPutRow.holds Try.pinned (OpenSpec.ofChange intsPutSpec)

/-- ITS FALSE NEIGHBOUR: 'it returns false'. Refute it at one input. -/
def intsPutWrong : ChangeSpec := { name := "intsPut", fn := fun _ => fun
  | [d] => { results := [.lit (.bool false)], args := [d] }
  | _ => none }
def IntsPutWrongFalsely : Prop := intsPutRow.holds Try.pinned (OpenSpec.ofChange intsPutWrong)

/-- 'spoorlaw01.IntsGet': WHATEVER THE INPUT: true; the input reads as it did. -/
def intsGetSpec : ChangeSpec := { name := "intsGet", fn := fun _ => fun
  | [d1, d2] => { results := [.lit (.bool true)], args := [d1, d2] }
  | _ => none }
def intsGetRow : OpenClaim := { program := "ytohhghpdgaejhaa", sum := "2c4ad7d80e561ef10d896c18ff3b1296cb09dbc2f2cd76ce93a3330a01092f39", func := "spoor/spoorlaw01.IntsGet", spec := "intsGet", apart := false }
def IntsGetSaid : Prop := intsGetRow.holds Try.pinned (OpenSpec.ofChange intsGetSpec)

/-- ITS FALSE NEIGHBOUR: 'it returns false'. Refute it at one input. -/
def intsGetWrong : ChangeSpec := { name := "intsGet", fn := fun _ => fun
  | [d1, d2] => { results := [.lit (.bool false)], args := [d1, d2] }
  | _ => none }
def IntsGetWrongFalsely : Prop := intsGetRow.holds Try.pinned (OpenSpec.ofChange intsGetWrong)

/-- 'spoorlaw01.IntsOrder': WHATEVER THE INPUT: true; the input reads as it did. -/
def intsOrderSpec : ChangeSpec := { name := "intsOrder", fn := fun _ => fun
  | [d1, d2] => { results := [.lit (.bool true)], args := [d1, d2] }
  | _ => none }
def intsOrderRow : OpenClaim := { program := "ytohhghpdgaejhaa", sum := "2c4ad7d80e561ef10d896c18ff3b1296cb09dbc2f2cd76ce93a3330a01092f39", func := "spoor/spoorlaw01.IntsOrder", spec := "intsOrder", apart := false }
def IntsOrderSaid : Prop := intsOrderRow.holds Try.pinned (OpenSpec.ofChange intsOrderSpec)

/-- ITS FALSE NEIGHBOUR: 'it returns false'. Refute it at one input. -/
def intsOrderWrong : ChangeSpec := { name := "intsOrder", fn := fun _ => fun
  | [d1, d2] => { results := [.lit (.bool false)], args := [d1, d2] }
  | _ => none }
def IntsOrderWrongFalsely : Prop := intsOrderRow.holds Try.pinned (OpenSpec.ofChange intsOrderWrong)

/-- 'spoorlaw01.IntsTexts': WHATEVER THE INPUT: true; the input reads as it did. -/
def intsTextsSpec : ChangeSpec := { name := "intsTexts", fn := fun _ => fun
  | [d1, d2, d3] => { results := [.lit (.bool true)], args := [d1, d2, d3] }
  | _ => none }
def intsTextsRow : OpenClaim := { program := "ytohhghpdgaejhaa", sum := "2c4ad7d80e561ef10d896c18ff3b1296cb09dbc2f2cd76ce93a3330a01092f39", func := "spoor/spoorlaw01.IntsTexts", spec := "intsTexts", apart := false }
def IntsTextsSaid : Prop := intsTextsRow.holds Try.pinned (OpenSpec.ofChange intsTextsSpec)

/-- ITS FALSE NEIGHBOUR: 'it returns false'. Refute it at one input. -/
def intsTextsWrong : ChangeSpec := { name := "intsTexts", fn := fun _ => fun
  | [d1, d2, d3] => { results := [.lit (.bool false)], args := [d1, d2, d3] }
  | _ => none }
def IntsTextsWrongFalsely : Prop := intsTextsRow.holds Try.pinned (OpenSpec.ofChange intsTextsWrong)

/-- 'spoorlaw01.IntsBack': WHATEVER THE INPUT: true; the input reads as it did. -/
def intsBackSpec : ChangeSpec := { name := "intsBack", fn := fun _ => fun
  | [d1, d2, d3] => { results := [.lit (.bool true)], args := [d1, d2, d3] }
  | _ => none }
def intsBackRow : OpenClaim := { program := "ytohhghpdgaejhaa", sum := "2c4ad7d80e561ef10d896c18ff3b1296cb09dbc2f2cd76ce93a3330a01092f39", func := "spoor/spoorlaw01.IntsBack", spec := "intsBack", apart := false }
def IntsBackSaid : Prop := intsBackRow.holds Try.pinned (OpenSpec.ofChange intsBackSpec)

/-- ITS FALSE NEIGHBOUR: 'it returns false'. Refute it at one input. -/
def intsBackWrong : ChangeSpec := { name := "intsBack", fn := fun _ => fun
  | [d1, d2, d3] => { results := [.lit (.bool false)], args := [d1, d2, d3] }
  | _ => none }
def IntsBackWrongFalsely : Prop := intsBackRow.holds Try.pinned (OpenSpec.ofChange intsBackWrong)

/-- 'spoorlaw01.IntsWay': WHATEVER THE INPUT: true; the input reads as it did. -/
def intsWaySpec : ChangeSpec := { name := "intsWay", fn := fun _ => fun
  | [d1, d2] => { results := [.lit (.bool true)], args := [d1, d2] }
  | _ => none }
def intsWayRow : OpenClaim := { program := "ytohhghpdgaejhaa", sum := "2c4ad7d80e561ef10d896c18ff3b1296cb09dbc2f2cd76ce93a3330a01092f39", func := "spoor/spoorlaw01.IntsWay", spec := "intsWay", apart := false }
def IntsWaySaid : Prop := intsWayRow.holds Try.pinned (OpenSpec.ofChange intsWaySpec)

/-- ITS FALSE NEIGHBOUR: 'it returns false'. Refute it at one input. -/
def intsWayWrong : ChangeSpec := { name := "intsWay", fn := fun _ => fun
  | [d1, d2] => { results := [.lit (.bool false)], args := [d1, d2] }
  | _ => none }
def IntsWayWrongFalsely : Prop := intsWayRow.holds Try.pinned (OpenSpec.ofChange intsWayWrong)

/-- 'spoorlaw01.IntsCut': WHATEVER THE INPUT: true; the input reads as it did. -/
def intsCutSpec : ChangeSpec := { name := "intsCut", fn := fun _ => fun
  | [d1, d2] => { results := [.lit (.bool true)], args := [d1, d2] }
  | _ => none }
def intsCutRow : OpenClaim := { program := "ytohhghpdgaejhaa", sum := "2c4ad7d80e561ef10d896c18ff3b1296cb09dbc2f2cd76ce93a3330a01092f39", func := "spoor/spoorlaw01.IntsCut", spec := "intsCut", apart := false }
def IntsCutSaid : Prop := intsCutRow.holds Try.pinned (OpenSpec.ofChange intsCutSpec)

/-- ITS FALSE NEIGHBOUR: 'it returns false'. Refute it at one input. -/
def intsCutWrong : ChangeSpec := { name := "intsCut", fn := fun _ => fun
  | [d1, d2] => { results := [.lit (.bool false)], args := [d1, d2] }
  | _ => none }
def IntsCutWrongFalsely : Prop := intsCutRow.holds Try.pinned (OpenSpec.ofChange intsCutWrong)

/- THE SECOND FORM. 'bulk': how many values and letters a reading holds, each counted each time it is reached (what is shared counts as often as it is met; a slice's spare places count too). A statement '..UptoSaid' is the law's where the arguments, and the package variables that the reading takes, are together of bulk at most 1048576: NARROWER than '..Said'. Prove '..Said' where nothing that the law and all that it calls make is longer than what came in: it says more and counts as full. Else prove '..UptoSaid'. A law counts once. -/
mutual
def uptoBulk {H : Type} : DataW H → Nat
  | .lit (.string bytes) => bytes.length + 1
  | .lit _ => 1
  | .nil => 1
  | .ptr d => uptoBulk d + 1
  | .slice elems spare => uptoBulkAll elems + uptoBulkAll spare + 1
  | .agg parts => uptoBulkAll parts + 1
  | .iface _ d => uptoBulk d + 1
  | .map entries => uptoBulkEntries entries + 1
  | .held _ => 1
def uptoBulkAll {H : Type} : List (DataW H) → Nat
  | [] => 0
  | d :: r => uptoBulk d + uptoBulkAll r
def uptoBulkEntries {H : Type} : List (Lit × DataW H) → Nat
  | [] => 0
  | x :: r => uptoBulkEntry x + uptoBulkEntries r
def uptoBulkEntry {H : Type} : Lit × DataW H → Nat
  | (.string bytes, d) => bytes.length + uptoBulk d + 1
  | (_, d) => uptoBulk d + 1
 end
def uptoSmall : (H : Type) → List (DataW H) → Bool := fun _ ds => decide (uptoBulkAll ds ≤ 1048576)
def OpenSpec.upto (s : _root_.Go.ChangeSpec) : _root_.Go.OpenSpec := { _root_.Go.OpenSpec.ofChange s with cond := some uptoSmall }

/-- 'spoorlaw01.IntsPut', WHERE WHAT IT READS IS OF BULK AT MOST 1048576: true; the input reads as it did. -/
def intsPutUptoRow : OpenClaim := { program := "ytohhghpdgaejhaa", sum := "2c4ad7d80e561ef10d896c18ff3b1296cb09dbc2f2cd76ce93a3330a01092f39", func := "spoor/spoorlaw01.IntsPut", spec := "intsPut", apart := false, narrowed := true }
def IntsPutUptoSaid : Prop := intsPutUptoRow.holds Try.pinned (OpenSpec.upto intsPutSpec)

/-- 'spoorlaw01.IntsGet', WHERE WHAT IT READS IS OF BULK AT MOST 1048576: true; the input reads as it did. -/
def intsGetUptoRow : OpenClaim := { program := "ytohhghpdgaejhaa", sum := "2c4ad7d80e561ef10d896c18ff3b1296cb09dbc2f2cd76ce93a3330a01092f39", func := "spoor/spoorlaw01.IntsGet", spec := "intsGet", apart := false, narrowed := true }
def IntsGetUptoSaid : Prop := intsGetUptoRow.holds Try.pinned (OpenSpec.upto intsGetSpec)

/-- 'spoorlaw01.IntsOrder', WHERE WHAT IT READS IS OF BULK AT MOST 1048576: true; the input reads as it did. -/
def intsOrderUptoRow : OpenClaim := { program := "ytohhghpdgaejhaa", sum := "2c4ad7d80e561ef10d896c18ff3b1296cb09dbc2f2cd76ce93a3330a01092f39", func := "spoor/spoorlaw01.IntsOrder", spec := "intsOrder", apart := false, narrowed := true }
def IntsOrderUptoSaid : Prop := intsOrderUptoRow.holds Try.pinned (OpenSpec.upto intsOrderSpec)

/-- 'spoorlaw01.IntsTexts', WHERE WHAT IT READS IS OF BULK AT MOST 1048576: true; the input reads as it did. -/
def intsTextsUptoRow : OpenClaim := { program := "ytohhghpdgaejhaa", sum := "2c4ad7d80e561ef10d896c18ff3b1296cb09dbc2f2cd76ce93a3330a01092f39", func := "spoor/spoorlaw01.IntsTexts", spec := "intsTexts", apart := false, narrowed := true }
def IntsTextsUptoSaid : Prop := intsTextsUptoRow.holds Try.pinned (OpenSpec.upto intsTextsSpec)

/-- 'spoorlaw01.IntsBack', WHERE WHAT IT READS IS OF BULK AT MOST 1048576: true; the input reads as it did. -/
def intsBackUptoRow : OpenClaim := { program := "ytohhghpdgaejhaa", sum := "2c4ad7d80e561ef10d896c18ff3b1296cb09dbc2f2cd76ce93a3330a01092f39", func := "spoor/spoorlaw01.IntsBack", spec := "intsBack", apart := false, narrowed := true }
def IntsBackUptoSaid : Prop := intsBackUptoRow.holds Try.pinned (OpenSpec.upto intsBackSpec)

/-- 'spoorlaw01.IntsWay', WHERE WHAT IT READS IS OF BULK AT MOST 1048576: true; the input reads as it did. -/
def intsWayUptoRow : OpenClaim := { program := "ytohhghpdgaejhaa", sum := "2c4ad7d80e561ef10d896c18ff3b1296cb09dbc2f2cd76ce93a3330a01092f39", func := "spoor/spoorlaw01.IntsWay", spec := "intsWay", apart := false, narrowed := true }
def IntsWayUptoSaid : Prop := intsWayUptoRow.holds Try.pinned (OpenSpec.upto intsWaySpec)

/-- 'spoorlaw01.IntsCut', WHERE WHAT IT READS IS OF BULK AT MOST 1048576: true; the input reads as it did. -/
def intsCutUptoRow : OpenClaim := { program := "ytohhghpdgaejhaa", sum := "2c4ad7d80e561ef10d896c18ff3b1296cb09dbc2f2cd76ce93a3330a01092f39", func := "spoor/spoorlaw01.IntsCut", spec := "intsCut", apart := false, narrowed := true }
def IntsCutUptoSaid : Prop := intsCutUptoRow.holds Try.pinned (OpenSpec.upto intsCutSpec)

end Rows
end Go.Proofs.Ytohhghpdgaejhaa
