/-
  No cell of these rows narrows 'for every input' (looked for: loops, veiled, ifaces, maps, wideKeys, modest, calm, conditions, laid).
  DERIVED. THE GIVEN ROWS OF THIS SEAT. 6 by the template 'for every input the law returns true; each argument reads behind the call as it read before'; 0 by the template 'total and deterministic' (their statements: YtheeekmhmbkncaaTotals.lean).
  GIVEN WITH THE SEED: the statements are not yours to turn. If you find one false, say at which input.
  Laid BY PROGRAM, IN A SANDBOX (cutbox-rows.mjs): the forced cells as the released guide's own fill.sh prints them over the translation 18254811e4a85fa1… (all of the seat's roots in one cut). By AI agents, Wed Nov 11 2026. No macro, syntax, notation, axiom, sorry.
-/
import Derived.Test.YtheeekmhmbkncaaChecked
import GoSem.Claim
import GoSem.ClaimJoined
import GoSem.ClaimMapViews
import Derived.JoinedTies
import Derived.KernelRfl
namespace Go.Proofs.Ytheeekmhmbkncaa
/- THE CELL 'sum', in the pinned program and in every row, IS THE sha256 OF THE DUMP (.gsa) THAT YtheeekmhmbkncaaProg.lean LOADS. Nothing in Lean hashes anything: it is a label: what it is worth is what the hold of that sum in a sandbox is worth. -/
noncomputable def Try.pinned : Pinned := { name := "ytheeekmhmbkncaa", sum := "18254811e4a85fa10abd6342762d25a77d880b375d3b848b00d3e74618e86ade", checked := Try.checked }
namespace Rows
def none {H : Type} : Left H := { results := [], args := [] }

/-- 'spoorlaw12.PostsEncode': WHATEVER THE INPUT: true; the input reads as it did. -/
def postsEncodeSpec : ChangeSpec := { name := "postsEncode", fn := fun _ => fun
  | [d1, d2] => { results := [.lit (.bool true)], args := [d1, d2] }
  | _ => none }
def postsEncodeRow : OpenClaim := { program := "ytheeekmhmbkncaa", sum := "18254811e4a85fa10abd6342762d25a77d880b375d3b848b00d3e74618e86ade", func := "spoor/spoorlaw12.PostsEncode", spec := "postsEncode", inPlace := ["internal/abi.NoEscape"], unfollowed := true, recurses := true, apart := false }
def PostsEncodeSaid : Prop := postsEncodeRow.holds Try.pinned (OpenSpec.ofChange postsEncodeSpec)

/-- ITS FALSE NEIGHBOUR: 'it returns false'. Refute it at one input. -/
def postsEncodeWrong : ChangeSpec := { name := "postsEncode", fn := fun _ => fun
  | [d1, d2] => { results := [.lit (.bool false)], args := [d1, d2] }
  | _ => none }
def PostsEncodeWrongFalsely : Prop := postsEncodeRow.holds Try.pinned (OpenSpec.ofChange postsEncodeWrong)

/-- 'spoorlaw12.PostsDecode': WHATEVER THE INPUT: true; the input reads as it did. -/
def postsDecodeSpec : ChangeSpec := { name := "postsDecode", fn := fun _ => fun
  | [d] => { results := [.lit (.bool true)], args := [d] }
  | _ => none }
def postsDecodeRow : OpenClaim := { program := "ytheeekmhmbkncaa", sum := "18254811e4a85fa10abd6342762d25a77d880b375d3b848b00d3e74618e86ade", func := "spoor/spoorlaw12.PostsDecode", spec := "postsDecode", inPlace := ["internal/abi.NoEscape"], unfollowed := true, recurses := true, apart := false }
def PostsDecodeSaid : Prop := postsDecodeRow.holds Try.pinned (OpenSpec.ofChange postsDecodeSpec)

/-- ITS FALSE NEIGHBOUR: 'it returns false'. Refute it at one input. -/
def postsDecodeWrong : ChangeSpec := { name := "postsDecode", fn := fun _ => fun
  | [d] => { results := [.lit (.bool false)], args := [d] }
  | _ => none }
def PostsDecodeWrongFalsely : Prop := postsDecodeRow.holds Try.pinned (OpenSpec.ofChange postsDecodeWrong)

/-- 'spoorlaw12.PostsBack': WHATEVER THE INPUT: true; the input reads as it did. -/
def postsBackSpec : ChangeSpec := { name := "postsBack", fn := fun _ => fun
  | [d1, d2, d3] => { results := [.lit (.bool true)], args := [d1, d2, d3] }
  | _ => none }
def postsBackRow : OpenClaim := { program := "ytheeekmhmbkncaa", sum := "18254811e4a85fa10abd6342762d25a77d880b375d3b848b00d3e74618e86ade", func := "spoor/spoorlaw12.PostsBack", spec := "postsBack", inPlace := ["internal/abi.NoEscape"], unfollowed := true, recurses := true, apart := false }
def PostsBackSaid : Prop := postsBackRow.holds Try.pinned (OpenSpec.ofChange postsBackSpec)

/-- ITS FALSE NEIGHBOUR: 'it returns false'. Refute it at one input. -/
def postsBackWrong : ChangeSpec := { name := "postsBack", fn := fun _ => fun
  | [d1, d2, d3] => { results := [.lit (.bool false)], args := [d1, d2, d3] }
  | _ => none }
def PostsBackWrongFalsely : Prop := postsBackRow.holds Try.pinned (OpenSpec.ofChange postsBackWrong)

/-- 'spoorlaw12.PostsMay': WHATEVER THE INPUT: true; the input reads as it did. -/
def postsMaySpec : ChangeSpec := { name := "postsMay", fn := fun _ => fun
  | [d1, d2] => { results := [.lit (.bool true)], args := [d1, d2] }
  | _ => none }
def postsMayRow : OpenClaim := { program := "ytheeekmhmbkncaa", sum := "18254811e4a85fa10abd6342762d25a77d880b375d3b848b00d3e74618e86ade", func := "spoor/spoorlaw12.PostsMay", spec := "postsMay", inPlace := ["internal/abi.NoEscape"], unfollowed := true, recurses := true, apart := false }
def PostsMaySaid : Prop := postsMayRow.holds Try.pinned (OpenSpec.ofChange postsMaySpec)

/-- ITS FALSE NEIGHBOUR: 'it returns false'. Refute it at one input. -/
def postsMayWrong : ChangeSpec := { name := "postsMay", fn := fun _ => fun
  | [d1, d2] => { results := [.lit (.bool false)], args := [d1, d2] }
  | _ => none }
def PostsMayWrongFalsely : Prop := postsMayRow.holds Try.pinned (OpenSpec.ofChange postsMayWrong)

/-- 'spoorlaw12.PostsCut': WHATEVER THE INPUT: true; the input reads as it did. -/
def postsCutSpec : ChangeSpec := { name := "postsCut", fn := fun _ => fun
  | [d1, d2, d3] => { results := [.lit (.bool true)], args := [d1, d2, d3] }
  | _ => none }
def postsCutRow : OpenClaim := { program := "ytheeekmhmbkncaa", sum := "18254811e4a85fa10abd6342762d25a77d880b375d3b848b00d3e74618e86ade", func := "spoor/spoorlaw12.PostsCut", spec := "postsCut", inPlace := ["internal/abi.NoEscape"], unfollowed := true, recurses := true, apart := false }
def PostsCutSaid : Prop := postsCutRow.holds Try.pinned (OpenSpec.ofChange postsCutSpec)

/-- ITS FALSE NEIGHBOUR: 'it returns false'. Refute it at one input. -/
def postsCutWrong : ChangeSpec := { name := "postsCut", fn := fun _ => fun
  | [d1, d2, d3] => { results := [.lit (.bool false)], args := [d1, d2, d3] }
  | _ => none }
def PostsCutWrongFalsely : Prop := postsCutRow.holds Try.pinned (OpenSpec.ofChange postsCutWrong)

/-- 'spoorlaw12.PostsApart': WHATEVER THE INPUT: true; the input reads as it did. -/
def postsApartSpec : ChangeSpec := { name := "postsApart", fn := fun _ => fun
  | [d1, d2, d3] => { results := [.lit (.bool true)], args := [d1, d2, d3] }
  | _ => none }
def postsApartRow : OpenClaim := { program := "ytheeekmhmbkncaa", sum := "18254811e4a85fa10abd6342762d25a77d880b375d3b848b00d3e74618e86ade", func := "spoor/spoorlaw12.PostsApart", spec := "postsApart", inPlace := ["internal/abi.NoEscape"], unfollowed := true, recurses := true, apart := false }
def PostsApartSaid : Prop := postsApartRow.holds Try.pinned (OpenSpec.ofChange postsApartSpec)

/-- ITS FALSE NEIGHBOUR: 'it returns false'. Refute it at one input. -/
def postsApartWrong : ChangeSpec := { name := "postsApart", fn := fun _ => fun
  | [d1, d2, d3] => { results := [.lit (.bool false)], args := [d1, d2, d3] }
  | _ => none }
def PostsApartWrongFalsely : Prop := postsApartRow.holds Try.pinned (OpenSpec.ofChange postsApartWrong)

/- THE SECOND FORM. 'bulk': how many values and letters a reading holds, each counted each time it is reached (what is shared counts as often as it is met; a slice's spare places count too). A statement '..UptoSaid' is the law's where the arguments, and the package variables that the reading takes, are together of bulk at most 1048576: NARROWER than '..Said'. Prove '..Said' where nothing that the law and all that it calls make is longer than what came in: it says more and counts as full. Else prove '..UptoSaid'. A law counts once. -/
mutual
def uptoBulk {H : Type} : DataW H → Nat
  | .lit (.string bytes) => bytes.length + 1
  | .lit _ => 1
  | .nil => 1
  | .ptr d => uptoBulk d + 1
  | .slice elems spare => uptoBulkAll elems + uptoBulkAll spare + 1
  | .agg parts => uptoBulkAll parts + 1
  | .iface _ d => uptoBulk d + 1
  | .map entries => uptoBulkEntries entries + 1
  | .held _ => 1
def uptoBulkAll {H : Type} : List (DataW H) → Nat
  | [] => 0
  | d :: r => uptoBulk d + uptoBulkAll r
def uptoBulkEntries {H : Type} : List (Lit × DataW H) → Nat
  | [] => 0
  | x :: r => uptoBulkEntry x + uptoBulkEntries r
def uptoBulkEntry {H : Type} : Lit × DataW H → Nat
  | (.string bytes, d) => bytes.length + uptoBulk d + 1
  | (_, d) => uptoBulk d + 1
 end
def uptoSmall : (H : Type) → List (DataW H) → Bool := fun _ ds => decide (uptoBulkAll ds ≤ 1048576)
def OpenSpec.upto (s : _root_.Go.ChangeSpec) : _root_.Go.OpenSpec := { _root_.Go.OpenSpec.ofChange s with cond := some uptoSmall }

/-- 'spoorlaw12.PostsEncode', WHERE WHAT IT READS IS OF BULK AT MOST 1048576: true; the input reads as it did. -/
def postsEncodeUptoRow : OpenClaim := { program := "ytheeekmhmbkncaa", sum := "18254811e4a85fa10abd6342762d25a77d880b375d3b848b00d3e74618e86ade", func := "spoor/spoorlaw12.PostsEncode", spec := "postsEncode", inPlace := ["internal/abi.NoEscape"], unfollowed := true, recurses := true, apart := false, narrowed := true }
def PostsEncodeUptoSaid : Prop := postsEncodeUptoRow.holds Try.pinned (OpenSpec.upto postsEncodeSpec)

/-- 'spoorlaw12.PostsDecode', WHERE WHAT IT READS IS OF BULK AT MOST 1048576: true; the input reads as it did. -/
def postsDecodeUptoRow : OpenClaim := { program := "ytheeekmhmbkncaa", sum := "18254811e4a85fa10abd6342762d25a77d880b375d3b848b00d3e74618e86ade", func := "spoor/spoorlaw12.PostsDecode", spec := "postsDecode", inPlace := ["internal/abi.NoEscape"], unfollowed := true, recurses := true, apart := false, narrowed := true }
def PostsDecodeUptoSaid : Prop := postsDecodeUptoRow.holds Try.pinned (OpenSpec.upto postsDecodeSpec)

/-- 'spoorlaw12.PostsBack', WHERE WHAT IT READS IS OF BULK AT MOST 1048576: true; the input reads as it did. -/
def postsBackUptoRow : OpenClaim := { program := "ytheeekmhmbkncaa", sum := "18254811e4a85fa10abd6342762d25a77d880b375d3b848b00d3e74618e86ade", func := "spoor/spoorlaw12.PostsBack", spec := "postsBack", inPlace := ["internal/abi.NoEscape"], unfollowed := true, recurses := true, apart := false, narrowed := true }
def PostsBackUptoSaid : Prop := postsBackUptoRow.holds Try.pinned (OpenSpec.upto postsBackSpec)

/-- 'spoorlaw12.PostsMay', WHERE WHAT IT READS IS OF BULK AT MOST 1048576: true; the input reads as it did. -/
def postsMayUptoRow : OpenClaim := { program := "ytheeekmhmbkncaa", sum := "18254811e4a85fa10abd6342762d25a77d880b375d3b848b00d3e74618e86ade", func := "spoor/spoorlaw12.PostsMay", spec := "postsMay", inPlace := ["internal/abi.NoEscape"], unfollowed := true, recurses := true, apart := false, narrowed := true }
def PostsMayUptoSaid : Prop := postsMayUptoRow.holds Try.pinned (OpenSpec.upto postsMaySpec)

/-- 'spoorlaw12.PostsCut', WHERE WHAT IT READS IS OF BULK AT MOST 1048576: true; the input reads as it did. -/
def postsCutUptoRow : OpenClaim := { program := "ytheeekmhmbkncaa", sum := "18254811e4a85fa10abd6342762d25a77d880b375d3b848b00d3e74618e86ade", func := "spoor/spoorlaw12.PostsCut", spec := "postsCut", inPlace := ["internal/abi.NoEscape"], unfollowed := true, recurses := true, apart := false, narrowed := true }
def PostsCutUptoSaid : Prop := postsCutUptoRow.holds Try.pinned (OpenSpec.upto postsCutSpec)

/-- 'spoorlaw12.PostsApart', WHERE WHAT IT READS IS OF BULK AT MOST 1048576: true; the input reads as it did. -/
def postsApartUptoRow : OpenClaim := { program := "ytheeekmhmbkncaa", sum := "18254811e4a85fa10abd6342762d25a77d880b375d3b848b00d3e74618e86ade", func := "spoor/spoorlaw12.PostsApart", spec := "postsApart", inPlace := ["internal/abi.NoEscape"], unfollowed := true, recurses := true, apart := false, narrowed := true }
def PostsApartUptoSaid : Prop := postsApartUptoRow.holds Try.pinned (OpenSpec.upto postsApartSpec)

end Rows
end Go.Proofs.Ytheeekmhmbkncaa
