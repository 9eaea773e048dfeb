/-
  NARROWER THAN 'FOR EVERY INPUT', by the rows' own cells (each row's printed sentence says how): FnExactTreeSame: loops · FnExactTreeOk: loops · FnExactTypeFind: loops · FnExactTreeNodes: loops.
  DERIVED. THE GIVEN ROWS OF THIS SEAT. 9 by the template 'for every input the law returns true; each argument reads behind the call as it read before'; 0 by the template 'total and deterministic' (their statements: YthcinellhbmcoaaTotals.lean).
  GIVEN WITH THE SEED: the statements are not yours to turn. If you find one false, say at which input.
  Laid BY PROGRAM, IN A SANDBOX (cutbox-rows.mjs): the forced cells as the released guide's own fill.sh prints them over the translation cc77e73448bab9eb… (all of the seat's roots in one cut). By AI agents, Wed Nov 11 2026. No macro, syntax, notation, axiom, sorry.
-/
import Derived.Test.YthcinellhbmcoaaChecked
import GoSem.Claim
import GoSem.ClaimJoined
import GoSem.ClaimMapViews
import Derived.JoinedTies
import Derived.KernelRfl
namespace Go.Proofs.Ythcinellhbmcoaa
/- THE CELL 'sum', in the pinned program and in every row, IS THE sha256 OF THE DUMP (.gsa) THAT YthcinellhbmcoaaProg.lean LOADS. Nothing in Lean hashes anything: it is a label: what it is worth is what the hold of that sum in a sandbox is worth. -/
noncomputable def Try.pinned : Pinned := { name := "ythcinellhbmcoaa", sum := "cc77e73448bab9eb4d074f1b82d3aea7daac6e127e01e227b16529f369338ac7", checked := Try.checked }
namespace Rows
def none {H : Type} : Left H := { results := [], args := [] }

/-- 'laws.FnExactTreeSame': WHATEVER THE INPUT: true; the input reads as it did. -/
def fnExactTreeSameSpec : ChangeSpec := { name := "fnExactTreeSame", fn := fun _ => fun
  | [d1, d2] => { results := [.lit (.bool true)], args := [d1, d2] }
  | _ => none }
def fnExactTreeSameRow : OpenClaim := { program := "ythcinellhbmcoaa", sum := "cc77e73448bab9eb4d074f1b82d3aea7daac6e127e01e227b16529f369338ac7", func := "loop.example/smithy/laws.FnExactTreeSame", spec := "fnExactTreeSame", unfollowed := true, recurses := true, loops := true, apart := false }
def FnExactTreeSameSaid : Prop := fnExactTreeSameRow.holds Try.pinned (OpenSpec.ofChange fnExactTreeSameSpec)

/-- ITS FALSE NEIGHBOUR: 'it returns false'. Refute it at one input. -/
def fnExactTreeSameWrong : ChangeSpec := { name := "fnExactTreeSame", fn := fun _ => fun
  | [d1, d2] => { results := [.lit (.bool false)], args := [d1, d2] }
  | _ => none }
def FnExactTreeSameWrongFalsely : Prop := fnExactTreeSameRow.holds Try.pinned (OpenSpec.ofChange fnExactTreeSameWrong)

/-- 'laws.FnExactTreeOk': WHATEVER THE INPUT: true; the input reads as it did. -/
def fnExactTreeOkSpec : ChangeSpec := { name := "fnExactTreeOk", fn := fun _ => fun
  | [d] => { results := [.lit (.bool true)], args := [d] }
  | _ => none }
def fnExactTreeOkRow : OpenClaim := { program := "ythcinellhbmcoaa", sum := "cc77e73448bab9eb4d074f1b82d3aea7daac6e127e01e227b16529f369338ac7", func := "loop.example/smithy/laws.FnExactTreeOk", spec := "fnExactTreeOk", unfollowed := true, recurses := true, loops := true, apart := false }
def FnExactTreeOkSaid : Prop := fnExactTreeOkRow.holds Try.pinned (OpenSpec.ofChange fnExactTreeOkSpec)

/-- ITS FALSE NEIGHBOUR: 'it returns false'. Refute it at one input. -/
def fnExactTreeOkWrong : ChangeSpec := { name := "fnExactTreeOk", fn := fun _ => fun
  | [d] => { results := [.lit (.bool false)], args := [d] }
  | _ => none }
def FnExactTreeOkWrongFalsely : Prop := fnExactTreeOkRow.holds Try.pinned (OpenSpec.ofChange fnExactTreeOkWrong)

/-- 'laws.FnTreeNodes': WHATEVER THE INPUT: true; the input reads as it did. -/
def fnTreeNodesSpec : ChangeSpec := { name := "fnTreeNodes", fn := fun _ => fun
  | [d] => { results := [.lit (.bool true)], args := [d] }
  | _ => none }
def fnTreeNodesRow : OpenClaim := { program := "ythcinellhbmcoaa", sum := "cc77e73448bab9eb4d074f1b82d3aea7daac6e127e01e227b16529f369338ac7", func := "loop.example/smithy/laws.FnTreeNodes", spec := "fnTreeNodes", unfollowed := true, recurses := true, apart := false }
def FnTreeNodesSaid : Prop := fnTreeNodesRow.holds Try.pinned (OpenSpec.ofChange fnTreeNodesSpec)

/-- ITS FALSE NEIGHBOUR: 'it returns false'. Refute it at one input. -/
def fnTreeNodesWrong : ChangeSpec := { name := "fnTreeNodes", fn := fun _ => fun
  | [d] => { results := [.lit (.bool false)], args := [d] }
  | _ => none }
def FnTreeNodesWrongFalsely : Prop := fnTreeNodesRow.holds Try.pinned (OpenSpec.ofChange fnTreeNodesWrong)

/-- 'laws.FnExactTypeFind': WHATEVER THE INPUT: true; the input reads as it did. -/
def fnExactTypeFindSpec : ChangeSpec := { name := "fnExactTypeFind", fn := fun _ => fun
  | [d1, d2, d3, d4] => { results := [.lit (.bool true)], args := [d1, d2, d3, d4] }
  | _ => none }
def fnExactTypeFindRow : OpenClaim := { program := "ythcinellhbmcoaa", sum := "cc77e73448bab9eb4d074f1b82d3aea7daac6e127e01e227b16529f369338ac7", func := "loop.example/smithy/laws.FnExactTypeFind", spec := "fnExactTypeFind", unfollowed := true, recurses := true, loops := true, apart := false }
def FnExactTypeFindSaid : Prop := fnExactTypeFindRow.holds Try.pinned (OpenSpec.ofChange fnExactTypeFindSpec)

/-- ITS FALSE NEIGHBOUR: 'it returns false'. Refute it at one input. -/
def fnExactTypeFindWrong : ChangeSpec := { name := "fnExactTypeFind", fn := fun _ => fun
  | [d1, d2, d3, d4] => { results := [.lit (.bool false)], args := [d1, d2, d3, d4] }
  | _ => none }
def FnExactTypeFindWrongFalsely : Prop := fnExactTypeFindRow.holds Try.pinned (OpenSpec.ofChange fnExactTypeFindWrong)

/-- 'laws.FnTypeLet': WHATEVER THE INPUT: true; the input reads as it did. -/
def fnTypeLetSpec : ChangeSpec := { name := "fnTypeLet", fn := fun _ => fun
  | [d] => { results := [.lit (.bool true)], args := [d] }
  | _ => none }
def fnTypeLetRow : OpenClaim := { program := "ythcinellhbmcoaa", sum := "cc77e73448bab9eb4d074f1b82d3aea7daac6e127e01e227b16529f369338ac7", func := "loop.example/smithy/laws.FnTypeLet", spec := "fnTypeLet", unfollowed := true, recurses := true, apart := false }
def FnTypeLetSaid : Prop := fnTypeLetRow.holds Try.pinned (OpenSpec.ofChange fnTypeLetSpec)

/-- ITS FALSE NEIGHBOUR: 'it returns false'. Refute it at one input. -/
def fnTypeLetWrong : ChangeSpec := { name := "fnTypeLet", fn := fun _ => fun
  | [d] => { results := [.lit (.bool false)], args := [d] }
  | _ => none }
def FnTypeLetWrongFalsely : Prop := fnTypeLetRow.holds Try.pinned (OpenSpec.ofChange fnTypeLetWrong)

/-- 'laws.FnTypeOne': WHATEVER THE INPUT: true; the input reads as it did. -/
def fnTypeOneSpec : ChangeSpec := { name := "fnTypeOne", fn := fun _ => fun
  | [d] => { results := [.lit (.bool true)], args := [d] }
  | _ => none }
def fnTypeOneRow : OpenClaim := { program := "ythcinellhbmcoaa", sum := "cc77e73448bab9eb4d074f1b82d3aea7daac6e127e01e227b16529f369338ac7", func := "loop.example/smithy/laws.FnTypeOne", spec := "fnTypeOne", unfollowed := true, recurses := true, apart := false }
def FnTypeOneSaid : Prop := fnTypeOneRow.holds Try.pinned (OpenSpec.ofChange fnTypeOneSpec)

/-- ITS FALSE NEIGHBOUR: 'it returns false'. Refute it at one input. -/
def fnTypeOneWrong : ChangeSpec := { name := "fnTypeOne", fn := fun _ => fun
  | [d] => { results := [.lit (.bool false)], args := [d] }
  | _ => none }
def FnTypeOneWrongFalsely : Prop := fnTypeOneRow.holds Try.pinned (OpenSpec.ofChange fnTypeOneWrong)

/-- 'laws.FnTypeFace': WHATEVER THE INPUT: true; the input reads as it did. -/
def fnTypeFaceSpec : ChangeSpec := { name := "fnTypeFace", fn := fun _ => fun
  | [d] => { results := [.lit (.bool true)], args := [d] }
  | _ => none }
def fnTypeFaceRow : OpenClaim := { program := "ythcinellhbmcoaa", sum := "cc77e73448bab9eb4d074f1b82d3aea7daac6e127e01e227b16529f369338ac7", func := "loop.example/smithy/laws.FnTypeFace", spec := "fnTypeFace", unfollowed := true, recurses := true, apart := false }
def FnTypeFaceSaid : Prop := fnTypeFaceRow.holds Try.pinned (OpenSpec.ofChange fnTypeFaceSpec)

/-- ITS FALSE NEIGHBOUR: 'it returns false'. Refute it at one input. -/
def fnTypeFaceWrong : ChangeSpec := { name := "fnTypeFace", fn := fun _ => fun
  | [d] => { results := [.lit (.bool false)], args := [d] }
  | _ => none }
def FnTypeFaceWrongFalsely : Prop := fnTypeFaceRow.holds Try.pinned (OpenSpec.ofChange fnTypeFaceWrong)

/-- 'laws.FnFaceHidden': WHATEVER THE INPUT: true; the input reads as it did. -/
def fnFaceHiddenSpec : ChangeSpec := { name := "fnFaceHidden", fn := fun _ => fun
  | [d] => { results := [.lit (.bool true)], args := [d] }
  | _ => none }
def fnFaceHiddenRow : OpenClaim := { program := "ythcinellhbmcoaa", sum := "cc77e73448bab9eb4d074f1b82d3aea7daac6e127e01e227b16529f369338ac7", func := "loop.example/smithy/laws.FnFaceHidden", spec := "fnFaceHidden", inPlace := ["internal/bytealg.abigen_runtime_cmpstring"], unfollowed := true, recurses := true, apart := false }
def FnFaceHiddenSaid : Prop := fnFaceHiddenRow.holds Try.pinned (OpenSpec.ofChange fnFaceHiddenSpec)

/-- ITS FALSE NEIGHBOUR: 'it returns false'. Refute it at one input. -/
def fnFaceHiddenWrong : ChangeSpec := { name := "fnFaceHidden", fn := fun _ => fun
  | [d] => { results := [.lit (.bool false)], args := [d] }
  | _ => none }
def FnFaceHiddenWrongFalsely : Prop := fnFaceHiddenRow.holds Try.pinned (OpenSpec.ofChange fnFaceHiddenWrong)

/-- 'laws.FnExactTreeNodes': WHATEVER THE INPUT: true; the input reads as it did. -/
def fnExactTreeNodesSpec : ChangeSpec := { name := "fnExactTreeNodes", fn := fun _ => fun
  | [d] => { results := [.lit (.bool true)], args := [d] }
  | _ => none }
def fnExactTreeNodesRow : OpenClaim := { program := "ythcinellhbmcoaa", sum := "cc77e73448bab9eb4d074f1b82d3aea7daac6e127e01e227b16529f369338ac7", func := "loop.example/smithy/laws.FnExactTreeNodes", spec := "fnExactTreeNodes", recurses := true, loops := true, apart := false }
def FnExactTreeNodesSaid : Prop := fnExactTreeNodesRow.holds Try.pinned (OpenSpec.ofChange fnExactTreeNodesSpec)

/-- ITS FALSE NEIGHBOUR: 'it returns false'. Refute it at one input. -/
def fnExactTreeNodesWrong : ChangeSpec := { name := "fnExactTreeNodes", fn := fun _ => fun
  | [d] => { results := [.lit (.bool false)], args := [d] }
  | _ => none }
def FnExactTreeNodesWrongFalsely : Prop := fnExactTreeNodesRow.holds Try.pinned (OpenSpec.ofChange fnExactTreeNodesWrong)

/- THE SECOND FORM. 'bulk': how many values and letters a reading holds, each counted each time it is reached (what is shared counts as often as it is met; a slice's spare places count too). A statement '..UptoSaid' is the law's where the arguments, and the package variables that the reading takes, are together of bulk at most 1048576: NARROWER than '..Said'. Prove '..Said' where nothing that the law and all that it calls make is longer than what came in: it says more and counts as full. Else prove '..UptoSaid'. A law counts once. -/
mutual
def uptoBulk {H : Type} : DataW H → Nat
  | .lit (.string bytes) => bytes.length + 1
  | .lit _ => 1
  | .nil => 1
  | .ptr d => uptoBulk d + 1
  | .slice elems spare => uptoBulkAll elems + uptoBulkAll spare + 1
  | .agg parts => uptoBulkAll parts + 1
  | .iface _ d => uptoBulk d + 1
  | .map entries => uptoBulkEntries entries + 1
  | .held _ => 1
def uptoBulkAll {H : Type} : List (DataW H) → Nat
  | [] => 0
  | d :: r => uptoBulk d + uptoBulkAll r
def uptoBulkEntries {H : Type} : List (Lit × DataW H) → Nat
  | [] => 0
  | x :: r => uptoBulkEntry x + uptoBulkEntries r
def uptoBulkEntry {H : Type} : Lit × DataW H → Nat
  | (.string bytes, d) => bytes.length + uptoBulk d + 1
  | (_, d) => uptoBulk d + 1
 end
def uptoSmall : (H : Type) → List (DataW H) → Bool := fun _ ds => decide (uptoBulkAll ds ≤ 1048576)
def OpenSpec.upto (s : _root_.Go.ChangeSpec) : _root_.Go.OpenSpec := { _root_.Go.OpenSpec.ofChange s with cond := some uptoSmall }

/-- 'laws.FnExactTreeSame', WHERE WHAT IT READS IS OF BULK AT MOST 1048576: true; the input reads as it did. -/
def fnExactTreeSameUptoRow : OpenClaim := { program := "ythcinellhbmcoaa", sum := "cc77e73448bab9eb4d074f1b82d3aea7daac6e127e01e227b16529f369338ac7", func := "loop.example/smithy/laws.FnExactTreeSame", spec := "fnExactTreeSame", unfollowed := true, recurses := true, loops := true, apart := false, narrowed := true }
def FnExactTreeSameUptoSaid : Prop := fnExactTreeSameUptoRow.holds Try.pinned (OpenSpec.upto fnExactTreeSameSpec)

/-- 'laws.FnExactTreeOk', WHERE WHAT IT READS IS OF BULK AT MOST 1048576: true; the input reads as it did. -/
def fnExactTreeOkUptoRow : OpenClaim := { program := "ythcinellhbmcoaa", sum := "cc77e73448bab9eb4d074f1b82d3aea7daac6e127e01e227b16529f369338ac7", func := "loop.example/smithy/laws.FnExactTreeOk", spec := "fnExactTreeOk", unfollowed := true, recurses := true, loops := true, apart := false, narrowed := true }
def FnExactTreeOkUptoSaid : Prop := fnExactTreeOkUptoRow.holds Try.pinned (OpenSpec.upto fnExactTreeOkSpec)

/-- 'laws.FnTreeNodes', WHERE WHAT IT READS IS OF BULK AT MOST 1048576: true; the input reads as it did. -/
def fnTreeNodesUptoRow : OpenClaim := { program := "ythcinellhbmcoaa", sum := "cc77e73448bab9eb4d074f1b82d3aea7daac6e127e01e227b16529f369338ac7", func := "loop.example/smithy/laws.FnTreeNodes", spec := "fnTreeNodes", unfollowed := true, recurses := true, apart := false, narrowed := true }
def FnTreeNodesUptoSaid : Prop := fnTreeNodesUptoRow.holds Try.pinned (OpenSpec.upto fnTreeNodesSpec)

/-- 'laws.FnExactTypeFind', WHERE WHAT IT READS IS OF BULK AT MOST 1048576: true; the input reads as it did. -/
def fnExactTypeFindUptoRow : OpenClaim := { program := "ythcinellhbmcoaa", sum := "cc77e73448bab9eb4d074f1b82d3aea7daac6e127e01e227b16529f369338ac7", func := "loop.example/smithy/laws.FnExactTypeFind", spec := "fnExactTypeFind", unfollowed := true, recurses := true, loops := true, apart := false, narrowed := true }
def FnExactTypeFindUptoSaid : Prop := fnExactTypeFindUptoRow.holds Try.pinned (OpenSpec.upto fnExactTypeFindSpec)

/-- 'laws.FnTypeLet', WHERE WHAT IT READS IS OF BULK AT MOST 1048576: true; the input reads as it did. -/
def fnTypeLetUptoRow : OpenClaim := { program := "ythcinellhbmcoaa", sum := "cc77e73448bab9eb4d074f1b82d3aea7daac6e127e01e227b16529f369338ac7", func := "loop.example/smithy/laws.FnTypeLet", spec := "fnTypeLet", unfollowed := true, recurses := true, apart := false, narrowed := true }
def FnTypeLetUptoSaid : Prop := fnTypeLetUptoRow.holds Try.pinned (OpenSpec.upto fnTypeLetSpec)

/-- 'laws.FnTypeOne', WHERE WHAT IT READS IS OF BULK AT MOST 1048576: true; the input reads as it did. -/
def fnTypeOneUptoRow : OpenClaim := { program := "ythcinellhbmcoaa", sum := "cc77e73448bab9eb4d074f1b82d3aea7daac6e127e01e227b16529f369338ac7", func := "loop.example/smithy/laws.FnTypeOne", spec := "fnTypeOne", unfollowed := true, recurses := true, apart := false, narrowed := true }
def FnTypeOneUptoSaid : Prop := fnTypeOneUptoRow.holds Try.pinned (OpenSpec.upto fnTypeOneSpec)

/-- 'laws.FnTypeFace', WHERE WHAT IT READS IS OF BULK AT MOST 1048576: true; the input reads as it did. -/
def fnTypeFaceUptoRow : OpenClaim := { program := "ythcinellhbmcoaa", sum := "cc77e73448bab9eb4d074f1b82d3aea7daac6e127e01e227b16529f369338ac7", func := "loop.example/smithy/laws.FnTypeFace", spec := "fnTypeFace", unfollowed := true, recurses := true, apart := false, narrowed := true }
def FnTypeFaceUptoSaid : Prop := fnTypeFaceUptoRow.holds Try.pinned (OpenSpec.upto fnTypeFaceSpec)

/-- 'laws.FnFaceHidden', WHERE WHAT IT READS IS OF BULK AT MOST 1048576: true; the input reads as it did. -/
def fnFaceHiddenUptoRow : OpenClaim := { program := "ythcinellhbmcoaa", sum := "cc77e73448bab9eb4d074f1b82d3aea7daac6e127e01e227b16529f369338ac7", func := "loop.example/smithy/laws.FnFaceHidden", spec := "fnFaceHidden", inPlace := ["internal/bytealg.abigen_runtime_cmpstring"], unfollowed := true, recurses := true, apart := false, narrowed := true }
def FnFaceHiddenUptoSaid : Prop := fnFaceHiddenUptoRow.holds Try.pinned (OpenSpec.upto fnFaceHiddenSpec)

/-- 'laws.FnExactTreeNodes', WHERE WHAT IT READS IS OF BULK AT MOST 1048576: true; the input reads as it did. -/
def fnExactTreeNodesUptoRow : OpenClaim := { program := "ythcinellhbmcoaa", sum := "cc77e73448bab9eb4d074f1b82d3aea7daac6e127e01e227b16529f369338ac7", func := "loop.example/smithy/laws.FnExactTreeNodes", spec := "fnExactTreeNodes", recurses := true, loops := true, apart := false, narrowed := true }
def FnExactTreeNodesUptoSaid : Prop := fnExactTreeNodesUptoRow.holds Try.pinned (OpenSpec.upto fnExactTreeNodesSpec)

end Rows
end Go.Proofs.Ythcinellhbmcoaa
