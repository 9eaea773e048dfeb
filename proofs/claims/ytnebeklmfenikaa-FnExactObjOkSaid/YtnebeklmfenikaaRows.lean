/-
  No cell of these rows narrows 'for every input' (looked for: loops, veiled, ifaces, maps, wideKeys, modest, calm, conditions, laid).
  DERIVED. THE GIVEN ROWS OF THIS SEAT. 6 by the template 'for every input the law returns true; each argument reads behind the call as it read before'; 0 by the template 'total and deterministic' (their statements: YtnebeklmfenikaaTotals.lean).
  GIVEN WITH THE SEED: the statements are not yours to turn. If you find one false, say at which input.
  Laid BY PROGRAM, IN A SANDBOX (cutbox-rows.mjs): the forced cells as the released guide's own fill.sh prints them over the translation 0cada3ebb1b36e0b… (all of the seat's roots in one cut). By AI agents, Wed Nov 11 2026. No macro, syntax, notation, axiom, sorry.
-/
import Derived.Test.YtnebeklmfenikaaChecked
import GoSem.Claim
import GoSem.ClaimJoined
import GoSem.ClaimMapViews
import Derived.JoinedTies
import Derived.KernelRfl
namespace Go.Proofs.Ytnebeklmfenikaa
/- THE CELL 'sum', in the pinned program and in every row, IS THE sha256 OF THE DUMP (.gsa) THAT YtnebeklmfenikaaProg.lean LOADS. Nothing in Lean hashes anything: it is a label: what it is worth is what the hold of that sum in a sandbox is worth. -/
noncomputable def Try.pinned : Pinned := { name := "ytnebeklmfenikaa", sum := "0cada3ebb1b36e0bac09ca8b483a878dacc1d40b175aafcfb3d3f91e5c5e525b", checked := Try.checked }
namespace Rows
def none {H : Type} : Left H := { results := [], args := [] }

/-- 'laws.FnExactCodeSame': WHATEVER THE INPUT: true; the input reads as it did. -/
def fnExactCodeSameSpec : ChangeSpec := { name := "fnExactCodeSame", fn := fun _ => fun
  | [d1, d2] => { results := [.lit (.bool true)], args := [d1, d2] }
  | _ => none }
def fnExactCodeSameRow : OpenClaim := { program := "ytnebeklmfenikaa", sum := "0cada3ebb1b36e0bac09ca8b483a878dacc1d40b175aafcfb3d3f91e5c5e525b", func := "loop.example/smithy/laws.FnExactCodeSame", spec := "fnExactCodeSame", unfollowed := true, recurses := true, apart := false }
def FnExactCodeSameSaid : Prop := fnExactCodeSameRow.holds Try.pinned (OpenSpec.ofChange fnExactCodeSameSpec)

/-- ITS FALSE NEIGHBOUR: 'it returns false'. Refute it at one input. -/
def fnExactCodeSameWrong : ChangeSpec := { name := "fnExactCodeSame", fn := fun _ => fun
  | [d1, d2] => { results := [.lit (.bool false)], args := [d1, d2] }
  | _ => none }
def FnExactCodeSameWrongFalsely : Prop := fnExactCodeSameRow.holds Try.pinned (OpenSpec.ofChange fnExactCodeSameWrong)

/-- 'laws.FnExactObjOk': WHATEVER THE INPUT: true; the input reads as it did. -/
def fnExactObjOkSpec : ChangeSpec := { name := "fnExactObjOk", fn := fun _ => fun
  | [d] => { results := [.lit (.bool true)], args := [d] }
  | _ => none }
def fnExactObjOkRow : OpenClaim := { program := "ytnebeklmfenikaa", sum := "0cada3ebb1b36e0bac09ca8b483a878dacc1d40b175aafcfb3d3f91e5c5e525b", func := "loop.example/smithy/laws.FnExactObjOk", spec := "fnExactObjOk", unfollowed := true, recurses := true, apart := false }
def FnExactObjOkSaid : Prop := fnExactObjOkRow.holds Try.pinned (OpenSpec.ofChange fnExactObjOkSpec)

/-- ITS FALSE NEIGHBOUR: 'it returns false'. Refute it at one input. -/
def fnExactObjOkWrong : ChangeSpec := { name := "fnExactObjOk", fn := fun _ => fun
  | [d] => { results := [.lit (.bool false)], args := [d] }
  | _ => none }
def FnExactObjOkWrongFalsely : Prop := fnExactObjOkRow.holds Try.pinned (OpenSpec.ofChange fnExactObjOkWrong)

/-- 'laws.FnMeanPrims': WHATEVER THE INPUT: true; the input reads as it did. -/
def fnMeanPrimsSpec : ChangeSpec := { name := "fnMeanPrims", fn := fun _ => fun
  | [d] => { results := [.lit (.bool true)], args := [d] }
  | _ => none }
def fnMeanPrimsRow : OpenClaim := { program := "ytnebeklmfenikaa", sum := "0cada3ebb1b36e0bac09ca8b483a878dacc1d40b175aafcfb3d3f91e5c5e525b", func := "loop.example/smithy/laws.FnMeanPrims", spec := "fnMeanPrims", apart := false }
def FnMeanPrimsSaid : Prop := fnMeanPrimsRow.holds Try.pinned (OpenSpec.ofChange fnMeanPrimsSpec)

/-- ITS FALSE NEIGHBOUR: 'it returns false'. Refute it at one input. -/
def fnMeanPrimsWrong : ChangeSpec := { name := "fnMeanPrims", fn := fun _ => fun
  | [d] => { results := [.lit (.bool false)], args := [d] }
  | _ => none }
def FnMeanPrimsWrongFalsely : Prop := fnMeanPrimsRow.holds Try.pinned (OpenSpec.ofChange fnMeanPrimsWrong)

/-- 'laws.FnExactLinkFind': WHATEVER THE INPUT: true; the input reads as it did. -/
def fnExactLinkFindSpec : ChangeSpec := { name := "fnExactLinkFind", fn := fun _ => fun
  | [d1, d2, d3] => { results := [.lit (.bool true)], args := [d1, d2, d3] }
  | _ => none }
def fnExactLinkFindRow : OpenClaim := { program := "ytnebeklmfenikaa", sum := "0cada3ebb1b36e0bac09ca8b483a878dacc1d40b175aafcfb3d3f91e5c5e525b", func := "loop.example/smithy/laws.FnExactLinkFind", spec := "fnExactLinkFind", unfollowed := true, recurses := true, apart := false }
def FnExactLinkFindSaid : Prop := fnExactLinkFindRow.holds Try.pinned (OpenSpec.ofChange fnExactLinkFindSpec)

/-- ITS FALSE NEIGHBOUR: 'it returns false'. Refute it at one input. -/
def fnExactLinkFindWrong : ChangeSpec := { name := "fnExactLinkFind", fn := fun _ => fun
  | [d1, d2, d3] => { results := [.lit (.bool false)], args := [d1, d2, d3] }
  | _ => none }
def FnExactLinkFindWrongFalsely : Prop := fnExactLinkFindRow.holds Try.pinned (OpenSpec.ofChange fnExactLinkFindWrong)

/-- 'laws.FnExactLinkCheck': WHATEVER THE INPUT: true; the input reads as it did. -/
def fnExactLinkCheckSpec : ChangeSpec := { name := "fnExactLinkCheck", fn := fun _ => fun
  | [d] => { results := [.lit (.bool true)], args := [d] }
  | _ => none }
def fnExactLinkCheckRow : OpenClaim := { program := "ytnebeklmfenikaa", sum := "0cada3ebb1b36e0bac09ca8b483a878dacc1d40b175aafcfb3d3f91e5c5e525b", func := "loop.example/smithy/laws.FnExactLinkCheck", spec := "fnExactLinkCheck", unfollowed := true, recurses := true, apart := false }
def FnExactLinkCheckSaid : Prop := fnExactLinkCheckRow.holds Try.pinned (OpenSpec.ofChange fnExactLinkCheckSpec)

/-- ITS FALSE NEIGHBOUR: 'it returns false'. Refute it at one input. -/
def fnExactLinkCheckWrong : ChangeSpec := { name := "fnExactLinkCheck", fn := fun _ => fun
  | [d] => { results := [.lit (.bool false)], args := [d] }
  | _ => none }
def FnExactLinkCheckWrongFalsely : Prop := fnExactLinkCheckRow.holds Try.pinned (OpenSpec.ofChange fnExactLinkCheckWrong)

/-- 'laws.FnExactLinkMake': WHATEVER THE INPUT: true; the input reads as it did. -/
def fnExactLinkMakeSpec : ChangeSpec := { name := "fnExactLinkMake", fn := fun _ => fun
  | [d] => { results := [.lit (.bool true)], args := [d] }
  | _ => none }
def fnExactLinkMakeRow : OpenClaim := { program := "ytnebeklmfenikaa", sum := "0cada3ebb1b36e0bac09ca8b483a878dacc1d40b175aafcfb3d3f91e5c5e525b", func := "loop.example/smithy/laws.FnExactLinkMake", spec := "fnExactLinkMake", unfollowed := true, recurses := true, apart := false }
def FnExactLinkMakeSaid : Prop := fnExactLinkMakeRow.holds Try.pinned (OpenSpec.ofChange fnExactLinkMakeSpec)

/-- ITS FALSE NEIGHBOUR: 'it returns false'. Refute it at one input. -/
def fnExactLinkMakeWrong : ChangeSpec := { name := "fnExactLinkMake", fn := fun _ => fun
  | [d] => { results := [.lit (.bool false)], args := [d] }
  | _ => none }
def FnExactLinkMakeWrongFalsely : Prop := fnExactLinkMakeRow.holds Try.pinned (OpenSpec.ofChange fnExactLinkMakeWrong)

/- THE SECOND FORM. 'bulk': how many values and letters a reading holds, each counted each time it is reached (what is shared counts as often as it is met; a slice's spare places count too). A statement '..UptoSaid' is the law's where the arguments, and the package variables that the reading takes, are together of bulk at most 1048576: NARROWER than '..Said'. Prove '..Said' where nothing that the law and all that it calls make is longer than what came in: it says more and counts as full. Else prove '..UptoSaid'. A law counts once. -/
mutual
def uptoBulk {H : Type} : DataW H → Nat
  | .lit (.string bytes) => bytes.length + 1
  | .lit _ => 1
  | .nil => 1
  | .ptr d => uptoBulk d + 1
  | .slice elems spare => uptoBulkAll elems + uptoBulkAll spare + 1
  | .agg parts => uptoBulkAll parts + 1
  | .iface _ d => uptoBulk d + 1
  | .map entries => uptoBulkEntries entries + 1
  | .held _ => 1
def uptoBulkAll {H : Type} : List (DataW H) → Nat
  | [] => 0
  | d :: r => uptoBulk d + uptoBulkAll r
def uptoBulkEntries {H : Type} : List (Lit × DataW H) → Nat
  | [] => 0
  | x :: r => uptoBulkEntry x + uptoBulkEntries r
def uptoBulkEntry {H : Type} : Lit × DataW H → Nat
  | (.string bytes, d) => bytes.length + uptoBulk d + 1
  | (_, d) => uptoBulk d + 1
 end
def uptoSmall : (H : Type) → List (DataW H) → Bool := fun _ ds => decide (uptoBulkAll ds ≤ 1048576)
def OpenSpec.upto (s : _root_.Go.ChangeSpec) : _root_.Go.OpenSpec := { _root_.Go.OpenSpec.ofChange s with cond := some uptoSmall }

/-- 'laws.FnExactCodeSame', WHERE WHAT IT READS IS OF BULK AT MOST 1048576: true; the input reads as it did. -/
def fnExactCodeSameUptoRow : OpenClaim := { program := "ytnebeklmfenikaa", sum := "0cada3ebb1b36e0bac09ca8b483a878dacc1d40b175aafcfb3d3f91e5c5e525b", func := "loop.example/smithy/laws.FnExactCodeSame", spec := "fnExactCodeSame", unfollowed := true, recurses := true, apart := false, narrowed := true }
def FnExactCodeSameUptoSaid : Prop := fnExactCodeSameUptoRow.holds Try.pinned (OpenSpec.upto fnExactCodeSameSpec)

/-- 'laws.FnExactObjOk', WHERE WHAT IT READS IS OF BULK AT MOST 1048576: true; the input reads as it did. -/
def fnExactObjOkUptoRow : OpenClaim := { program := "ytnebeklmfenikaa", sum := "0cada3ebb1b36e0bac09ca8b483a878dacc1d40b175aafcfb3d3f91e5c5e525b", func := "loop.example/smithy/laws.FnExactObjOk", spec := "fnExactObjOk", unfollowed := true, recurses := true, apart := false, narrowed := true }
def FnExactObjOkUptoSaid : Prop := fnExactObjOkUptoRow.holds Try.pinned (OpenSpec.upto fnExactObjOkSpec)

/-- 'laws.FnMeanPrims', WHERE WHAT IT READS IS OF BULK AT MOST 1048576: true; the input reads as it did. -/
def fnMeanPrimsUptoRow : OpenClaim := { program := "ytnebeklmfenikaa", sum := "0cada3ebb1b36e0bac09ca8b483a878dacc1d40b175aafcfb3d3f91e5c5e525b", func := "loop.example/smithy/laws.FnMeanPrims", spec := "fnMeanPrims", apart := false, narrowed := true }
def FnMeanPrimsUptoSaid : Prop := fnMeanPrimsUptoRow.holds Try.pinned (OpenSpec.upto fnMeanPrimsSpec)

/-- 'laws.FnExactLinkFind', WHERE WHAT IT READS IS OF BULK AT MOST 1048576: true; the input reads as it did. -/
def fnExactLinkFindUptoRow : OpenClaim := { program := "ytnebeklmfenikaa", sum := "0cada3ebb1b36e0bac09ca8b483a878dacc1d40b175aafcfb3d3f91e5c5e525b", func := "loop.example/smithy/laws.FnExactLinkFind", spec := "fnExactLinkFind", unfollowed := true, recurses := true, apart := false, narrowed := true }
def FnExactLinkFindUptoSaid : Prop := fnExactLinkFindUptoRow.holds Try.pinned (OpenSpec.upto fnExactLinkFindSpec)

/-- 'laws.FnExactLinkCheck', WHERE WHAT IT READS IS OF BULK AT MOST 1048576: true; the input reads as it did. -/
def fnExactLinkCheckUptoRow : OpenClaim := { program := "ytnebeklmfenikaa", sum := "0cada3ebb1b36e0bac09ca8b483a878dacc1d40b175aafcfb3d3f91e5c5e525b", func := "loop.example/smithy/laws.FnExactLinkCheck", spec := "fnExactLinkCheck", unfollowed := true, recurses := true, apart := false, narrowed := true }
def FnExactLinkCheckUptoSaid : Prop := fnExactLinkCheckUptoRow.holds Try.pinned (OpenSpec.upto fnExactLinkCheckSpec)

/-- 'laws.FnExactLinkMake', WHERE WHAT IT READS IS OF BULK AT MOST 1048576: true; the input reads as it did. -/
def fnExactLinkMakeUptoRow : OpenClaim := { program := "ytnebeklmfenikaa", sum := "0cada3ebb1b36e0bac09ca8b483a878dacc1d40b175aafcfb3d3f91e5c5e525b", func := "loop.example/smithy/laws.FnExactLinkMake", spec := "fnExactLinkMake", unfollowed := true, recurses := true, apart := false, narrowed := true }
def FnExactLinkMakeUptoSaid : Prop := fnExactLinkMakeUptoRow.holds Try.pinned (OpenSpec.upto fnExactLinkMakeSpec)

end Rows
end Go.Proofs.Ytnebeklmfenikaa
