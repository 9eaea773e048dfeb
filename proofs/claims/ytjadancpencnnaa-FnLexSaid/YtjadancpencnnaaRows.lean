/-
  No cell of these rows narrows 'for every input' (looked for: loops, veiled, ifaces, maps, wideKeys, modest, calm, conditions, laid).
  DERIVED. THE GIVEN ROWS OF THIS SEAT. 7 by the template 'for every input the law returns true; each argument reads behind the call as it read before'; 0 by the template 'total and deterministic' (their statements: YtjadancpencnnaaTotals.lean).
  GIVEN WITH THE SEED: the statements are not yours to turn. If you find one false, say at which input.
  Laid BY PROGRAM, IN A SANDBOX (cutbox-rows.mjs): the forced cells as the released guide's own fill.sh prints them over the translation 8b6e1188fdc7abe9… (all of the seat's roots in one cut). By AI agents, Wed Nov 11 2026. No macro, syntax, notation, axiom, sorry.
-/
import Derived.Test.YtjadancpencnnaaChecked
import GoSem.Claim
import GoSem.ClaimJoined
import GoSem.ClaimMapViews
import Derived.JoinedTies
import Derived.KernelRfl
namespace Go.Proofs.Ytjadancpencnnaa
/- THE CELL 'sum', in the pinned program and in every row, IS THE sha256 OF THE DUMP (.gsa) THAT YtjadancpencnnaaProg.lean LOADS. Nothing in Lean hashes anything: it is a label: what it is worth is what the hold of that sum in a sandbox is worth. -/
noncomputable def Try.pinned : Pinned := { name := "ytjadancpencnnaa", sum := "8b6e1188fdc7abe99ac46b869bdc4abc7b5fd37964ad6443c7714a5c48030c45", checked := Try.checked }
namespace Rows
def none {H : Type} : Left H := { results := [], args := [] }

/-- 'laws.FnExactLexJoin': WHATEVER THE INPUT: true; the input reads as it did. -/
def fnExactLexJoinSpec : ChangeSpec := { name := "fnExactLexJoin", fn := fun _ => fun
  | [d] => { results := [.lit (.bool true)], args := [d] }
  | _ => none }
def fnExactLexJoinRow : OpenClaim := { program := "ytjadancpencnnaa", sum := "8b6e1188fdc7abe99ac46b869bdc4abc7b5fd37964ad6443c7714a5c48030c45", func := "loop.example/smithy/laws.FnExactLexJoin", spec := "fnExactLexJoin", inPlace := ["internal/abi.NoEscape"], apart := false }
def FnExactLexJoinSaid : Prop := fnExactLexJoinRow.holds Try.pinned (OpenSpec.ofChange fnExactLexJoinSpec)

/-- ITS FALSE NEIGHBOUR: 'it returns false'. Refute it at one input. -/
def fnExactLexJoinWrong : ChangeSpec := { name := "fnExactLexJoin", fn := fun _ => fun
  | [d] => { results := [.lit (.bool false)], args := [d] }
  | _ => none }
def FnExactLexJoinWrongFalsely : Prop := fnExactLexJoinRow.holds Try.pinned (OpenSpec.ofChange fnExactLexJoinWrong)

/-- 'laws.FnExactGraphOrder': WHATEVER THE INPUT: true; the input reads as it did. -/
def fnExactGraphOrderSpec : ChangeSpec := { name := "fnExactGraphOrder", fn := fun _ => fun
  | [d] => { results := [.lit (.bool true)], args := [d] }
  | _ => none }
def fnExactGraphOrderRow : OpenClaim := { program := "ytjadancpencnnaa", sum := "8b6e1188fdc7abe99ac46b869bdc4abc7b5fd37964ad6443c7714a5c48030c45", func := "loop.example/smithy/laws.FnExactGraphOrder", spec := "fnExactGraphOrder", unfollowed := true, recurses := true, apart := false }
def FnExactGraphOrderSaid : Prop := fnExactGraphOrderRow.holds Try.pinned (OpenSpec.ofChange fnExactGraphOrderSpec)

/-- ITS FALSE NEIGHBOUR: 'it returns false'. Refute it at one input. -/
def fnExactGraphOrderWrong : ChangeSpec := { name := "fnExactGraphOrder", fn := fun _ => fun
  | [d] => { results := [.lit (.bool false)], args := [d] }
  | _ => none }
def FnExactGraphOrderWrongFalsely : Prop := fnExactGraphOrderRow.holds Try.pinned (OpenSpec.ofChange fnExactGraphOrderWrong)

/-- 'laws.FnExactLinkFind': WHATEVER THE INPUT: true; the input reads as it did. -/
def fnExactLinkFindSpec : ChangeSpec := { name := "fnExactLinkFind", fn := fun _ => fun
  | [d1, d2, d3] => { results := [.lit (.bool true)], args := [d1, d2, d3] }
  | _ => none }
def fnExactLinkFindRow : OpenClaim := { program := "ytjadancpencnnaa", sum := "8b6e1188fdc7abe99ac46b869bdc4abc7b5fd37964ad6443c7714a5c48030c45", func := "loop.example/smithy/laws.FnExactLinkFind", spec := "fnExactLinkFind", unfollowed := true, recurses := true, apart := false }
def FnExactLinkFindSaid : Prop := fnExactLinkFindRow.holds Try.pinned (OpenSpec.ofChange fnExactLinkFindSpec)

/-- ITS FALSE NEIGHBOUR: 'it returns false'. Refute it at one input. -/
def fnExactLinkFindWrong : ChangeSpec := { name := "fnExactLinkFind", fn := fun _ => fun
  | [d1, d2, d3] => { results := [.lit (.bool false)], args := [d1, d2, d3] }
  | _ => none }
def FnExactLinkFindWrongFalsely : Prop := fnExactLinkFindRow.holds Try.pinned (OpenSpec.ofChange fnExactLinkFindWrong)

/-- 'laws.FnExactGraphRound': WHATEVER THE INPUT: true; the input reads as it did. -/
def fnExactGraphRoundSpec : ChangeSpec := { name := "fnExactGraphRound", fn := fun _ => fun
  | [d] => { results := [.lit (.bool true)], args := [d] }
  | _ => none }
def fnExactGraphRoundRow : OpenClaim := { program := "ytjadancpencnnaa", sum := "8b6e1188fdc7abe99ac46b869bdc4abc7b5fd37964ad6443c7714a5c48030c45", func := "loop.example/smithy/laws.FnExactGraphRound", spec := "fnExactGraphRound", unfollowed := true, recurses := true, apart := false }
def FnExactGraphRoundSaid : Prop := fnExactGraphRoundRow.holds Try.pinned (OpenSpec.ofChange fnExactGraphRoundSpec)

/-- ITS FALSE NEIGHBOUR: 'it returns false'. Refute it at one input. -/
def fnExactGraphRoundWrong : ChangeSpec := { name := "fnExactGraphRound", fn := fun _ => fun
  | [d] => { results := [.lit (.bool false)], args := [d] }
  | _ => none }
def FnExactGraphRoundWrongFalsely : Prop := fnExactGraphRoundRow.holds Try.pinned (OpenSpec.ofChange fnExactGraphRoundWrong)

/-- 'laws.FnExactGraphBehind': WHATEVER THE INPUT: true; the input reads as it did. -/
def fnExactGraphBehindSpec : ChangeSpec := { name := "fnExactGraphBehind", fn := fun _ => fun
  | [d1, d2] => { results := [.lit (.bool true)], args := [d1, d2] }
  | _ => none }
def fnExactGraphBehindRow : OpenClaim := { program := "ytjadancpencnnaa", sum := "8b6e1188fdc7abe99ac46b869bdc4abc7b5fd37964ad6443c7714a5c48030c45", func := "loop.example/smithy/laws.FnExactGraphBehind", spec := "fnExactGraphBehind", unfollowed := true, recurses := true, apart := false }
def FnExactGraphBehindSaid : Prop := fnExactGraphBehindRow.holds Try.pinned (OpenSpec.ofChange fnExactGraphBehindSpec)

/-- ITS FALSE NEIGHBOUR: 'it returns false'. Refute it at one input. -/
def fnExactGraphBehindWrong : ChangeSpec := { name := "fnExactGraphBehind", fn := fun _ => fun
  | [d1, d2] => { results := [.lit (.bool false)], args := [d1, d2] }
  | _ => none }
def FnExactGraphBehindWrongFalsely : Prop := fnExactGraphBehindRow.holds Try.pinned (OpenSpec.ofChange fnExactGraphBehindWrong)

/-- 'laws.FnExactLinkCheck': WHATEVER THE INPUT: true; the input reads as it did. -/
def fnExactLinkCheckSpec : ChangeSpec := { name := "fnExactLinkCheck", fn := fun _ => fun
  | [d] => { results := [.lit (.bool true)], args := [d] }
  | _ => none }
def fnExactLinkCheckRow : OpenClaim := { program := "ytjadancpencnnaa", sum := "8b6e1188fdc7abe99ac46b869bdc4abc7b5fd37964ad6443c7714a5c48030c45", func := "loop.example/smithy/laws.FnExactLinkCheck", spec := "fnExactLinkCheck", unfollowed := true, recurses := true, apart := false }
def FnExactLinkCheckSaid : Prop := fnExactLinkCheckRow.holds Try.pinned (OpenSpec.ofChange fnExactLinkCheckSpec)

/-- ITS FALSE NEIGHBOUR: 'it returns false'. Refute it at one input. -/
def fnExactLinkCheckWrong : ChangeSpec := { name := "fnExactLinkCheck", fn := fun _ => fun
  | [d] => { results := [.lit (.bool false)], args := [d] }
  | _ => none }
def FnExactLinkCheckWrongFalsely : Prop := fnExactLinkCheckRow.holds Try.pinned (OpenSpec.ofChange fnExactLinkCheckWrong)

/-- 'laws.FnLex': WHATEVER THE INPUT: true; the input reads as it did. -/
def fnLexSpec : ChangeSpec := { name := "fnLex", fn := fun _ => fun
  | [d1, d2] => { results := [.lit (.bool true)], args := [d1, d2] }
  | _ => none }
def fnLexRow : OpenClaim := { program := "ytjadancpencnnaa", sum := "8b6e1188fdc7abe99ac46b869bdc4abc7b5fd37964ad6443c7714a5c48030c45", func := "loop.example/smithy/laws.FnLex", spec := "fnLex", inPlace := ["internal/abi.NoEscape"], apart := false }
def FnLexSaid : Prop := fnLexRow.holds Try.pinned (OpenSpec.ofChange fnLexSpec)

/-- ITS FALSE NEIGHBOUR: 'it returns false'. Refute it at one input. -/
def fnLexWrong : ChangeSpec := { name := "fnLex", fn := fun _ => fun
  | [d1, d2] => { results := [.lit (.bool false)], args := [d1, d2] }
  | _ => none }
def FnLexWrongFalsely : Prop := fnLexRow.holds Try.pinned (OpenSpec.ofChange fnLexWrong)

/- THE SECOND FORM. 'bulk': how many values and letters a reading holds, each counted each time it is reached (what is shared counts as often as it is met; a slice's spare places count too). A statement '..UptoSaid' is the law's where the arguments, and the package variables that the reading takes, are together of bulk at most 1048576: NARROWER than '..Said'. Prove '..Said' where nothing that the law and all that it calls make is longer than what came in: it says more and counts as full. Else prove '..UptoSaid'. A law counts once. -/
mutual
def uptoBulk {H : Type} : DataW H → Nat
  | .lit (.string bytes) => bytes.length + 1
  | .lit _ => 1
  | .nil => 1
  | .ptr d => uptoBulk d + 1
  | .slice elems spare => uptoBulkAll elems + uptoBulkAll spare + 1
  | .agg parts => uptoBulkAll parts + 1
  | .iface _ d => uptoBulk d + 1
  | .map entries => uptoBulkEntries entries + 1
  | .held _ => 1
def uptoBulkAll {H : Type} : List (DataW H) → Nat
  | [] => 0
  | d :: r => uptoBulk d + uptoBulkAll r
def uptoBulkEntries {H : Type} : List (Lit × DataW H) → Nat
  | [] => 0
  | x :: r => uptoBulkEntry x + uptoBulkEntries r
def uptoBulkEntry {H : Type} : Lit × DataW H → Nat
  | (.string bytes, d) => bytes.length + uptoBulk d + 1
  | (_, d) => uptoBulk d + 1
 end
def uptoSmall : (H : Type) → List (DataW H) → Bool := fun _ ds => decide (uptoBulkAll ds ≤ 1048576)
def OpenSpec.upto (s : _root_.Go.ChangeSpec) : _root_.Go.OpenSpec := { _root_.Go.OpenSpec.ofChange s with cond := some uptoSmall }

/-- 'laws.FnExactLexJoin', WHERE WHAT IT READS IS OF BULK AT MOST 1048576: true; the input reads as it did. -/
def fnExactLexJoinUptoRow : OpenClaim := { program := "ytjadancpencnnaa", sum := "8b6e1188fdc7abe99ac46b869bdc4abc7b5fd37964ad6443c7714a5c48030c45", func := "loop.example/smithy/laws.FnExactLexJoin", spec := "fnExactLexJoin", inPlace := ["internal/abi.NoEscape"], apart := false, narrowed := true }
def FnExactLexJoinUptoSaid : Prop := fnExactLexJoinUptoRow.holds Try.pinned (OpenSpec.upto fnExactLexJoinSpec)

/-- 'laws.FnExactGraphOrder', WHERE WHAT IT READS IS OF BULK AT MOST 1048576: true; the input reads as it did. -/
def fnExactGraphOrderUptoRow : OpenClaim := { program := "ytjadancpencnnaa", sum := "8b6e1188fdc7abe99ac46b869bdc4abc7b5fd37964ad6443c7714a5c48030c45", func := "loop.example/smithy/laws.FnExactGraphOrder", spec := "fnExactGraphOrder", unfollowed := true, recurses := true, apart := false, narrowed := true }
def FnExactGraphOrderUptoSaid : Prop := fnExactGraphOrderUptoRow.holds Try.pinned (OpenSpec.upto fnExactGraphOrderSpec)

/-- 'laws.FnExactLinkFind', WHERE WHAT IT READS IS OF BULK AT MOST 1048576: true; the input reads as it did. -/
def fnExactLinkFindUptoRow : OpenClaim := { program := "ytjadancpencnnaa", sum := "8b6e1188fdc7abe99ac46b869bdc4abc7b5fd37964ad6443c7714a5c48030c45", func := "loop.example/smithy/laws.FnExactLinkFind", spec := "fnExactLinkFind", unfollowed := true, recurses := true, apart := false, narrowed := true }
def FnExactLinkFindUptoSaid : Prop := fnExactLinkFindUptoRow.holds Try.pinned (OpenSpec.upto fnExactLinkFindSpec)

/-- 'laws.FnExactGraphRound', WHERE WHAT IT READS IS OF BULK AT MOST 1048576: true; the input reads as it did. -/
def fnExactGraphRoundUptoRow : OpenClaim := { program := "ytjadancpencnnaa", sum := "8b6e1188fdc7abe99ac46b869bdc4abc7b5fd37964ad6443c7714a5c48030c45", func := "loop.example/smithy/laws.FnExactGraphRound", spec := "fnExactGraphRound", unfollowed := true, recurses := true, apart := false, narrowed := true }
def FnExactGraphRoundUptoSaid : Prop := fnExactGraphRoundUptoRow.holds Try.pinned (OpenSpec.upto fnExactGraphRoundSpec)

/-- 'laws.FnExactGraphBehind', WHERE WHAT IT READS IS OF BULK AT MOST 1048576: true; the input reads as it did. -/
def fnExactGraphBehindUptoRow : OpenClaim := { program := "ytjadancpencnnaa", sum := "8b6e1188fdc7abe99ac46b869bdc4abc7b5fd37964ad6443c7714a5c48030c45", func := "loop.example/smithy/laws.FnExactGraphBehind", spec := "fnExactGraphBehind", unfollowed := true, recurses := true, apart := false, narrowed := true }
def FnExactGraphBehindUptoSaid : Prop := fnExactGraphBehindUptoRow.holds Try.pinned (OpenSpec.upto fnExactGraphBehindSpec)

/-- 'laws.FnExactLinkCheck', WHERE WHAT IT READS IS OF BULK AT MOST 1048576: true; the input reads as it did. -/
def fnExactLinkCheckUptoRow : OpenClaim := { program := "ytjadancpencnnaa", sum := "8b6e1188fdc7abe99ac46b869bdc4abc7b5fd37964ad6443c7714a5c48030c45", func := "loop.example/smithy/laws.FnExactLinkCheck", spec := "fnExactLinkCheck", unfollowed := true, recurses := true, apart := false, narrowed := true }
def FnExactLinkCheckUptoSaid : Prop := fnExactLinkCheckUptoRow.holds Try.pinned (OpenSpec.upto fnExactLinkCheckSpec)

/-- 'laws.FnLex', WHERE WHAT IT READS IS OF BULK AT MOST 1048576: true; the input reads as it did. -/
def fnLexUptoRow : OpenClaim := { program := "ytjadancpencnnaa", sum := "8b6e1188fdc7abe99ac46b869bdc4abc7b5fd37964ad6443c7714a5c48030c45", func := "loop.example/smithy/laws.FnLex", spec := "fnLex", inPlace := ["internal/abi.NoEscape"], apart := false, narrowed := true }
def FnLexUptoSaid : Prop := fnLexUptoRow.holds Try.pinned (OpenSpec.upto fnLexSpec)

end Rows
end Go.Proofs.Ytjadancpencnnaa
