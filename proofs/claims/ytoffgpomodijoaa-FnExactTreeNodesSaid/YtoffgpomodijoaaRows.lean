/-
  NARROWER THAN 'FOR EVERY INPUT', by the rows' own cells (each row's printed sentence says how): FnExactTreeNodes: loops.
  DERIVED. THE GIVEN ROWS OF THIS SEAT. 7 by the template 'for every input the law returns true; each argument reads behind the call as it read before'; 0 by the template 'total and deterministic' (their statements: YtoffgpomodijoaaTotals.lean).
  GIVEN WITH THE SEED: the statements are not yours to turn. If you find one false, say at which input.
  Laid BY PROGRAM, IN A SANDBOX (cutbox-rows.mjs): the forced cells as the released guide's own fill.sh prints them over the translation b558c4977ae61edb… (all of the seat's roots in one cut). By AI agents, Wed Nov 11 2026. No macro, syntax, notation, axiom, sorry.
-/
import Derived.Test.YtoffgpomodijoaaChecked
import GoSem.Claim
import GoSem.ClaimJoined
import GoSem.ClaimMapViews
import Derived.JoinedTies
import Derived.KernelRfl
namespace Go.Proofs.Ytoffgpomodijoaa
/- THE CELL 'sum', in the pinned program and in every row, IS THE sha256 OF THE DUMP (.gsa) THAT YtoffgpomodijoaaProg.lean LOADS. Nothing in Lean hashes anything: it is a label: what it is worth is what the hold of that sum in a sandbox is worth. -/
noncomputable def Try.pinned : Pinned := { name := "ytoffgpomodijoaa", sum := "b558c4977ae61edb7705601e8454d2aa74b035bd68102f0ce8604ac72ef7e42b", checked := Try.checked }
namespace Rows
def none {H : Type} : Left H := { results := [], args := [] }

/-- 'laws.FnExactConstants': WHATEVER THE INPUT: true; the input reads as it did. -/
def fnExactConstantsSpec : ChangeSpec := { name := "fnExactConstants", fn := fun _ => fun
  | [] => { results := [.lit (.bool true)], args := [] }
  | _ => none }
def fnExactConstantsRow : OpenClaim := { program := "ytoffgpomodijoaa", sum := "b558c4977ae61edb7705601e8454d2aa74b035bd68102f0ce8604ac72ef7e42b", func := "loop.example/smithy/laws.FnExactConstants", spec := "fnExactConstants", apart := false }
def FnExactConstantsSaid : Prop := fnExactConstantsRow.holds Try.pinned (OpenSpec.ofChange fnExactConstantsSpec)

/-- ITS FALSE NEIGHBOUR: 'it returns false'. Refute it at one input. -/
def fnExactConstantsWrong : ChangeSpec := { name := "fnExactConstants", fn := fun _ => fun
  | [] => { results := [.lit (.bool false)], args := [] }
  | _ => none }
def FnExactConstantsWrongFalsely : Prop := fnExactConstantsRow.holds Try.pinned (OpenSpec.ofChange fnExactConstantsWrong)

/-- 'laws.FnExactTreeArity': WHATEVER THE INPUT: true; the input reads as it did. -/
def fnExactTreeAritySpec : ChangeSpec := { name := "fnExactTreeArity", fn := fun _ => fun
  | [d] => { results := [.lit (.bool true)], args := [d] }
  | _ => none }
def fnExactTreeArityRow : OpenClaim := { program := "ytoffgpomodijoaa", sum := "b558c4977ae61edb7705601e8454d2aa74b035bd68102f0ce8604ac72ef7e42b", func := "loop.example/smithy/laws.FnExactTreeArity", spec := "fnExactTreeArity", apart := false }
def FnExactTreeAritySaid : Prop := fnExactTreeArityRow.holds Try.pinned (OpenSpec.ofChange fnExactTreeAritySpec)

/-- ITS FALSE NEIGHBOUR: 'it returns false'. Refute it at one input. -/
def fnExactTreeArityWrong : ChangeSpec := { name := "fnExactTreeArity", fn := fun _ => fun
  | [d] => { results := [.lit (.bool false)], args := [d] }
  | _ => none }
def FnExactTreeArityWrongFalsely : Prop := fnExactTreeArityRow.holds Try.pinned (OpenSpec.ofChange fnExactTreeArityWrong)

/-- 'laws.FnExactLexName': WHATEVER THE INPUT: true; the input reads as it did. -/
def fnExactLexNameSpec : ChangeSpec := { name := "fnExactLexName", fn := fun _ => fun
  | [d] => { results := [.lit (.bool true)], args := [d] }
  | _ => none }
def fnExactLexNameRow : OpenClaim := { program := "ytoffgpomodijoaa", sum := "b558c4977ae61edb7705601e8454d2aa74b035bd68102f0ce8604ac72ef7e42b", func := "loop.example/smithy/laws.FnExactLexName", spec := "fnExactLexName", apart := false }
def FnExactLexNameSaid : Prop := fnExactLexNameRow.holds Try.pinned (OpenSpec.ofChange fnExactLexNameSpec)

/-- ITS FALSE NEIGHBOUR: 'it returns false'. Refute it at one input. -/
def fnExactLexNameWrong : ChangeSpec := { name := "fnExactLexName", fn := fun _ => fun
  | [d] => { results := [.lit (.bool false)], args := [d] }
  | _ => none }
def FnExactLexNameWrongFalsely : Prop := fnExactLexNameRow.holds Try.pinned (OpenSpec.ofChange fnExactLexNameWrong)

/-- 'laws.FnExactLexJoin': WHATEVER THE INPUT: true; the input reads as it did. -/
def fnExactLexJoinSpec : ChangeSpec := { name := "fnExactLexJoin", fn := fun _ => fun
  | [d] => { results := [.lit (.bool true)], args := [d] }
  | _ => none }
def fnExactLexJoinRow : OpenClaim := { program := "ytoffgpomodijoaa", sum := "b558c4977ae61edb7705601e8454d2aa74b035bd68102f0ce8604ac72ef7e42b", func := "loop.example/smithy/laws.FnExactLexJoin", spec := "fnExactLexJoin", inPlace := ["internal/abi.NoEscape"], apart := false }
def FnExactLexJoinSaid : Prop := fnExactLexJoinRow.holds Try.pinned (OpenSpec.ofChange fnExactLexJoinSpec)

/-- ITS FALSE NEIGHBOUR: 'it returns false'. Refute it at one input. -/
def fnExactLexJoinWrong : ChangeSpec := { name := "fnExactLexJoin", fn := fun _ => fun
  | [d] => { results := [.lit (.bool false)], args := [d] }
  | _ => none }
def FnExactLexJoinWrongFalsely : Prop := fnExactLexJoinRow.holds Try.pinned (OpenSpec.ofChange fnExactLexJoinWrong)

/-- 'laws.FnExactTypePrim': WHATEVER THE INPUT: true; the input reads as it did. -/
def fnExactTypePrimSpec : ChangeSpec := { name := "fnExactTypePrim", fn := fun _ => fun
  | [d] => { results := [.lit (.bool true)], args := [d] }
  | _ => none }
def fnExactTypePrimRow : OpenClaim := { program := "ytoffgpomodijoaa", sum := "b558c4977ae61edb7705601e8454d2aa74b035bd68102f0ce8604ac72ef7e42b", func := "loop.example/smithy/laws.FnExactTypePrim", spec := "fnExactTypePrim", apart := false }
def FnExactTypePrimSaid : Prop := fnExactTypePrimRow.holds Try.pinned (OpenSpec.ofChange fnExactTypePrimSpec)

/-- ITS FALSE NEIGHBOUR: 'it returns false'. Refute it at one input. -/
def fnExactTypePrimWrong : ChangeSpec := { name := "fnExactTypePrim", fn := fun _ => fun
  | [d] => { results := [.lit (.bool false)], args := [d] }
  | _ => none }
def FnExactTypePrimWrongFalsely : Prop := fnExactTypePrimRow.holds Try.pinned (OpenSpec.ofChange fnExactTypePrimWrong)

/-- 'laws.FnExactTreeNodes': WHATEVER THE INPUT: true; the input reads as it did. -/
def fnExactTreeNodesSpec : ChangeSpec := { name := "fnExactTreeNodes", fn := fun _ => fun
  | [d] => { results := [.lit (.bool true)], args := [d] }
  | _ => none }
def fnExactTreeNodesRow : OpenClaim := { program := "ytoffgpomodijoaa", sum := "b558c4977ae61edb7705601e8454d2aa74b035bd68102f0ce8604ac72ef7e42b", func := "loop.example/smithy/laws.FnExactTreeNodes", spec := "fnExactTreeNodes", recurses := true, loops := true, apart := false }
def FnExactTreeNodesSaid : Prop := fnExactTreeNodesRow.holds Try.pinned (OpenSpec.ofChange fnExactTreeNodesSpec)

/-- ITS FALSE NEIGHBOUR: 'it returns false'. Refute it at one input. -/
def fnExactTreeNodesWrong : ChangeSpec := { name := "fnExactTreeNodes", fn := fun _ => fun
  | [d] => { results := [.lit (.bool false)], args := [d] }
  | _ => none }
def FnExactTreeNodesWrongFalsely : Prop := fnExactTreeNodesRow.holds Try.pinned (OpenSpec.ofChange fnExactTreeNodesWrong)

/-- 'laws.FnExactLexCut': WHATEVER THE INPUT: true; the input reads as it did. -/
def fnExactLexCutSpec : ChangeSpec := { name := "fnExactLexCut", fn := fun _ => fun
  | [d] => { results := [.lit (.bool true)], args := [d] }
  | _ => none }
def fnExactLexCutRow : OpenClaim := { program := "ytoffgpomodijoaa", sum := "b558c4977ae61edb7705601e8454d2aa74b035bd68102f0ce8604ac72ef7e42b", func := "loop.example/smithy/laws.FnExactLexCut", spec := "fnExactLexCut", apart := false }
def FnExactLexCutSaid : Prop := fnExactLexCutRow.holds Try.pinned (OpenSpec.ofChange fnExactLexCutSpec)

/-- ITS FALSE NEIGHBOUR: 'it returns false'. Refute it at one input. -/
def fnExactLexCutWrong : ChangeSpec := { name := "fnExactLexCut", fn := fun _ => fun
  | [d] => { results := [.lit (.bool false)], args := [d] }
  | _ => none }
def FnExactLexCutWrongFalsely : Prop := fnExactLexCutRow.holds Try.pinned (OpenSpec.ofChange fnExactLexCutWrong)

/- THE SECOND FORM. 'bulk': how many values and letters a reading holds, each counted each time it is reached (what is shared counts as often as it is met; a slice's spare places count too). A statement '..UptoSaid' is the law's where the arguments, and the package variables that the reading takes, are together of bulk at most 1048576: NARROWER than '..Said'. Prove '..Said' where nothing that the law and all that it calls make is longer than what came in: it says more and counts as full. Else prove '..UptoSaid'. A law counts once. -/
mutual
def uptoBulk {H : Type} : DataW H → Nat
  | .lit (.string bytes) => bytes.length + 1
  | .lit _ => 1
  | .nil => 1
  | .ptr d => uptoBulk d + 1
  | .slice elems spare => uptoBulkAll elems + uptoBulkAll spare + 1
  | .agg parts => uptoBulkAll parts + 1
  | .iface _ d => uptoBulk d + 1
  | .map entries => uptoBulkEntries entries + 1
  | .held _ => 1
def uptoBulkAll {H : Type} : List (DataW H) → Nat
  | [] => 0
  | d :: r => uptoBulk d + uptoBulkAll r
def uptoBulkEntries {H : Type} : List (Lit × DataW H) → Nat
  | [] => 0
  | x :: r => uptoBulkEntry x + uptoBulkEntries r
def uptoBulkEntry {H : Type} : Lit × DataW H → Nat
  | (.string bytes, d) => bytes.length + uptoBulk d + 1
  | (_, d) => uptoBulk d + 1
 end
def uptoSmall : (H : Type) → List (DataW H) → Bool := fun _ ds => decide (uptoBulkAll ds ≤ 1048576)
def OpenSpec.upto (s : _root_.Go.ChangeSpec) : _root_.Go.OpenSpec := { _root_.Go.OpenSpec.ofChange s with cond := some uptoSmall }

/-- 'laws.FnExactConstants', WHERE WHAT IT READS IS OF BULK AT MOST 1048576: true; the input reads as it did. -/
def fnExactConstantsUptoRow : OpenClaim := { program := "ytoffgpomodijoaa", sum := "b558c4977ae61edb7705601e8454d2aa74b035bd68102f0ce8604ac72ef7e42b", func := "loop.example/smithy/laws.FnExactConstants", spec := "fnExactConstants", apart := false, narrowed := true }
def FnExactConstantsUptoSaid : Prop := fnExactConstantsUptoRow.holds Try.pinned (OpenSpec.upto fnExactConstantsSpec)

/-- 'laws.FnExactTreeArity', WHERE WHAT IT READS IS OF BULK AT MOST 1048576: true; the input reads as it did. -/
def fnExactTreeArityUptoRow : OpenClaim := { program := "ytoffgpomodijoaa", sum := "b558c4977ae61edb7705601e8454d2aa74b035bd68102f0ce8604ac72ef7e42b", func := "loop.example/smithy/laws.FnExactTreeArity", spec := "fnExactTreeArity", apart := false, narrowed := true }
def FnExactTreeArityUptoSaid : Prop := fnExactTreeArityUptoRow.holds Try.pinned (OpenSpec.upto fnExactTreeAritySpec)

/-- 'laws.FnExactLexName', WHERE WHAT IT READS IS OF BULK AT MOST 1048576: true; the input reads as it did. -/
def fnExactLexNameUptoRow : OpenClaim := { program := "ytoffgpomodijoaa", sum := "b558c4977ae61edb7705601e8454d2aa74b035bd68102f0ce8604ac72ef7e42b", func := "loop.example/smithy/laws.FnExactLexName", spec := "fnExactLexName", apart := false, narrowed := true }
def FnExactLexNameUptoSaid : Prop := fnExactLexNameUptoRow.holds Try.pinned (OpenSpec.upto fnExactLexNameSpec)

/-- 'laws.FnExactLexJoin', WHERE WHAT IT READS IS OF BULK AT MOST 1048576: true; the input reads as it did. -/
def fnExactLexJoinUptoRow : OpenClaim := { program := "ytoffgpomodijoaa", sum := "b558c4977ae61edb7705601e8454d2aa74b035bd68102f0ce8604ac72ef7e42b", func := "loop.example/smithy/laws.FnExactLexJoin", spec := "fnExactLexJoin", inPlace := ["internal/abi.NoEscape"], apart := false, narrowed := true }
def FnExactLexJoinUptoSaid : Prop := fnExactLexJoinUptoRow.holds Try.pinned (OpenSpec.upto fnExactLexJoinSpec)

/-- 'laws.FnExactTypePrim', WHERE WHAT IT READS IS OF BULK AT MOST 1048576: true; the input reads as it did. -/
def fnExactTypePrimUptoRow : OpenClaim := { program := "ytoffgpomodijoaa", sum := "b558c4977ae61edb7705601e8454d2aa74b035bd68102f0ce8604ac72ef7e42b", func := "loop.example/smithy/laws.FnExactTypePrim", spec := "fnExactTypePrim", apart := false, narrowed := true }
def FnExactTypePrimUptoSaid : Prop := fnExactTypePrimUptoRow.holds Try.pinned (OpenSpec.upto fnExactTypePrimSpec)

/-- 'laws.FnExactTreeNodes', WHERE WHAT IT READS IS OF BULK AT MOST 1048576: true; the input reads as it did. -/
def fnExactTreeNodesUptoRow : OpenClaim := { program := "ytoffgpomodijoaa", sum := "b558c4977ae61edb7705601e8454d2aa74b035bd68102f0ce8604ac72ef7e42b", func := "loop.example/smithy/laws.FnExactTreeNodes", spec := "fnExactTreeNodes", recurses := true, loops := true, apart := false, narrowed := true }
def FnExactTreeNodesUptoSaid : Prop := fnExactTreeNodesUptoRow.holds Try.pinned (OpenSpec.upto fnExactTreeNodesSpec)

/-- 'laws.FnExactLexCut', WHERE WHAT IT READS IS OF BULK AT MOST 1048576: true; the input reads as it did. -/
def fnExactLexCutUptoRow : OpenClaim := { program := "ytoffgpomodijoaa", sum := "b558c4977ae61edb7705601e8454d2aa74b035bd68102f0ce8604ac72ef7e42b", func := "loop.example/smithy/laws.FnExactLexCut", spec := "fnExactLexCut", apart := false, narrowed := true }
def FnExactLexCutUptoSaid : Prop := fnExactLexCutUptoRow.holds Try.pinned (OpenSpec.upto fnExactLexCutSpec)

end Rows
end Go.Proofs.Ytoffgpomodijoaa
