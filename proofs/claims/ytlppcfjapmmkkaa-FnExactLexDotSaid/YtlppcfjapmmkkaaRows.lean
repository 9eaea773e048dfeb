/-
  No cell of these rows narrows 'for every input' (looked for: loops, veiled, ifaces, maps, wideKeys, modest, calm, conditions, laid).
  DERIVED. THE GIVEN ROWS OF THIS SEAT. 10 by the template 'for every input the law returns true; each argument reads behind the call as it read before'; 0 by the template 'total and deterministic' (their statements: YtlppcfjapmmkkaaTotals.lean).
  GIVEN WITH THE SEED: the statements are not yours to turn. If you find one false, say at which input.
  Laid BY PROGRAM, IN A SANDBOX (cutbox-rows.mjs): the forced cells as the released guide's own fill.sh prints them over the translation e59a8d6e3cfee221… (all of the seat's roots in one cut). By AI agents, Wed Nov 11 2026. No macro, syntax, notation, axiom, sorry.
-/
import Derived.Test.YtlppcfjapmmkkaaChecked
import GoSem.Claim
import GoSem.ClaimJoined
import GoSem.ClaimMapViews
import Derived.JoinedTies
import Derived.KernelRfl
namespace Go.Proofs.Ytlppcfjapmmkkaa
/- THE CELL 'sum', in the pinned program and in every row, IS THE sha256 OF THE DUMP (.gsa) THAT YtlppcfjapmmkkaaProg.lean LOADS. Nothing in Lean hashes anything: it is a label: what it is worth is what the hold of that sum in a sandbox is worth. -/
noncomputable def Try.pinned : Pinned := { name := "ytlppcfjapmmkkaa", sum := "e59a8d6e3cfee221cd314f91c83b4651ad1f953ce619d5443985c518158f294a", checked := Try.checked }
namespace Rows
def none {H : Type} : Left H := { results := [], args := [] }

/-- 'laws.FnExactGraphOk': WHATEVER THE INPUT: true; the input reads as it did. -/
def fnExactGraphOkSpec : ChangeSpec := { name := "fnExactGraphOk", fn := fun _ => fun
  | [d] => { results := [.lit (.bool true)], args := [d] }
  | _ => none }
def fnExactGraphOkRow : OpenClaim := { program := "ytlppcfjapmmkkaa", sum := "e59a8d6e3cfee221cd314f91c83b4651ad1f953ce619d5443985c518158f294a", func := "loop.example/smithy/laws.FnExactGraphOk", spec := "fnExactGraphOk", apart := false }
def FnExactGraphOkSaid : Prop := fnExactGraphOkRow.holds Try.pinned (OpenSpec.ofChange fnExactGraphOkSpec)

/-- ITS FALSE NEIGHBOUR: 'it returns false'. Refute it at one input. -/
def fnExactGraphOkWrong : ChangeSpec := { name := "fnExactGraphOk", fn := fun _ => fun
  | [d] => { results := [.lit (.bool false)], args := [d] }
  | _ => none }
def FnExactGraphOkWrongFalsely : Prop := fnExactGraphOkRow.holds Try.pinned (OpenSpec.ofChange fnExactGraphOkWrong)

/-- 'laws.FnExactWholeOk': WHATEVER THE INPUT: true; the input reads as it did. -/
def fnExactWholeOkSpec : ChangeSpec := { name := "fnExactWholeOk", fn := fun _ => fun
  | [d] => { results := [.lit (.bool true)], args := [d] }
  | _ => none }
def fnExactWholeOkRow : OpenClaim := { program := "ytlppcfjapmmkkaa", sum := "e59a8d6e3cfee221cd314f91c83b4651ad1f953ce619d5443985c518158f294a", func := "loop.example/smithy/laws.FnExactWholeOk", spec := "fnExactWholeOk", apart := false }
def FnExactWholeOkSaid : Prop := fnExactWholeOkRow.holds Try.pinned (OpenSpec.ofChange fnExactWholeOkSpec)

/-- ITS FALSE NEIGHBOUR: 'it returns false'. Refute it at one input. -/
def fnExactWholeOkWrong : ChangeSpec := { name := "fnExactWholeOk", fn := fun _ => fun
  | [d] => { results := [.lit (.bool false)], args := [d] }
  | _ => none }
def FnExactWholeOkWrongFalsely : Prop := fnExactWholeOkRow.holds Try.pinned (OpenSpec.ofChange fnExactWholeOkWrong)

/-- 'laws.FnExactLexDot': WHATEVER THE INPUT: true; the input reads as it did. -/
def fnExactLexDotSpec : ChangeSpec := { name := "fnExactLexDot", fn := fun _ => fun
  | [d] => { results := [.lit (.bool true)], args := [d] }
  | _ => none }
def fnExactLexDotRow : OpenClaim := { program := "ytlppcfjapmmkkaa", sum := "e59a8d6e3cfee221cd314f91c83b4651ad1f953ce619d5443985c518158f294a", func := "loop.example/smithy/laws.FnExactLexDot", spec := "fnExactLexDot", inPlace := ["internal/bytealg.IndexByteString", "internal/bytealg.IndexString"], named := ["internal/bytealg.MaxLen"], apart := false }
def FnExactLexDotSaid : Prop := fnExactLexDotRow.holds Try.pinned (OpenSpec.ofChange fnExactLexDotSpec)

/-- ITS FALSE NEIGHBOUR: 'it returns false'. Refute it at one input. -/
def fnExactLexDotWrong : ChangeSpec := { name := "fnExactLexDot", fn := fun _ => fun
  | [d] => { results := [.lit (.bool false)], args := [d] }
  | _ => none }
def FnExactLexDotWrongFalsely : Prop := fnExactLexDotRow.holds Try.pinned (OpenSpec.ofChange fnExactLexDotWrong)

/-- 'laws.FnExactFaceOk': WHATEVER THE INPUT: true; the input reads as it did. -/
def fnExactFaceOkSpec : ChangeSpec := { name := "fnExactFaceOk", fn := fun _ => fun
  | [d] => { results := [.lit (.bool true)], args := [d] }
  | _ => none }
def fnExactFaceOkRow : OpenClaim := { program := "ytlppcfjapmmkkaa", sum := "e59a8d6e3cfee221cd314f91c83b4651ad1f953ce619d5443985c518158f294a", func := "loop.example/smithy/laws.FnExactFaceOk", spec := "fnExactFaceOk", unfollowed := true, recurses := true, apart := false }
def FnExactFaceOkSaid : Prop := fnExactFaceOkRow.holds Try.pinned (OpenSpec.ofChange fnExactFaceOkSpec)

/-- ITS FALSE NEIGHBOUR: 'it returns false'. Refute it at one input. -/
def fnExactFaceOkWrong : ChangeSpec := { name := "fnExactFaceOk", fn := fun _ => fun
  | [d] => { results := [.lit (.bool false)], args := [d] }
  | _ => none }
def FnExactFaceOkWrongFalsely : Prop := fnExactFaceOkRow.holds Try.pinned (OpenSpec.ofChange fnExactFaceOkWrong)

/-- 'laws.FnLex': WHATEVER THE INPUT: true; the input reads as it did. -/
def fnLexSpec : ChangeSpec := { name := "fnLex", fn := fun _ => fun
  | [d1, d2] => { results := [.lit (.bool true)], args := [d1, d2] }
  | _ => none }
def fnLexRow : OpenClaim := { program := "ytlppcfjapmmkkaa", sum := "e59a8d6e3cfee221cd314f91c83b4651ad1f953ce619d5443985c518158f294a", func := "loop.example/smithy/laws.FnLex", spec := "fnLex", inPlace := ["internal/abi.NoEscape"], apart := false }
def FnLexSaid : Prop := fnLexRow.holds Try.pinned (OpenSpec.ofChange fnLexSpec)

/-- ITS FALSE NEIGHBOUR: 'it returns false'. Refute it at one input. -/
def fnLexWrong : ChangeSpec := { name := "fnLex", fn := fun _ => fun
  | [d1, d2] => { results := [.lit (.bool false)], args := [d1, d2] }
  | _ => none }
def FnLexWrongFalsely : Prop := fnLexRow.holds Try.pinned (OpenSpec.ofChange fnLexWrong)

/-- 'laws.FnExactGraphOrder': WHATEVER THE INPUT: true; the input reads as it did. -/
def fnExactGraphOrderSpec : ChangeSpec := { name := "fnExactGraphOrder", fn := fun _ => fun
  | [d] => { results := [.lit (.bool true)], args := [d] }
  | _ => none }
def fnExactGraphOrderRow : OpenClaim := { program := "ytlppcfjapmmkkaa", sum := "e59a8d6e3cfee221cd314f91c83b4651ad1f953ce619d5443985c518158f294a", func := "loop.example/smithy/laws.FnExactGraphOrder", spec := "fnExactGraphOrder", unfollowed := true, recurses := true, apart := false }
def FnExactGraphOrderSaid : Prop := fnExactGraphOrderRow.holds Try.pinned (OpenSpec.ofChange fnExactGraphOrderSpec)

/-- ITS FALSE NEIGHBOUR: 'it returns false'. Refute it at one input. -/
def fnExactGraphOrderWrong : ChangeSpec := { name := "fnExactGraphOrder", fn := fun _ => fun
  | [d] => { results := [.lit (.bool false)], args := [d] }
  | _ => none }
def FnExactGraphOrderWrongFalsely : Prop := fnExactGraphOrderRow.holds Try.pinned (OpenSpec.ofChange fnExactGraphOrderWrong)

/-- 'laws.FnGraphBehind': WHATEVER THE INPUT: true; the input reads as it did. -/
def fnGraphBehindSpec : ChangeSpec := { name := "fnGraphBehind", fn := fun _ => fun
  | [d1, d2] => { results := [.lit (.bool true)], args := [d1, d2] }
  | _ => none }
def fnGraphBehindRow : OpenClaim := { program := "ytlppcfjapmmkkaa", sum := "e59a8d6e3cfee221cd314f91c83b4651ad1f953ce619d5443985c518158f294a", func := "loop.example/smithy/laws.FnGraphBehind", spec := "fnGraphBehind", unfollowed := true, recurses := true, apart := false }
def FnGraphBehindSaid : Prop := fnGraphBehindRow.holds Try.pinned (OpenSpec.ofChange fnGraphBehindSpec)

/-- ITS FALSE NEIGHBOUR: 'it returns false'. Refute it at one input. -/
def fnGraphBehindWrong : ChangeSpec := { name := "fnGraphBehind", fn := fun _ => fun
  | [d1, d2] => { results := [.lit (.bool false)], args := [d1, d2] }
  | _ => none }
def FnGraphBehindWrongFalsely : Prop := fnGraphBehindRow.holds Try.pinned (OpenSpec.ofChange fnGraphBehindWrong)

/-- 'laws.FnGraphOrder': WHATEVER THE INPUT: true; the input reads as it did. -/
def fnGraphOrderSpec : ChangeSpec := { name := "fnGraphOrder", fn := fun _ => fun
  | [d] => { results := [.lit (.bool true)], args := [d] }
  | _ => none }
def fnGraphOrderRow : OpenClaim := { program := "ytlppcfjapmmkkaa", sum := "e59a8d6e3cfee221cd314f91c83b4651ad1f953ce619d5443985c518158f294a", func := "loop.example/smithy/laws.FnGraphOrder", spec := "fnGraphOrder", unfollowed := true, recurses := true, apart := false }
def FnGraphOrderSaid : Prop := fnGraphOrderRow.holds Try.pinned (OpenSpec.ofChange fnGraphOrderSpec)

/-- ITS FALSE NEIGHBOUR: 'it returns false'. Refute it at one input. -/
def fnGraphOrderWrong : ChangeSpec := { name := "fnGraphOrder", fn := fun _ => fun
  | [d] => { results := [.lit (.bool false)], args := [d] }
  | _ => none }
def FnGraphOrderWrongFalsely : Prop := fnGraphOrderRow.holds Try.pinned (OpenSpec.ofChange fnGraphOrderWrong)

/-- 'laws.FnExactGraphRound': WHATEVER THE INPUT: true; the input reads as it did. -/
def fnExactGraphRoundSpec : ChangeSpec := { name := "fnExactGraphRound", fn := fun _ => fun
  | [d] => { results := [.lit (.bool true)], args := [d] }
  | _ => none }
def fnExactGraphRoundRow : OpenClaim := { program := "ytlppcfjapmmkkaa", sum := "e59a8d6e3cfee221cd314f91c83b4651ad1f953ce619d5443985c518158f294a", func := "loop.example/smithy/laws.FnExactGraphRound", spec := "fnExactGraphRound", unfollowed := true, recurses := true, apart := false }
def FnExactGraphRoundSaid : Prop := fnExactGraphRoundRow.holds Try.pinned (OpenSpec.ofChange fnExactGraphRoundSpec)

/-- ITS FALSE NEIGHBOUR: 'it returns false'. Refute it at one input. -/
def fnExactGraphRoundWrong : ChangeSpec := { name := "fnExactGraphRound", fn := fun _ => fun
  | [d] => { results := [.lit (.bool false)], args := [d] }
  | _ => none }
def FnExactGraphRoundWrongFalsely : Prop := fnExactGraphRoundRow.holds Try.pinned (OpenSpec.ofChange fnExactGraphRoundWrong)

/-- 'laws.FnExactGraphBehind': WHATEVER THE INPUT: true; the input reads as it did. -/
def fnExactGraphBehindSpec : ChangeSpec := { name := "fnExactGraphBehind", fn := fun _ => fun
  | [d1, d2] => { results := [.lit (.bool true)], args := [d1, d2] }
  | _ => none }
def fnExactGraphBehindRow : OpenClaim := { program := "ytlppcfjapmmkkaa", sum := "e59a8d6e3cfee221cd314f91c83b4651ad1f953ce619d5443985c518158f294a", func := "loop.example/smithy/laws.FnExactGraphBehind", spec := "fnExactGraphBehind", unfollowed := true, recurses := true, apart := false }
def FnExactGraphBehindSaid : Prop := fnExactGraphBehindRow.holds Try.pinned (OpenSpec.ofChange fnExactGraphBehindSpec)

/-- ITS FALSE NEIGHBOUR: 'it returns false'. Refute it at one input. -/
def fnExactGraphBehindWrong : ChangeSpec := { name := "fnExactGraphBehind", fn := fun _ => fun
  | [d1, d2] => { results := [.lit (.bool false)], args := [d1, d2] }
  | _ => none }
def FnExactGraphBehindWrongFalsely : Prop := fnExactGraphBehindRow.holds Try.pinned (OpenSpec.ofChange fnExactGraphBehindWrong)

/- THE SECOND FORM. 'bulk': how many values and letters a reading holds, each counted each time it is reached (what is shared counts as often as it is met; a slice's spare places count too). A statement '..UptoSaid' is the law's where the arguments, and the package variables that the reading takes, are together of bulk at most 1048576: NARROWER than '..Said'. Prove '..Said' where nothing that the law and all that it calls make is longer than what came in: it says more and counts as full. Else prove '..UptoSaid'. A law counts once. -/
mutual
def uptoBulk {H : Type} : DataW H → Nat
  | .lit (.string bytes) => bytes.length + 1
  | .lit _ => 1
  | .nil => 1
  | .ptr d => uptoBulk d + 1
  | .slice elems spare => uptoBulkAll elems + uptoBulkAll spare + 1
  | .agg parts => uptoBulkAll parts + 1
  | .iface _ d => uptoBulk d + 1
  | .map entries => uptoBulkEntries entries + 1
  | .held _ => 1
def uptoBulkAll {H : Type} : List (DataW H) → Nat
  | [] => 0
  | d :: r => uptoBulk d + uptoBulkAll r
def uptoBulkEntries {H : Type} : List (Lit × DataW H) → Nat
  | [] => 0
  | x :: r => uptoBulkEntry x + uptoBulkEntries r
def uptoBulkEntry {H : Type} : Lit × DataW H → Nat
  | (.string bytes, d) => bytes.length + uptoBulk d + 1
  | (_, d) => uptoBulk d + 1
 end
def uptoSmall : (H : Type) → List (DataW H) → Bool := fun _ ds => decide (uptoBulkAll ds ≤ 1048576)
def OpenSpec.upto (s : _root_.Go.ChangeSpec) : _root_.Go.OpenSpec := { _root_.Go.OpenSpec.ofChange s with cond := some uptoSmall }

/-- 'laws.FnExactGraphOk', WHERE WHAT IT READS IS OF BULK AT MOST 1048576: true; the input reads as it did. -/
def fnExactGraphOkUptoRow : OpenClaim := { program := "ytlppcfjapmmkkaa", sum := "e59a8d6e3cfee221cd314f91c83b4651ad1f953ce619d5443985c518158f294a", func := "loop.example/smithy/laws.FnExactGraphOk", spec := "fnExactGraphOk", apart := false, narrowed := true }
def FnExactGraphOkUptoSaid : Prop := fnExactGraphOkUptoRow.holds Try.pinned (OpenSpec.upto fnExactGraphOkSpec)

/-- 'laws.FnExactWholeOk', WHERE WHAT IT READS IS OF BULK AT MOST 1048576: true; the input reads as it did. -/
def fnExactWholeOkUptoRow : OpenClaim := { program := "ytlppcfjapmmkkaa", sum := "e59a8d6e3cfee221cd314f91c83b4651ad1f953ce619d5443985c518158f294a", func := "loop.example/smithy/laws.FnExactWholeOk", spec := "fnExactWholeOk", apart := false, narrowed := true }
def FnExactWholeOkUptoSaid : Prop := fnExactWholeOkUptoRow.holds Try.pinned (OpenSpec.upto fnExactWholeOkSpec)

/-- 'laws.FnExactLexDot', WHERE WHAT IT READS IS OF BULK AT MOST 1048576: true; the input reads as it did. -/
def fnExactLexDotUptoRow : OpenClaim := { program := "ytlppcfjapmmkkaa", sum := "e59a8d6e3cfee221cd314f91c83b4651ad1f953ce619d5443985c518158f294a", func := "loop.example/smithy/laws.FnExactLexDot", spec := "fnExactLexDot", inPlace := ["internal/bytealg.IndexByteString", "internal/bytealg.IndexString"], named := ["internal/bytealg.MaxLen"], apart := false, narrowed := true }
def FnExactLexDotUptoSaid : Prop := fnExactLexDotUptoRow.holds Try.pinned (OpenSpec.upto fnExactLexDotSpec)

/-- 'laws.FnExactFaceOk', WHERE WHAT IT READS IS OF BULK AT MOST 1048576: true; the input reads as it did. -/
def fnExactFaceOkUptoRow : OpenClaim := { program := "ytlppcfjapmmkkaa", sum := "e59a8d6e3cfee221cd314f91c83b4651ad1f953ce619d5443985c518158f294a", func := "loop.example/smithy/laws.FnExactFaceOk", spec := "fnExactFaceOk", unfollowed := true, recurses := true, apart := false, narrowed := true }
def FnExactFaceOkUptoSaid : Prop := fnExactFaceOkUptoRow.holds Try.pinned (OpenSpec.upto fnExactFaceOkSpec)

/-- 'laws.FnLex', WHERE WHAT IT READS IS OF BULK AT MOST 1048576: true; the input reads as it did. -/
def fnLexUptoRow : OpenClaim := { program := "ytlppcfjapmmkkaa", sum := "e59a8d6e3cfee221cd314f91c83b4651ad1f953ce619d5443985c518158f294a", func := "loop.example/smithy/laws.FnLex", spec := "fnLex", inPlace := ["internal/abi.NoEscape"], apart := false, narrowed := true }
def FnLexUptoSaid : Prop := fnLexUptoRow.holds Try.pinned (OpenSpec.upto fnLexSpec)

/-- 'laws.FnExactGraphOrder', WHERE WHAT IT READS IS OF BULK AT MOST 1048576: true; the input reads as it did. -/
def fnExactGraphOrderUptoRow : OpenClaim := { program := "ytlppcfjapmmkkaa", sum := "e59a8d6e3cfee221cd314f91c83b4651ad1f953ce619d5443985c518158f294a", func := "loop.example/smithy/laws.FnExactGraphOrder", spec := "fnExactGraphOrder", unfollowed := true, recurses := true, apart := false, narrowed := true }
def FnExactGraphOrderUptoSaid : Prop := fnExactGraphOrderUptoRow.holds Try.pinned (OpenSpec.upto fnExactGraphOrderSpec)

/-- 'laws.FnGraphBehind', WHERE WHAT IT READS IS OF BULK AT MOST 1048576: true; the input reads as it did. -/
def fnGraphBehindUptoRow : OpenClaim := { program := "ytlppcfjapmmkkaa", sum := "e59a8d6e3cfee221cd314f91c83b4651ad1f953ce619d5443985c518158f294a", func := "loop.example/smithy/laws.FnGraphBehind", spec := "fnGraphBehind", unfollowed := true, recurses := true, apart := false, narrowed := true }
def FnGraphBehindUptoSaid : Prop := fnGraphBehindUptoRow.holds Try.pinned (OpenSpec.upto fnGraphBehindSpec)

/-- 'laws.FnGraphOrder', WHERE WHAT IT READS IS OF BULK AT MOST 1048576: true; the input reads as it did. -/
def fnGraphOrderUptoRow : OpenClaim := { program := "ytlppcfjapmmkkaa", sum := "e59a8d6e3cfee221cd314f91c83b4651ad1f953ce619d5443985c518158f294a", func := "loop.example/smithy/laws.FnGraphOrder", spec := "fnGraphOrder", unfollowed := true, recurses := true, apart := false, narrowed := true }
def FnGraphOrderUptoSaid : Prop := fnGraphOrderUptoRow.holds Try.pinned (OpenSpec.upto fnGraphOrderSpec)

/-- 'laws.FnExactGraphRound', WHERE WHAT IT READS IS OF BULK AT MOST 1048576: true; the input reads as it did. -/
def fnExactGraphRoundUptoRow : OpenClaim := { program := "ytlppcfjapmmkkaa", sum := "e59a8d6e3cfee221cd314f91c83b4651ad1f953ce619d5443985c518158f294a", func := "loop.example/smithy/laws.FnExactGraphRound", spec := "fnExactGraphRound", unfollowed := true, recurses := true, apart := false, narrowed := true }
def FnExactGraphRoundUptoSaid : Prop := fnExactGraphRoundUptoRow.holds Try.pinned (OpenSpec.upto fnExactGraphRoundSpec)

/-- 'laws.FnExactGraphBehind', WHERE WHAT IT READS IS OF BULK AT MOST 1048576: true; the input reads as it did. -/
def fnExactGraphBehindUptoRow : OpenClaim := { program := "ytlppcfjapmmkkaa", sum := "e59a8d6e3cfee221cd314f91c83b4651ad1f953ce619d5443985c518158f294a", func := "loop.example/smithy/laws.FnExactGraphBehind", spec := "fnExactGraphBehind", unfollowed := true, recurses := true, apart := false, narrowed := true }
def FnExactGraphBehindUptoSaid : Prop := fnExactGraphBehindUptoRow.holds Try.pinned (OpenSpec.upto fnExactGraphBehindSpec)

end Rows
end Go.Proofs.Ytlppcfjapmmkkaa
