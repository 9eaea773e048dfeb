/-
  No cell of these rows narrows 'for every input' (looked for: loops, veiled, ifaces, maps, wideKeys, modest, calm, conditions, laid).
  DERIVED. THE GIVEN ROWS OF THIS SEAT. 4 by the template 'for every input the law returns true; each argument reads behind the call as it read before'; 0 by the template 'total and deterministic' (their statements: YtghkdjfgbaoplaaTotals.lean).
  GIVEN WITH THE SEED: the statements are not yours to turn. If you find one false, say at which input.
  Laid BY PROGRAM, IN A SANDBOX (cutbox-rows.mjs): the forced cells as the released guide's own fill.sh prints them over the translation cf832c34da2504a8… (all of the seat's roots in one cut). By AI agents, Wed Nov 11 2026. No macro, syntax, notation, axiom, sorry.
-/
import Derived.Test.YtghkdjfgbaoplaaChecked
import GoSem.Claim
import GoSem.ClaimJoined
import GoSem.ClaimMapViews
import Derived.JoinedTies
import Derived.KernelRfl
namespace Go.Proofs.Ytghkdjfgbaoplaa
/- THE CELL 'sum', in the pinned program and in every row, IS THE sha256 OF THE DUMP (.gsa) THAT YtghkdjfgbaoplaaProg.lean LOADS. Nothing in Lean hashes anything: it is a label: what it is worth is what the hold of that sum in a sandbox is worth. -/
noncomputable def Try.pinned : Pinned := { name := "ytghkdjfgbaoplaa", sum := "cf832c34da2504a8cb25e6019ec8abda86b0eb0875913414a2d286a7ae447d5c", checked := Try.checked }
namespace Rows
def none {H : Type} : Left H := { results := [], args := [] }

/-- 'laws.FnExactLinkMake': WHATEVER THE INPUT: true; the input reads as it did. -/
def fnExactLinkMakeSpec : ChangeSpec := { name := "fnExactLinkMake", fn := fun _ => fun
  | [d] => { results := [.lit (.bool true)], args := [d] }
  | _ => none }
def fnExactLinkMakeRow : OpenClaim := { program := "ytghkdjfgbaoplaa", sum := "cf832c34da2504a8cb25e6019ec8abda86b0eb0875913414a2d286a7ae447d5c", func := "loop.example/smithy/laws.FnExactLinkMake", spec := "fnExactLinkMake", unfollowed := true, recurses := true, apart := false }
def FnExactLinkMakeSaid : Prop := fnExactLinkMakeRow.holds Try.pinned (OpenSpec.ofChange fnExactLinkMakeSpec)

/-- ITS FALSE NEIGHBOUR: 'it returns false'. Refute it at one input. -/
def fnExactLinkMakeWrong : ChangeSpec := { name := "fnExactLinkMake", fn := fun _ => fun
  | [d] => { results := [.lit (.bool false)], args := [d] }
  | _ => none }
def FnExactLinkMakeWrongFalsely : Prop := fnExactLinkMakeRow.holds Try.pinned (OpenSpec.ofChange fnExactLinkMakeWrong)

/-- 'laws.FnMeanPrims': WHATEVER THE INPUT: true; the input reads as it did. -/
def fnMeanPrimsSpec : ChangeSpec := { name := "fnMeanPrims", fn := fun _ => fun
  | [d] => { results := [.lit (.bool true)], args := [d] }
  | _ => none }
def fnMeanPrimsRow : OpenClaim := { program := "ytghkdjfgbaoplaa", sum := "cf832c34da2504a8cb25e6019ec8abda86b0eb0875913414a2d286a7ae447d5c", func := "loop.example/smithy/laws.FnMeanPrims", spec := "fnMeanPrims", apart := false }
def FnMeanPrimsSaid : Prop := fnMeanPrimsRow.holds Try.pinned (OpenSpec.ofChange fnMeanPrimsSpec)

/-- ITS FALSE NEIGHBOUR: 'it returns false'. Refute it at one input. -/
def fnMeanPrimsWrong : ChangeSpec := { name := "fnMeanPrims", fn := fun _ => fun
  | [d] => { results := [.lit (.bool false)], args := [d] }
  | _ => none }
def FnMeanPrimsWrongFalsely : Prop := fnMeanPrimsRow.holds Try.pinned (OpenSpec.ofChange fnMeanPrimsWrong)

/-- 'laws.FnGraphBehind': WHATEVER THE INPUT: true; the input reads as it did. -/
def fnGraphBehindSpec : ChangeSpec := { name := "fnGraphBehind", fn := fun _ => fun
  | [d1, d2] => { results := [.lit (.bool true)], args := [d1, d2] }
  | _ => none }
def fnGraphBehindRow : OpenClaim := { program := "ytghkdjfgbaoplaa", sum := "cf832c34da2504a8cb25e6019ec8abda86b0eb0875913414a2d286a7ae447d5c", func := "loop.example/smithy/laws.FnGraphBehind", spec := "fnGraphBehind", unfollowed := true, recurses := true, apart := false }
def FnGraphBehindSaid : Prop := fnGraphBehindRow.holds Try.pinned (OpenSpec.ofChange fnGraphBehindSpec)

/-- ITS FALSE NEIGHBOUR: 'it returns false'. Refute it at one input. -/
def fnGraphBehindWrong : ChangeSpec := { name := "fnGraphBehind", fn := fun _ => fun
  | [d1, d2] => { results := [.lit (.bool false)], args := [d1, d2] }
  | _ => none }
def FnGraphBehindWrongFalsely : Prop := fnGraphBehindRow.holds Try.pinned (OpenSpec.ofChange fnGraphBehindWrong)

/-- 'laws.FnGraphOrder': WHATEVER THE INPUT: true; the input reads as it did. -/
def fnGraphOrderSpec : ChangeSpec := { name := "fnGraphOrder", fn := fun _ => fun
  | [d] => { results := [.lit (.bool true)], args := [d] }
  | _ => none }
def fnGraphOrderRow : OpenClaim := { program := "ytghkdjfgbaoplaa", sum := "cf832c34da2504a8cb25e6019ec8abda86b0eb0875913414a2d286a7ae447d5c", func := "loop.example/smithy/laws.FnGraphOrder", spec := "fnGraphOrder", unfollowed := true, recurses := true, apart := false }
def FnGraphOrderSaid : Prop := fnGraphOrderRow.holds Try.pinned (OpenSpec.ofChange fnGraphOrderSpec)

/-- ITS FALSE NEIGHBOUR: 'it returns false'. Refute it at one input. -/
def fnGraphOrderWrong : ChangeSpec := { name := "fnGraphOrder", fn := fun _ => fun
  | [d] => { results := [.lit (.bool false)], args := [d] }
  | _ => none }
def FnGraphOrderWrongFalsely : Prop := fnGraphOrderRow.holds Try.pinned (OpenSpec.ofChange fnGraphOrderWrong)

/- THE SECOND FORM. 'bulk': how many values and letters a reading holds, each counted each time it is reached (what is shared counts as often as it is met; a slice's spare places count too). A statement '..UptoSaid' is the law's where the arguments, and the package variables that the reading takes, are together of bulk at most 1048576: NARROWER than '..Said'. Prove '..Said' where nothing that the law and all that it calls make is longer than what came in: it says more and counts as full. Else prove '..UptoSaid'. A law counts once. -/
mutual
def uptoBulk {H : Type} : DataW H → Nat
  | .lit (.string bytes) => bytes.length + 1
  | .lit _ => 1
  | .nil => 1
  | .ptr d => uptoBulk d + 1
  | .slice elems spare => uptoBulkAll elems + uptoBulkAll spare + 1
  | .agg parts => uptoBulkAll parts + 1
  | .iface _ d => uptoBulk d + 1
  | .map entries => uptoBulkEntries entries + 1
  | .held _ => 1
def uptoBulkAll {H : Type} : List (DataW H) → Nat
  | [] => 0
  | d :: r => uptoBulk d + uptoBulkAll r
def uptoBulkEntries {H : Type} : List (Lit × DataW H) → Nat
  | [] => 0
  | x :: r => uptoBulkEntry x + uptoBulkEntries r
def uptoBulkEntry {H : Type} : Lit × DataW H → Nat
  | (.string bytes, d) => bytes.length + uptoBulk d + 1
  | (_, d) => uptoBulk d + 1
 end
def uptoSmall : (H : Type) → List (DataW H) → Bool := fun _ ds => decide (uptoBulkAll ds ≤ 1048576)
def OpenSpec.upto (s : _root_.Go.ChangeSpec) : _root_.Go.OpenSpec := { _root_.Go.OpenSpec.ofChange s with cond := some uptoSmall }

/-- 'laws.FnExactLinkMake', WHERE WHAT IT READS IS OF BULK AT MOST 1048576: true; the input reads as it did. -/
def fnExactLinkMakeUptoRow : OpenClaim := { program := "ytghkdjfgbaoplaa", sum := "cf832c34da2504a8cb25e6019ec8abda86b0eb0875913414a2d286a7ae447d5c", func := "loop.example/smithy/laws.FnExactLinkMake", spec := "fnExactLinkMake", unfollowed := true, recurses := true, apart := false, narrowed := true }
def FnExactLinkMakeUptoSaid : Prop := fnExactLinkMakeUptoRow.holds Try.pinned (OpenSpec.upto fnExactLinkMakeSpec)

/-- 'laws.FnMeanPrims', WHERE WHAT IT READS IS OF BULK AT MOST 1048576: true; the input reads as it did. -/
def fnMeanPrimsUptoRow : OpenClaim := { program := "ytghkdjfgbaoplaa", sum := "cf832c34da2504a8cb25e6019ec8abda86b0eb0875913414a2d286a7ae447d5c", func := "loop.example/smithy/laws.FnMeanPrims", spec := "fnMeanPrims", apart := false, narrowed := true }
def FnMeanPrimsUptoSaid : Prop := fnMeanPrimsUptoRow.holds Try.pinned (OpenSpec.upto fnMeanPrimsSpec)

/-- 'laws.FnGraphBehind', WHERE WHAT IT READS IS OF BULK AT MOST 1048576: true; the input reads as it did. -/
def fnGraphBehindUptoRow : OpenClaim := { program := "ytghkdjfgbaoplaa", sum := "cf832c34da2504a8cb25e6019ec8abda86b0eb0875913414a2d286a7ae447d5c", func := "loop.example/smithy/laws.FnGraphBehind", spec := "fnGraphBehind", unfollowed := true, recurses := true, apart := false, narrowed := true }
def FnGraphBehindUptoSaid : Prop := fnGraphBehindUptoRow.holds Try.pinned (OpenSpec.upto fnGraphBehindSpec)

/-- 'laws.FnGraphOrder', WHERE WHAT IT READS IS OF BULK AT MOST 1048576: true; the input reads as it did. -/
def fnGraphOrderUptoRow : OpenClaim := { program := "ytghkdjfgbaoplaa", sum := "cf832c34da2504a8cb25e6019ec8abda86b0eb0875913414a2d286a7ae447d5c", func := "loop.example/smithy/laws.FnGraphOrder", spec := "fnGraphOrder", unfollowed := true, recurses := true, apart := false, narrowed := true }
def FnGraphOrderUptoSaid : Prop := fnGraphOrderUptoRow.holds Try.pinned (OpenSpec.upto fnGraphOrderSpec)

end Rows
end Go.Proofs.Ytghkdjfgbaoplaa
