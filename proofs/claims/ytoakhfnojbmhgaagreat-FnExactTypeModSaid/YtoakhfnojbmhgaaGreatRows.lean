/-
  NARROWER THAN 'FOR EVERY INPUT', by the rows' own cells (each row's printed sentence says how): FnExactTypeExpr: loops · FnExactTypeMod: loops.
  DERIVED. THE GIVEN ROWS OF THIS SEAT. 2 by the template 'for every input the law returns true; each argument reads behind the call as it read before'; 0 by the template 'total and deterministic' (their statements: YtoakhfnojbmhgaaGreatTotals.lean).
  GIVEN WITH THE SEED: the statements are not yours to turn. If you find one false, say at which input.
  Laid BY PROGRAM, IN A SANDBOX (cutbox-rows.mjs): the forced cells as the released guide's own fill.sh prints them over the translation 79fb7d989b56283c… (all of the seat's roots in one cut). By AI agents, Wed Nov 11 2026. No macro, syntax, notation, axiom, sorry.
-/
import Derived.Test.YtoakhfnojbmhgaaGreatChecked
import GoSem.Claim
import GoSem.ClaimJoined
import GoSem.ClaimMapViews
import Derived.JoinedTies
import Derived.KernelRfl
namespace Go.Proofs.YtoakhfnojbmhgaaGreat
/- THE CELL 'sum', in the pinned program and in every row, IS THE sha256 OF THE DUMP (.gsa) THAT YtoakhfnojbmhgaaGreatProg.lean LOADS. Nothing in Lean hashes anything: it is a label: what it is worth is what the hold of that sum in a sandbox is worth. -/
noncomputable def Tryz.pinned : Pinned := { name := "ytoakhfnojbmhgaagreat", sum := "79fb7d989b56283c2c2b3b032abe5cf1b4766102823e247f79e9fbcdf3143f63", checked := Tryz.checked }
namespace Rows
def none {H : Type} : Left H := { results := [], args := [] }

/-- 'laws.FnExactTypeExpr': WHATEVER THE INPUT: true; the input reads as it did. -/
def fnExactTypeExprSpec : ChangeSpec := { name := "fnExactTypeExpr", fn := fun _ => fun
  | [d1, d2, d3, d4] => { results := [.lit (.bool true)], args := [d1, d2, d3, d4] }
  | _ => none }
def fnExactTypeExprRow : OpenClaim := { program := "ytoakhfnojbmhgaagreat", sum := "79fb7d989b56283c2c2b3b032abe5cf1b4766102823e247f79e9fbcdf3143f63", func := "loop.example/smithy/laws.FnExactTypeExpr", spec := "fnExactTypeExpr", unfollowed := true, recurses := true, loops := true, apart := false }
def FnExactTypeExprSaid : Prop := fnExactTypeExprRow.holds Tryz.pinned (OpenSpec.ofChange fnExactTypeExprSpec)

/-- ITS FALSE NEIGHBOUR: 'it returns false'. Refute it at one input. -/
def fnExactTypeExprWrong : ChangeSpec := { name := "fnExactTypeExpr", fn := fun _ => fun
  | [d1, d2, d3, d4] => { results := [.lit (.bool false)], args := [d1, d2, d3, d4] }
  | _ => none }
def FnExactTypeExprWrongFalsely : Prop := fnExactTypeExprRow.holds Tryz.pinned (OpenSpec.ofChange fnExactTypeExprWrong)

/-- 'laws.FnExactTypeMod': WHATEVER THE INPUT: true; the input reads as it did. -/
def fnExactTypeModSpec : ChangeSpec := { name := "fnExactTypeMod", fn := fun _ => fun
  | [d1, d2] => { results := [.lit (.bool true)], args := [d1, d2] }
  | _ => none }
def fnExactTypeModRow : OpenClaim := { program := "ytoakhfnojbmhgaagreat", sum := "79fb7d989b56283c2c2b3b032abe5cf1b4766102823e247f79e9fbcdf3143f63", func := "loop.example/smithy/laws.FnExactTypeMod", spec := "fnExactTypeMod", unfollowed := true, recurses := true, loops := true, apart := false }
def FnExactTypeModSaid : Prop := fnExactTypeModRow.holds Tryz.pinned (OpenSpec.ofChange fnExactTypeModSpec)

/-- ITS FALSE NEIGHBOUR: 'it returns false'. Refute it at one input. -/
def fnExactTypeModWrong : ChangeSpec := { name := "fnExactTypeMod", fn := fun _ => fun
  | [d1, d2] => { results := [.lit (.bool false)], args := [d1, d2] }
  | _ => none }
def FnExactTypeModWrongFalsely : Prop := fnExactTypeModRow.holds Tryz.pinned (OpenSpec.ofChange fnExactTypeModWrong)

/- THE SECOND FORM. 'bulk': how many values and letters a reading holds, each counted each time it is reached (what is shared counts as often as it is met; a slice's spare places count too). A statement '..UptoSaid' is the law's where the arguments, and the package variables that the reading takes, are together of bulk at most 1048576: NARROWER than '..Said'. Prove '..Said' where nothing that the law and all that it calls make is longer than what came in: it says more and counts as full. Else prove '..UptoSaid'. A law counts once. -/
mutual
def uptoBulk {H : Type} : DataW H → Nat
  | .lit (.string bytes) => bytes.length + 1
  | .lit _ => 1
  | .nil => 1
  | .ptr d => uptoBulk d + 1
  | .slice elems spare => uptoBulkAll elems + uptoBulkAll spare + 1
  | .agg parts => uptoBulkAll parts + 1
  | .iface _ d => uptoBulk d + 1
  | .map entries => uptoBulkEntries entries + 1
  | .held _ => 1
def uptoBulkAll {H : Type} : List (DataW H) → Nat
  | [] => 0
  | d :: r => uptoBulk d + uptoBulkAll r
def uptoBulkEntries {H : Type} : List (Lit × DataW H) → Nat
  | [] => 0
  | x :: r => uptoBulkEntry x + uptoBulkEntries r
def uptoBulkEntry {H : Type} : Lit × DataW H → Nat
  | (.string bytes, d) => bytes.length + uptoBulk d + 1
  | (_, d) => uptoBulk d + 1
 end
def uptoSmall : (H : Type) → List (DataW H) → Bool := fun _ ds => decide (uptoBulkAll ds ≤ 1048576)
def OpenSpec.upto (s : _root_.Go.ChangeSpec) : _root_.Go.OpenSpec := { _root_.Go.OpenSpec.ofChange s with cond := some uptoSmall }

/-- 'laws.FnExactTypeExpr', WHERE WHAT IT READS IS OF BULK AT MOST 1048576: true; the input reads as it did. -/
def fnExactTypeExprUptoRow : OpenClaim := { program := "ytoakhfnojbmhgaagreat", sum := "79fb7d989b56283c2c2b3b032abe5cf1b4766102823e247f79e9fbcdf3143f63", func := "loop.example/smithy/laws.FnExactTypeExpr", spec := "fnExactTypeExpr", unfollowed := true, recurses := true, loops := true, apart := false, narrowed := true }
def FnExactTypeExprUptoSaid : Prop := fnExactTypeExprUptoRow.holds Tryz.pinned (OpenSpec.upto fnExactTypeExprSpec)

/-- 'laws.FnExactTypeMod', WHERE WHAT IT READS IS OF BULK AT MOST 1048576: true; the input reads as it did. -/
def fnExactTypeModUptoRow : OpenClaim := { program := "ytoakhfnojbmhgaagreat", sum := "79fb7d989b56283c2c2b3b032abe5cf1b4766102823e247f79e9fbcdf3143f63", func := "loop.example/smithy/laws.FnExactTypeMod", spec := "fnExactTypeMod", unfollowed := true, recurses := true, loops := true, apart := false, narrowed := true }
def FnExactTypeModUptoSaid : Prop := fnExactTypeModUptoRow.holds Tryz.pinned (OpenSpec.upto fnExactTypeModSpec)

end Rows
end Go.Proofs.YtoakhfnojbmhgaaGreat
