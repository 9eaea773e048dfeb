-- written by xprint.py, a program of this session, out of the translation: Lean checks it
import Derived.Test.YtlppcfjapmmkkaaProg
import Derived.Below
import Derived.Deep.Draws
import Derived.Deep.AppendLies
import Derived.Maps.AppendAt
import Derived.OwnWalk
import Derived.Laws.BytesArg
import Derived.Laws.MakeOwn
import Derived.Laws.OwnMore
import Derived.Deep.OwnRows
import Derived.Tactics
import Derived.Lib.ConvBytes
import Derived.Laws.Slices
import Derived.WalkKit
import Derived.KernelRfl
import Derived.RowKit3
import Derived.Deep.LoopGhost
import Derived.Deep.QuietTactic
import Derived.BigQuiet
import Derived.WideLaws
import Derived.Deep.DeepCutAuto
import Derived.Deep.CutBlock
import Derived.Deep.RegionHeld3
import Derived.Laws.Rows
import Derived.Lib.AppendStr
import Derived.ArgAppend
import Derived.Laws.IdiomCopy
import Derived.OrdersHeld
import Derived.Laws.BitsLemmas
import Derived.RowKit
import Derived.Test.YtlppcfjapmmkkaaWWords
import Derived.Test.YtlppcfjapmmkkaaWLast
import Derived.Test.YtlppcfjapmmkkaaWTab
import Derived.Test.YtlppcfjapmmkkaaWFour
import Derived.Test.YtlppcfjapmmkkaaWQPut
import Derived.Test.YtlppcfjapmmkkaaWApart
import Derived.Test.YtlppcfjapmmkkaaWArr
import Derived.Test.YtlppcfjapmmkkaaWZeros
import Derived.Test.YtlppcfjapmmkkaaWFoot
import Derived.Test.YtlppcfjapmmkkaaWKept
import Derived.Test.YtlppcfjapmmkkaaWShare
import Derived.Test.YtlppcfjapmmkkaaWN
import Derived.Test.YtlppcfjapmmkkaaWFootNe
import Derived.Test.YtlppcfjapmmkkaaWAt
import Derived.Test.YtlppcfjapmmkkaaWEqStruct
import Derived.Test.YtlppcfjapmmkkaaWRepsOne
import Derived.Test.YtlppcfjapmmkkaaWInv
import Derived.Test.YtlppcfjapmmkkaaWInvWords
import Derived.Test.YtlppcfjapmmkkaaWGuard
import Derived.Test.YtlppcfjapmmkkaaWNEv
import Derived.Test.YtlppcfjapmmkkaaWMore
import Derived.Test.YtlppcfjapmmkkaaX
namespace Go.Proofs.Ytlppcfjapmmkkaa.Q
open Go.RowKit Go.Proofs.YtlppcfjapmmkkaaW.PrintWords Go.Proofs.YtlppcfjapmmkkaaW.PrintLast Go.Proofs.YtlppcfjapmmkkaaW.PrintMore
attribute [local go_sem] max2_int min2_int max_two min_two max_three min_three max_four min_four   -- for this text's walks alone
set_option linter.unusedVariables false
set_option linter.unusedSimpArgs false



def errW : Option Int → Value
  | none => .nilIface
  | some c => .iface 0 (.int .i64 c)
theorem errW_none : errW none = .nilIface := rfl
theorem errW_some (c : Int) : errW (some c) = .iface 0 (.int .i64 c) := rfl

theorem info9 : (Try.prog.info? 9).map (fun i => (i.zero, i.size, i.bytes)) = some (some (.string ⟨#[]⟩), 1, 16) := by kernel_rfl
-- the values' own types

end Go.Proofs.Ytlppcfjapmmkkaa.Q
