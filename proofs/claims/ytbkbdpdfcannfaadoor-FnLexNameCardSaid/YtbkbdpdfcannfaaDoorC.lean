/- The contracts of the laws' own functions: how long, a copy, whether alike. -/
import Derived.Test.YtbkbdpdfcannfaaDoorT
import Derived.Test.YtbkbdpdfcannfaaDoorEF0
namespace Go.L
open Go.HM Go.Proofs
set_option linter.unusedVariables false
set_option linter.unusedSimpArgs false
set_option maxHeartbeats 1000000
end Go.L
