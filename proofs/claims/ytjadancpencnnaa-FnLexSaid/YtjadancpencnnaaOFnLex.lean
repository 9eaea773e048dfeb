/- How the arguments of FnLex are shown in a heap. -/
import Derived.Test.YtjadancpencnnaaT
import Derived.Test.YtjadancpencnnaaHMOpen
import Derived.Test.YtjadancpencnnaaProg
import Derived.KernelRfl
namespace Go.A
open Go.HM Go.Proofs
set_option linter.unusedVariables false
end Go.A
