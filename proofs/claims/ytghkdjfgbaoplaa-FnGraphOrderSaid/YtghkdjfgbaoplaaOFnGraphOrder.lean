/- How the arguments of FnGraphOrder are shown in a heap. -/
import Derived.Test.YtghkdjfgbaoplaaT
import Derived.Test.YtghkdjfgbaoplaaHMOpen
import Derived.Test.YtghkdjfgbaoplaaProg
import Derived.KernelRfl
namespace Go.B
open Go.HM Go.Proofs
set_option linter.unusedVariables false
end Go.B
