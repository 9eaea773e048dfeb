/- The types: their values, how long they are, how they lie in a heap. -/
import Derived.Test.YtbkbdpdfcannfaaDoorHMRep
namespace Go.L
open Go.HM
set_option linter.unusedVariables false
def StrRep (cs : List V) (x : ByteArray) : Prop := cs = [.str x]
def IntRep (cs : List V) (x : Int) : Prop := cs = [.int .i64 x]
end Go.L
