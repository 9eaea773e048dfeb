/- The program's Constants are the reference's: FnExactConstants returns true. -/
import Derived.Test.YtoffgpomodijoaaPFnExactConstantsx1
import Derived.Test.YtoffgpomodijoaaLib
namespace Go.Proofs.Ytoffgpomodijoaa.Pure
open Go.RowKit Go.Proofs.Ytoffgpomodijoaa.PFnExactConstants Go.Proofs.YtoffgpomodijoaaW.PrintWords Go.Proofs.YtoffgpomodijoaaW.PrintLast Go.Proofs.Ytoffgpomodijoaa.Lib

theorem FnExactConstants : laws_FnExactConstants.Pure := rfl

end Go.Proofs.Ytoffgpomodijoaa.Pure
