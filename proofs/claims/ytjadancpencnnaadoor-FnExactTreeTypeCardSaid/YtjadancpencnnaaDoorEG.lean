/- The functions' numbers, and what the small machine is told of each. -/
import Derived.Test.YtjadancpencnnaaDoorProg
import Derived.Test.YtjadancpencnnaaDoorHMRun
import Derived.KernelRfl
namespace Go.D
open Go.HM Go.Proofs
set_option linter.unusedVariables false
set_option maxRecDepth 1000000
set_option maxHeartbeats 4000000
abbrev n_spec_TreeType : Nat := 8
abbrev n_impl_inRange : Nat := 69
abbrev n_impl_isType : Nat := 27
abbrev n_impl_TreeType : Nat := 9
abbrev n_laws_FnExactTreeType : Nat := 3
noncomputable def loT : Nat → List Nat
  | 8 => []
  | 69 => []
  | 27 => []
  | 9 => []
  | 3 => []
  | _ => []
noncomputable def mkT : Nat → List (Nat × List Nat × List Nat)
  | 8 => []
  | 69 => []
  | 27 => []
  | 9 => []
  | 3 => []
  | _ => []
noncomputable def hookT : Nat → Option (List V → Heap → Option (V × Heap))
  | _ => none
noncomputable def G : Glob := { P := Tryd.prog, lo := fun f d => (loT f).contains d, msk := fun f i => (match (mkT f).find? (fun p => p.1 == i) with | some p => p.2 | none => ([], [])), tyd := fun t => [5, 73].contains t, hook := hookT }
end Go.D
