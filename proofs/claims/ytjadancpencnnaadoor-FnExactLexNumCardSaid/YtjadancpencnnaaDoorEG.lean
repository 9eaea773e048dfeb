/- The functions' numbers, and what the small machine is told of each. -/
import Derived.Test.YtjadancpencnnaaDoorProg
import Derived.Test.YtjadancpencnnaaDoorHMRun
import Derived.Test.YtjadancpencnnaaDoorHMStd
import Derived.KernelRfl
namespace Go.D
open Go.HM Go.Proofs
set_option linter.unusedVariables false
set_option maxRecDepth 1000000
set_option maxHeartbeats 4000000
abbrev n_spec_l23Num : Nat := 28
abbrev n_spec_LexNum : Nat := 10
abbrev n_strconv_Atoi : Nat := 70
abbrev n_strconv_Itoa : Nat := 71
abbrev n_impl_decimal : Nat := 29
abbrev n_impl_inRange : Nat := 69
abbrev n_impl_isShort : Nat := 30
abbrev n_impl_LexNum : Nat := 11
abbrev n_laws_FnExactLexNum : Nat := 4
abbrev n_spec_TreeType : Nat := 8
abbrev n_impl_isType : Nat := 27
abbrev n_impl_TreeType : Nat := 9
noncomputable def loT : Nat → List Nat
  | 28 => []
  | 10 => []
  | 29 => []
  | 69 => []
  | 30 => []
  | 11 => []
  | 4 => []
  | 8 => []
  | 27 => []
  | 9 => []
  | _ => []
noncomputable def mkT : Nat → List (Nat × List Nat × List Nat)
  | 28 => [(0, [0, 4, 5, 6], [2, 3, 4, 5])]
  | 10 => []
  | 29 => []
  | 69 => []
  | 30 => []
  | 11 => []
  | 4 => []
  | 8 => []
  | 27 => []
  | 9 => []
  | _ => []
noncomputable def hookT : Nat → Option (List V → Heap → Option (V × Heap))
  | 71 => some (hkItoa 4)
  | 70 => some (hkAtoi 2 3 188)
  | _ => none
noncomputable def G : Glob := { P := Tryd.prog, lo := fun f d => (loT f).contains d, msk := fun f i => (match (mkT f).find? (fun p => p.1 == i) with | some p => p.2 | none => ([], [])), tyd := fun t => [5, 73].contains t, hook := hookT }
end Go.D
