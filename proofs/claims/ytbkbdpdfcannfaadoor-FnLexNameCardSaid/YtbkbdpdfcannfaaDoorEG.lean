/- The functions' numbers, and what the small machine is told of each. -/
import Derived.Test.YtbkbdpdfcannfaaDoorProg
import Derived.Test.YtbkbdpdfcannfaaDoorHMRun
import Derived.Test.YtbkbdpdfcannfaaDoorHMHook
import Derived.KernelRfl
namespace Go.L
open Go.HM Go.Proofs
set_option linter.unusedVariables false
set_option maxRecDepth 1000000
set_option maxHeartbeats 4000000
abbrev n_spec_l23Open : Nat := 12
abbrev n_pspec_l23Rd_pick : Nat := 18
abbrev n_pspec_l23Rd_of : Nat := 13
abbrev n_spec_DrawLexName : Nat := 4
abbrev n_impl_inRange : Nat := 15
abbrev n_slices_Index_string_string : Nat := 28
abbrev n_slices_Contains_string_string : Nat := 24
abbrev n_impl_isOwn : Nat := 16
abbrev n_impl_LexName : Nat := 6
abbrev n_internal_stringslite_Index : Nat := 27
abbrev n_internal_stringslite_Cut : Nat := 23
abbrev n_strings_Cut : Nat := 14
abbrev n_impl_LexDot : Nat := 5
abbrev n_spec_l1Kept : Nat := 17
abbrev n_spec_LexName : Nat := 7
abbrev n_spec_l23Dec : Nat := 19
abbrev n_spec_DrawLexNum : Nat := 8
abbrev n_strconv_Atoi : Nat := 25
abbrev n_strconv_Itoa : Nat := 26
abbrev n_impl_decimal : Nat := 20
abbrev n_impl_isShort : Nat := 21
abbrev n_impl_LexNum : Nat := 9
abbrev n_spec_l23Num : Nat := 22
abbrev n_spec_LexNum : Nat := 10
abbrev n_laws_wlDec : Nat := 11
abbrev n_laws_FnLexName : Nat := 3
noncomputable def loT : Nat → List Nat
  | 12 => []
  | 18 => []
  | 13 => []
  | 4 => []
  | 15 => []
  | 28 => []
  | 24 => []
  | 16 => []
  | 6 => []
  | 23 => []
  | 14 => []
  | 5 => []
  | 17 => []
  | 7 => []
  | 19 => [18, 27]
  | 8 => []
  | 20 => []
  | 21 => []
  | 9 => []
  | 22 => []
  | 10 => []
  | 11 => [18, 27]
  | 3 => []
  | _ => []
noncomputable def mkT : Nat → List (Nat × List Nat × List Nat)
  | 12 => []
  | 18 => []
  | 13 => []
  | 4 => []
  | 15 => []
  | 28 => [(0, [0, 1, 7, 8], [4])]
  | 24 => []
  | 16 => []
  | 6 => [(0, [0, 5, 6], [0, 2])]
  | 23 => []
  | 14 => []
  | 5 => []
  | 17 => [(0, [0, 3, 4], [2])]
  | 7 => [(0, [0, 3], [2])]
  | 19 => [(0, [0, 3], [0, 2, 3])]
  | 8 => []
  | 20 => []
  | 21 => []
  | 9 => []
  | 22 => [(0, [0, 4, 5, 6], [2, 3, 4, 5])]
  | 10 => []
  | 11 => [(0, [0, 3], [0, 2, 3])]
  | 3 => []
  | _ => []
noncomputable def hookT : Nat → Option (List V → Heap → Option (V × Heap))
  | 26 => some (hkItoa 3)
  | 25 => some (hkAtoi 1 2 54)
  | 27 => some (hkIndex)
  | _ => none
noncomputable def G : Glob := { P := Tryd.prog, lo := fun f d => (loT f).contains d, msk := fun f i => (match (mkT f).find? (fun p => p.1 == i) with | some p => p.2 | none => ([], [])), tyd := fun t => false, hook := hookT }
end Go.L
