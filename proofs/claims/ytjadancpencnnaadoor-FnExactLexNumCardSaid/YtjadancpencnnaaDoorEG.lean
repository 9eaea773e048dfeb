/- The functions' numbers, and what the small machine is told of each. -/
import Derived.Test.YtjadancpencnnaaDoorProg
import Derived.Test.YtjadancpencnnaaDoorHMRun
import Derived.Test.YtjadancpencnnaaDoorHMStd
import Derived.KernelRfl
namespace Go.D
open Go.HM Go.Proofs
set_option linter.unusedVariables false
set_option maxRecDepth 1000000
set_option maxHeartbeats 4000000
abbrev n_spec_l23Num : Nat := 28
abbrev n_spec_LexNum : Nat := 10
abbrev n_strconv_Atoi : Nat := 70
abbrev n_strconv_Itoa : Nat := 71
abbrev n_impl_decimal : Nat := 29
abbrev n_impl_inRange : Nat := 69
abbrev n_impl_isShort : Nat := 30
abbrev n_impl_LexNum : Nat := 11
abbrev n_laws_FnExactLexNum : Nat := 4
abbrev n_spec_TreeType : Nat := 8
abbrev n_impl_isType : Nat := 27
abbrev n_impl_TreeType : Nat := 9
abbrev n_laws_szIntS : Nat := 72
abbrev n_laws_szFaceSig : Nat := 31
abbrev n_laws_szFaceSigS : Nat := 12
abbrev n_laws_toIntS : Nat := 74
abbrev n_laws_toFaceSig : Nat := 34
abbrev n_laws_toFaceSigS : Nat := 14
abbrev n_laws_eqIntS : Nat := 79
abbrev n_laws_eqFaceSig : Nat := 39
abbrev n_laws_eqFaceSigS : Nat := 16
abbrev n_laws_szStringS : Nat := 40
abbrev n_laws_toStringS : Nat := 47
abbrev n_laws_eqStringS : Nat := 53
abbrev n_slices_Index_string_string : Nat := 154
abbrev n_slices_Contains_string_string : Nat := 128
abbrev n_impl_isOwn : Nat := 119
abbrev n_impl_LexName : Nat := 75
abbrev n_spec_l1Kept : Nat := 135
abbrev n_spec_LexName : Nat := 104
noncomputable def loT : Nat → List Nat
  | 28 => []
  | 10 => []
  | 29 => []
  | 69 => []
  | 30 => []
  | 11 => []
  | 4 => []
  | 8 => []
  | 27 => []
  | 9 => []
  | 72 => []
  | 31 => [2]
  | 12 => []
  | 74 => []
  | 34 => [1, 2, 3]
  | 14 => []
  | 79 => []
  | 39 => [2, 3]
  | 16 => []
  | 40 => []
  | 47 => []
  | 53 => []
  | 154 => []
  | 128 => []
  | 119 => []
  | 75 => []
  | 135 => []
  | 104 => []
  | _ => []
noncomputable def mkT : Nat → List (Nat × List Nat × List Nat)
  | 28 => [(0, [0, 4, 5, 6], [2, 3, 4, 5])]
  | 10 => []
  | 29 => []
  | 69 => []
  | 30 => []
  | 11 => []
  | 4 => []
  | 8 => []
  | 27 => []
  | 9 => []
  | 72 => []
  | 31 => []
  | 12 => [(0, [0, 1, 5], [1, 4])]
  | 74 => [(0, [0, 3, 4], [2, 3])]
  | 34 => []
  | 14 => [(0, [0, 3, 4], [2, 3])]
  | 79 => [(0, [0, 1, 5], [4])]
  | 39 => []
  | 16 => [(0, [0, 1, 5], [4])]
  | 40 => [(0, [0, 1, 5], [1, 4])]
  | 47 => [(0, [0, 3, 4], [2, 3])]
  | 53 => [(0, [0, 1, 5], [4])]
  | 154 => [(0, [0, 1, 7, 8], [4])]
  | 128 => []
  | 119 => []
  | 75 => [(0, [0, 5, 6], [0, 2])]
  | 135 => [(0, [0, 3, 4], [2])]
  | 104 => [(0, [0, 3], [2])]
  | _ => []
noncomputable def hookT : Nat → Option (List V → Heap → Option (V × Heap))
  | 71 => some (hkItoa 4)
  | 70 => some (hkAtoi 2 3 188)
  | _ => none
noncomputable def G : Glob := { P := Tryd.prog, lo := fun f d => (loT f).contains d, msk := fun f i => (match (mkT f).find? (fun p => p.1 == i) with | some p => p.2 | none => ([], [])), tyd := fun t => [5, 73].contains t, hook := hookT }
end Go.D
