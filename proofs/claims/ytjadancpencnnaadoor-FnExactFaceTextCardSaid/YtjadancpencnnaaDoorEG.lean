/- The functions' numbers, and what the small machine is told of each. -/
import Derived.Test.YtjadancpencnnaaDoorProg
import Derived.Test.YtjadancpencnnaaDoorHMRun
import Derived.Test.YtjadancpencnnaaDoorHMStd
import Derived.KernelRfl
namespace Go.D
open Go.HM Go.Proofs
set_option linter.unusedVariables false
set_option maxRecDepth 1000000
set_option maxHeartbeats 4000000
abbrev n_laws_szIntS : Nat := 72
abbrev n_laws_szFaceSig : Nat := 31
abbrev n_laws_szFaceSigS : Nat := 12
abbrev n_spec_TreeType : Nat := 8
abbrev n_spec_l1Kept : Nat := 135
abbrev n_spec_LexName : Nat := 104
abbrev n_spec_l3Sig : Nat := 73
abbrev n_spec_FaceOk : Nat := 32
abbrev n_spec_l3Types : Nat := 33
abbrev n_spec_FaceText : Nat := 13
abbrev n_laws_toIntS : Nat := 74
abbrev n_laws_toFaceSig : Nat := 34
abbrev n_laws_toFaceSigS : Nat := 14
abbrev n_impl_inRange : Nat := 69
abbrev n_impl_isType : Nat := 27
abbrev n_impl_TreeType : Nat := 9
abbrev n_slices_Index_string_string : Nat := 154
abbrev n_slices_Contains_string_string : Nat := 128
abbrev n_impl_isOwn : Nat := 119
abbrev n_impl_LexName : Nat := 75
abbrev n_slices_IndexFunc_int_int : Nat := 148
abbrev n_slices_ContainsFunc_int_int : Nat := 120
abbrev n_impl_areTypes_1 : Nat := 121
abbrev n_impl_areTypes : Nat := 76
abbrev n_impl_FaceOk : Nat := 35
abbrev n_pstrings_Builder_copyCheck : Nat := 77
abbrev n_pstrings_Builder_WriteString : Nat := 36
abbrev n_strings_Join : Nat := 78
abbrev n_impl_typeList : Nat := 37
abbrev n_pstrings_Builder_String : Nat := 38
abbrev n_impl_FaceText : Nat := 15
abbrev n_laws_eqIntS : Nat := 79
abbrev n_laws_eqFaceSig : Nat := 39
abbrev n_laws_eqFaceSigS : Nat := 16
abbrev n_laws_FnExactFaceText : Nat := 5
abbrev n_laws_szStringS : Nat := 40
abbrev n_laws_toStringS : Nat := 47
abbrev n_laws_eqStringS : Nat := 53
abbrev n_pstrings_Builder_WriteByte : Nat := 99
noncomputable def loT : Nat → List Nat
  | 72 => []
  | 31 => [2]
  | 12 => []
  | 8 => []
  | 135 => []
  | 104 => []
  | 73 => [1]
  | 32 => []
  | 33 => []
  | 13 => []
  | 74 => []
  | 34 => [1, 2, 3]
  | 14 => []
  | 69 => []
  | 27 => []
  | 9 => []
  | 154 => []
  | 128 => []
  | 119 => []
  | 75 => []
  | 148 => []
  | 120 => []
  | 121 => []
  | 76 => []
  | 35 => [4]
  | 36 => []
  | 37 => [16]
  | 15 => [5]
  | 79 => []
  | 39 => [2, 3]
  | 16 => []
  | 5 => []
  | 40 => []
  | 47 => []
  | 53 => []
  | 99 => [13]
  | _ => []
noncomputable def mkT : Nat → List (Nat × List Nat × List Nat)
  | 72 => []
  | 31 => []
  | 12 => [(0, [0, 1, 5], [1, 4])]
  | 8 => []
  | 135 => [(0, [0, 3, 4], [2])]
  | 104 => [(0, [0, 3], [2])]
  | 73 => [(0, [1, 3], [2])]
  | 32 => [(0, [0, 3], [2])]
  | 33 => [(0, [0, 3, 4], [2, 3])]
  | 13 => [(0, [0, 3, 4], [2, 3])]
  | 74 => [(0, [0, 3, 4], [2, 3])]
  | 34 => []
  | 14 => [(0, [0, 3, 4], [2, 3])]
  | 69 => []
  | 27 => []
  | 9 => []
  | 154 => [(0, [0, 1, 7, 8], [4])]
  | 128 => []
  | 119 => []
  | 75 => [(0, [0, 5, 6], [0, 2])]
  | 148 => [(0, [0, 1, 7, 8], [4])]
  | 120 => []
  | 121 => []
  | 76 => []
  | 35 => [(0, [0, 5, 6, 7], [0, 2])]
  | 36 => []
  | 37 => [(0, [3, 7, 8, 9], [2, 3])]
  | 15 => [(0, [3, 9, 10, 11], [2, 3])]
  | 79 => [(0, [0, 1, 5], [4])]
  | 39 => []
  | 16 => [(0, [0, 1, 5], [4])]
  | 5 => []
  | 40 => [(0, [0, 1, 5], [1, 4])]
  | 47 => [(0, [0, 3, 4], [2, 3])]
  | 53 => [(0, [0, 1, 5], [4])]
  | 99 => []
  | _ => []
noncomputable def hookT : Nat → Option (List V → Heap → Option (V × Heap))
  | 77 => some (hkCopy 73)
  | 38 => some (hkText 73 5)
  | 78 => some (hkJoin)
  | _ => none
noncomputable def G : Glob := { P := Tryd.prog, lo := fun f d => (loT f).contains d, msk := fun f i => (match (mkT f).find? (fun p => p.1 == i) with | some p => p.2 | none => ([], [])), tyd := fun t => [5, 73].contains t, hook := hookT }
end Go.D
