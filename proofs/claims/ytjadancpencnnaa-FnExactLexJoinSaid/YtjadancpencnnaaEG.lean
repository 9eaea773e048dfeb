/- The functions' numbers, and what the small machine is told of each. -/
import Derived.Test.YtjadancpencnnaaProg
import Derived.Test.YtjadancpencnnaaHMRun
import Derived.Test.YtjadancpencnnaaHMBuild
import Derived.KernelRfl
namespace Go.A
open Go.HM Go.Proofs
set_option linter.unusedVariables false
set_option maxRecDepth 1000000
set_option maxHeartbeats 4000000
abbrev n_laws_szStringS : Nat := 10
abbrev n_spec_LexJoin : Nat := 11
abbrev n_laws_toStringS : Nat := 12
abbrev n_internal_abi_NoEscape : Nat := 101
abbrev n_pstrings_Builder_copyCheck : Nat := 82
abbrev n_pstrings_Builder_WriteByte : Nat := 41
abbrev n_pstrings_Builder_WriteString : Nat := 42
abbrev n_pstrings_Builder_String : Nat := 43
abbrev n_impl_LexJoin : Nat := 13
abbrev n_laws_eqStringS : Nat := 14
abbrev n_laws_FnExactLexJoin : Nat := 3
abbrev n_laws_szGraphNode : Nat := 44
abbrev n_laws_szGraphNodeS : Nat := 15
abbrev n_laws_toGraphNode : Nat := 48
abbrev n_laws_toGraphNodeS : Nat := 17
abbrev n_laws_eqGraphNode : Nat := 55
abbrev n_laws_eqGraphNodeS : Nat := 19
abbrev n_laws_szCodeRef : Nat := 119
abbrev n_laws_szCodeRefS : Nat := 102
abbrev n_laws_szIntS : Nat := 143
abbrev n_laws_szCodeInsS : Nat := 144
abbrev n_laws_szCodeFun : Nat := 120
abbrev n_laws_szCodeFunS : Nat := 103
abbrev n_laws_szCodeObj : Nat := 85
abbrev n_laws_szLinkPart : Nat := 57
abbrev n_laws_szLinkPartS : Nat := 23
abbrev n_laws_toCodeRef : Nat := 121
abbrev n_laws_toCodeRefS : Nat := 104
abbrev n_laws_toIntS : Nat := 145
abbrev n_laws_toCodeIns : Nat := 157
abbrev n_laws_toCodeInsS : Nat := 146
abbrev n_laws_toCodeFun : Nat := 122
abbrev n_laws_toCodeFunS : Nat := 105
abbrev n_laws_toCodeObj : Nat := 86
abbrev n_laws_toLinkPart : Nat := 61
abbrev n_laws_toLinkPartS : Nat := 25
abbrev n_laws_eqCodeRef : Nat := 123
abbrev n_laws_eqCodeRefS : Nat := 106
abbrev n_laws_eqIntS : Nat := 147
abbrev n_laws_eqCodeIns : Nat := 158
abbrev n_laws_eqCodeInsS : Nat := 148
abbrev n_laws_eqCodeFun : Nat := 124
abbrev n_laws_eqCodeFunS : Nat := 107
abbrev n_laws_eqCodeObj : Nat := 91
abbrev n_laws_eqLinkPart : Nat := 65
abbrev n_laws_eqLinkPartS : Nat := 27
noncomputable def loT : Nat → List Nat
  | 10 => []
  | 11 => []
  | 12 => []
  | 41 => [13]
  | 42 => []
  | 13 => []
  | 14 => []
  | 3 => []
  | 44 => [2]
  | 15 => []
  | 48 => [1, 2, 3]
  | 17 => []
  | 55 => [2, 3]
  | 19 => []
  | 119 => [2]
  | 102 => []
  | 143 => []
  | 144 => []
  | 120 => [2]
  | 103 => []
  | 85 => [2]
  | 57 => [2]
  | 23 => []
  | 121 => [1, 2, 3]
  | 104 => []
  | 145 => []
  | 157 => [1, 2, 3]
  | 146 => []
  | 122 => [1, 2, 3]
  | 105 => []
  | 86 => [1, 2, 3]
  | 61 => [1, 2, 3]
  | 25 => []
  | 123 => [2, 3]
  | 106 => []
  | 147 => []
  | 158 => [2, 3]
  | 148 => []
  | 124 => [2, 3]
  | 107 => []
  | 91 => [2, 3]
  | 65 => [2, 3]
  | 27 => []
  | _ => []
noncomputable def mkT : Nat → List (Nat × List Nat × List Nat)
  | 10 => [(0, [0, 1, 5], [1, 4])]
  | 11 => [(0, [0, 3, 4], [2, 3])]
  | 12 => [(0, [0, 3, 4], [2, 3])]
  | 41 => []
  | 42 => []
  | 13 => [(0, [0, 3, 6, 7, 8], [2, 3])]
  | 14 => [(0, [0, 1, 5], [4])]
  | 3 => []
  | 44 => []
  | 15 => [(0, [0, 1, 5], [1, 4])]
  | 48 => []
  | 17 => [(0, [0, 3, 4], [2, 3])]
  | 55 => []
  | 19 => [(0, [0, 1, 5], [4])]
  | 119 => []
  | 102 => [(0, [0, 1, 5], [1, 4])]
  | 143 => []
  | 144 => []
  | 120 => []
  | 103 => [(0, [0, 1, 5], [1, 4])]
  | 85 => []
  | 57 => []
  | 23 => [(0, [0, 1, 5], [1, 4])]
  | 121 => []
  | 104 => [(0, [0, 3, 4], [2, 3])]
  | 145 => [(0, [0, 3, 4], [2, 3])]
  | 157 => []
  | 146 => [(0, [0, 3, 4], [2, 3])]
  | 122 => []
  | 105 => [(0, [0, 3, 4], [2, 3])]
  | 86 => []
  | 61 => []
  | 25 => [(0, [0, 3, 4], [2, 3])]
  | 123 => []
  | 106 => [(0, [0, 1, 5], [4])]
  | 147 => [(0, [0, 1, 5], [4])]
  | 158 => []
  | 148 => [(0, [0, 1, 5], [4])]
  | 124 => []
  | 107 => [(0, [0, 1, 5], [4])]
  | 91 => []
  | 65 => []
  | 27 => [(0, [0, 1, 5], [4])]
  | _ => []
noncomputable def hookT : Nat → Option (List V → Heap → Option (V × Heap))
  | 82 => some (hkCopy 59)
  | 43 => some (hkText 59 5)
  | _ => none
noncomputable def G : Glob := { P := Try.prog, lo := fun f d => (loT f).contains d, msk := fun f i => (match (mkT f).find? (fun p => p.1 == i) with | some p => p.2 | none => ([], [])), tyd := fun t => [5, 59].contains t, hook := hookT }
end Go.A
