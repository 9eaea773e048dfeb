/- That what the small machine takes for granted of this program is so. -/
import Derived.Test.YtiefmflpmmgoaaaGreatDoorEG
import Derived.Test.YtiefmflpmmgoaaaGreatDoorHb
import Derived.Test.YtiefmflpmmgoaaaGreatDoorSh
set_option linter.unusedSimpArgs false
set_option linter.unusedVariables false
namespace Go.F
open Go.HM Go.Proofs
abbrev g_opWords : Nat := 0
abbrev g_typeWords : Nat := 1
abbrev g_MaxLen : Nat := 2
abbrev g_ErrSyntax : Nat := 3
abbrev g_ErrRange : Nat := 4
abbrev g_uint64pow10 : Nat := 5
abbrev tNumErr : Nat := 98
theorem gok : GlobOk G where
  mixed := by kernel_rfl
  names := fun f fn hf hb => by
    have h : (Tryz.prog.funcs.all fun fn => fn.body.isNone || !(fn.name == "runtime.NumGoroutine")) = true := by kernel_rfl
    have hf' : Tryz.prog.funcs[f]? = some fn := hf
    obtain ⟨hlt, heq⟩ := Array.getElem?_eq_some_iff.1 hf'
    have := Array.all_eq_true.1 h f hlt
    rw [heq] at this
    cases hx : fn.body with
    | none => rw [hx] at hb; cases hb
    | some c => rw [hx] at this; simpa using this
  hook := fun f h hh args σ v σ' hr μ w vs hs hv => by
    have hh : hookT f = some h := hh
    unfold hookT at hh
    split at hh
    · rw [← Option.some.inj hh] at hr
      exact ⟨enter_of Tryz.func71 (by kernel_rfl) rfl vs w, hkCopy_sound hbUsed hbFirst hr hs hv⟩
    · rw [← Option.some.inj hh] at hr
      exact ⟨enter_of Tryz.func49 (by kernel_rfl) rfl vs w, hkText_sound hbNone hbSome hr hs hv⟩
    · rw [← Option.some.inj hh] at hr
      exact ⟨enter_of Tryz.func97 (by kernel_rfl) rfl vs w, hkJoin_sound Go.Proofs.Tryz.strings_Join_none Go.Proofs.Tryz.strings_Join hr hs hv⟩
    · rw [← Option.some.inj hh] at hr
      exact ⟨enter_of Tryz.func40 (by kernel_rfl) rfl vs w, hkItoa_sound (by kernel_rfl) (by decide) Go.Proofs.Tryz.strconv_Itoa hr hs hv⟩
    · rw [← Option.some.inj hh] at hr
      exact ⟨enter_of Tryz.func39 (by kernel_rfl) rfl vs w, hkAtoi_sound (by kernel_rfl) (by decide) (by kernel_rfl) (by decide) Go.Proofs.Tryz.strconv_Atoi_ok Go.Proofs.Tryz.strconv_Atoi_syntax_var Go.Proofs.Tryz.strconv_Atoi_range_var hr hs hv⟩
    · rw [← Option.some.inj hh] at hr
      exact ⟨enter_of Tryz.func62 (by kernel_rfl) rfl vs w, hkIndex_sound Go.Proofs.Tryz.stringslite_Index_one hr hs hv⟩
    · rw [← Option.some.inj hh] at hr
      exact ⟨enter_of Tryz.func37 (by kernel_rfl) rfl vs w, hkSplit_sound (by kernel_rfl) (by decide) Go.Proofs.Tryz.strings_Split hr hs hv⟩
    · cases hh
end Go.F
