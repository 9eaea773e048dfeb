/- That what the small machine takes for granted of this program is so. -/
import Derived.Test.YtpkfajjkkmnmcaaDoorEG
import Derived.Test.YtpkfajjkkmnmcaaDoorHb
import Derived.Test.YtpkfajjkkmnmcaaDoorSh
set_option linter.unusedSimpArgs false
set_option linter.unusedVariables false
namespace Go.R
open Go.HM Go.Proofs
abbrev g_typeWords : Nat := 0
abbrev g_MaxLen : Nat := 1
theorem gok : GlobOk G where
  mixed := by kernel_rfl
  names := fun f fn hf hb => by
    have h : (Tryd.prog.funcs.all fun fn => fn.body.isNone || !(fn.name == "runtime.NumGoroutine")) = true := by kernel_rfl
    have hf' : Tryd.prog.funcs[f]? = some fn := hf
    obtain ⟨hlt, heq⟩ := Array.getElem?_eq_some_iff.1 hf'
    have := Array.all_eq_true.1 h f hlt
    rw [heq] at this
    cases hx : fn.body with
    | none => rw [hx] at hb; cases hb
    | some c => rw [hx] at this; simpa using this
  hook := fun f h hh args σ v σ' hr μ w vs hs hv => by
    have hh : hookT f = some h := hh
    unfold hookT at hh
    split at hh
    · rw [← Option.some.inj hh] at hr
      exact ⟨enter_of Tryd.func52 (by kernel_rfl) rfl vs w, hkCopy_sound hbUsed hbFirst hr hs hv⟩
    · rw [← Option.some.inj hh] at hr
      exact ⟨enter_of Tryd.func40 (by kernel_rfl) rfl vs w, hkText_sound hbNone hbSome hr hs hv⟩
    · rw [← Option.some.inj hh] at hr
      exact ⟨enter_of Tryd.func53 (by kernel_rfl) rfl vs w, hkJoin_sound Go.Proofs.Tryd.strings_Join_none Go.Proofs.Tryd.strings_Join hr hs hv⟩
    · rw [← Option.some.inj hh] at hr
      exact ⟨enter_of Tryd.func47 (by kernel_rfl) rfl vs w, hkIndex_sound Go.Proofs.Tryd.stringslite_Index_one hr hs hv⟩
    · rw [← Option.some.inj hh] at hr
      exact ⟨enter_of Tryd.func13 (by kernel_rfl) rfl vs w, hkSplit_sound (by kernel_rfl) (by decide) Go.Proofs.Tryd.strings_Split hr hs hv⟩
    · cases hh
end Go.R
