/- That what the small machine takes for granted of this program is so. -/
import Derived.Test.YtbkbdpdfcannfaaDoorEG
import Derived.Test.YtbkbdpdfcannfaaDoorSh
set_option linter.unusedSimpArgs false
set_option linter.unusedVariables false
namespace Go.L
open Go.HM Go.Proofs
abbrev g_ErrSyntax : Nat := 1
abbrev g_ErrRange : Nat := 2
abbrev g_uint64pow10 : Nat := 3
abbrev tNumErr : Nat := 54
theorem gok : GlobOk G where
  mixed := by kernel_rfl
  names := fun f fn hf hb => by
    have h : (Tryd.prog.funcs.all fun fn => fn.body.isNone || !(fn.name == "runtime.NumGoroutine")) = true := by kernel_rfl
    have hf' : Tryd.prog.funcs[f]? = some fn := hf
    obtain ⟨hlt, heq⟩ := Array.getElem?_eq_some_iff.1 hf'
    have := Array.all_eq_true.1 h f hlt
    rw [heq] at this
    cases hx : fn.body with
    | none => rw [hx] at hb; cases hb
    | some c => rw [hx] at this; simpa using this
  hook := fun f h hh args σ v σ' hr μ w vs hs hv => by
    have hh : hookT f = some h := hh
    unfold hookT at hh
    split at hh
    · rw [← Option.some.inj hh] at hr
      exact ⟨enter_of Tryd.func26 (by kernel_rfl) rfl vs w, hkItoa_sound (by kernel_rfl) (by decide) Go.Proofs.Tryd.strconv_Itoa hr hs hv⟩
    · rw [← Option.some.inj hh] at hr
      exact ⟨enter_of Tryd.func25 (by kernel_rfl) rfl vs w, hkAtoi_sound (by kernel_rfl) (by decide) (by kernel_rfl) (by decide) Go.Proofs.Tryd.strconv_Atoi_ok Go.Proofs.Tryd.strconv_Atoi_syntax_var Go.Proofs.Tryd.strconv_Atoi_range_var hr hs hv⟩
    · rw [← Option.some.inj hh] at hr
      exact ⟨enter_of Tryd.func27 (by kernel_rfl) rfl vs w, hkIndex_sound Go.Proofs.Tryd.stringslite_Index_one hr hs hv⟩
    · cases hh
end Go.L
