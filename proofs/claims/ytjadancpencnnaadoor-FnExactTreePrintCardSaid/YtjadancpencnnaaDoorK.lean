/- That what the small machine takes for granted of this program is so. -/
import Derived.Test.YtjadancpencnnaaDoorEG
import Derived.Test.YtjadancpencnnaaDoorHb
import Derived.Test.YtjadancpencnnaaDoorGw
import Derived.Test.YtjadancpencnnaaDoorSh
set_option linter.unusedSimpArgs false
set_option linter.unusedVariables false
namespace Go.D
open Go.HM Go.Proofs
abbrev g_typeWords : Nat := 0
abbrev g_opWords : Nat := 1
abbrev g_ErrSyntax : Nat := 2
abbrev g_ErrRange : Nat := 3
abbrev g_uint64pow10 : Nat := 4
abbrev tNumErr : Nat := 188
theorem gok : GlobOk G where
  mixed := by kernel_rfl
  names := fun f fn hf hb => by
    have h : (Tryd.prog.funcs.all fun fn => fn.body.isNone || !(fn.name == "runtime.NumGoroutine")) = true := by kernel_rfl
    have hf' : Tryd.prog.funcs[f]? = some fn := hf
    obtain ⟨hlt, heq⟩ := Array.getElem?_eq_some_iff.1 hf'
    have := Array.all_eq_true.1 h f hlt
    rw [heq] at this
    cases hx : fn.body with
    | none => rw [hx] at hb; cases hb
    | some c => rw [hx] at this; simpa using this
  hook := fun f h hh args σ v σ' hr μ w vs hs hv => by
    have hh : hookT f = some h := hh
    unfold hookT at hh
    split at hh
    · rw [← Option.some.inj hh] at hr
      exact ⟨enter_of Tryd.func77 (by kernel_rfl) rfl vs w, hkCopy_sound hbUsed hbFirst hr hs hv⟩
    · rw [← Option.some.inj hh] at hr
      exact ⟨enter_of Tryd.func38 (by kernel_rfl) rfl vs w, hkText_sound hbNone hbSome hr hs hv⟩
    · rw [← Option.some.inj hh] at hr
      exact ⟨enter_of Tryd.func71 (by kernel_rfl) rfl vs w, hkItoa_sound (by kernel_rfl) (by decide) Go.Proofs.Tryd.strconv_Itoa hr hs hv⟩
    · rw [← Option.some.inj hh] at hr
      exact ⟨enter_of Tryd.func70 (by kernel_rfl) rfl vs w, hkAtoi_sound (by kernel_rfl) (by decide) (by kernel_rfl) (by decide) Go.Proofs.Tryd.strconv_Atoi_ok Go.Proofs.Tryd.strconv_Atoi_syntax_var Go.Proofs.Tryd.strconv_Atoi_range_var hr hs hv⟩
    · rw [← Option.some.inj hh] at hr
      exact ⟨enter_of Tryd.func131 (by kernel_rfl) rfl vs w, hkGrow_sound gwNone_131 gwSome_131 hr hs hv⟩
    · cases hh
end Go.D
