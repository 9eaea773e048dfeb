/- That what the small machine takes for granted of this program is so. -/
import Derived.Test.YtoakhfnojbmhgaaGreatEG
import Derived.Test.YtoakhfnojbmhgaaGreatLv
set_option linter.unusedSimpArgs false
set_option linter.unusedVariables false
namespace Go.G
open Go.HM Go.Proofs
theorem gok : GlobOk G where
  mixed := by kernel_rfl
  names := fun f fn hf hb => by
    have h : (Tryz.prog.funcs.all fun fn => fn.body.isNone || !(fn.name == "runtime.NumGoroutine")) = true := by kernel_rfl
    have hf' : Tryz.prog.funcs[f]? = some fn := hf
    obtain ⟨hlt, heq⟩ := Array.getElem?_eq_some_iff.1 hf'
    have := Array.all_eq_true.1 h f hlt
    rw [heq] at this
    cases hx : fn.body with
    | none => rw [hx] at hb; cases hb
    | some c => rw [hx] at this; simpa using this
  hook := fun f h hh args σ v σ' hr μ w vs hs hv => by
    have hh : hookT f = some h := hh
    unfold hookT at hh
    split at hh
    · rw [← Option.some.inj hh] at hr
      exact ⟨enter_of Tryz.func72 (by kernel_rfl) rfl vs w, hkLast_sound lastVar_calls hr hs hv⟩
    · cases hh
end Go.G
