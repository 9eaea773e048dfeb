/- What the arguments of the law FnExactGraphOk fit, and that whatever is read of them is of the kinds that its printed functions speak of. -/
import Derived.Test.YtlppcfjapmmkkaaQx3
import Derived.Test.YtlppcfjapmmkkaaOpen
namespace Go.Proofs.Ytlppcfjapmmkkaa.Q
open Go.RowKit Go.Proofs.YtlppcfjapmmkkaaW.PrintWords Go.Proofs.Ytlppcfjapmmkkaa.Open
set_option linter.unusedVariables false

def fit70 (x : S70) : Prop := strOk x.f0 ∧ (fitList strOk) x.f1
theorem opens70 {H : Type} {enc : TypeId × Value → H} {W : World} (m : Nat) : Opens enc Try.prog W 70 k70 fit70 m := by
  refine Opens.less (m := m + 1) ?_ (by omega)
  refine Opens.struct (fun x : S70 => (x.f0, x.f1)) (fun y => (⟨y.1, y.2⟩ : S70)) (fun _ => rfl) (fun y h => h) Try.underlying70 (by kernel_rfl) ?_
  refine Fields.cons (by kernel_rfl) rfl (Opens.string Try.underlying9) ?_
  refine Fields.last (by kernel_rfl) ?_
  exact (Opens.slice' Try.underlying47 (by kernel_rfl) (Opens.string Try.underlying9))
/-- What is left to prove: of all arguments that fit, after some rounds the law answers true. -/
def laws_FnExactGraphOk.PureF : Prop := ∀ (l0 : List (S70)), (fitList fit70) l0 → ∃ k, laws_FnExactGraphOk.f k l0 = some true
end Go.Proofs.Ytlppcfjapmmkkaa.Q
