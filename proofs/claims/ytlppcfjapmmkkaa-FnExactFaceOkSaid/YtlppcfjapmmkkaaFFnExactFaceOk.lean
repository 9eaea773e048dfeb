/- What the arguments of the law FnExactFaceOk fit, and that whatever is read of them is of the kinds that its printed functions speak of. -/
import Derived.Test.YtlppcfjapmmkkaaQx8
import Derived.Test.YtlppcfjapmmkkaaOpen
namespace Go.Proofs.Ytlppcfjapmmkkaa.Q
open Go.RowKit Go.Proofs.YtlppcfjapmmkkaaW.PrintWords Go.Proofs.Ytlppcfjapmmkkaa.Open
set_option linter.unusedVariables false

def fit84 (x : S84) : Prop := strOk x.f0 ∧ (fitList rng) x.f1 ∧ rng x.f2
theorem opens84 {H : Type} {enc : TypeId × Value → H} {W : World} (m : Nat) : Opens enc Try.prog W 84 k84 fit84 m := by
  refine Opens.less (m := m + 1) ?_ (by omega)
  refine Opens.struct (fit := (both strOk (both (fitList rng) rng))) (fun x : S84 => (x.f0, x.f1, x.f2)) (fun y => (⟨y.1, y.2.1, y.2.2⟩ : S84)) (fun _ => rfl) (fun y h => h) Try.underlying84 (by kernel_rfl) ?_
  show Fields enc Try.prog W [_, _, _] 0 _ _ _
  refine Fields.cons (off := 1) (by kernel_rfl) (by kernel_rfl) ?_ ?_
  · exact (Opens.string Try.underlying9)
  refine Fields.cons (off := 2) (by kernel_rfl) (by kernel_rfl) ?_ ?_
  · exact (Opens.slice' Try.underlying82 (by kernel_rfl) (Opens.i64 Try.underlying3))
  refine Fields.last (by kernel_rfl) ?_
  exact (Opens.i64 Try.underlying3)
/-- What is left to prove: of all arguments that fit, after some rounds the law answers true. -/
def laws_FnExactFaceOk.PureF : Prop := ∀ (l0 : List (S84)), (fitList fit84) l0 → ∃ k, laws_FnExactFaceOk.f k l0 = some true
end Go.Proofs.Ytlppcfjapmmkkaa.Q
