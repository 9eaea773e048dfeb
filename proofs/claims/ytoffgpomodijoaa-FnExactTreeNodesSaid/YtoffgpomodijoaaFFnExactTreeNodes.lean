/- What the arguments of the law FnExactTreeNodes fit, and that whatever is read of them is of the kinds that its printed functions speak of. -/
import Derived.Test.YtoffgpomodijoaaQTreeNodesx3
import Derived.Test.YtoffgpomodijoaaOpen
namespace Go.Proofs.Ytoffgpomodijoaa.Q
open Go.RowKit Go.Proofs.YtoffgpomodijoaaW.PrintWords Go.Proofs.Ytoffgpomodijoaa.Open
set_option linter.unusedVariables false

inductive fit38 : S38 → Prop where
  | mk (x : S38) (h0 : rng x.f0) (h1 : rng x.f1) (h2 : strOk x.f2) (h3 : strOk x.f3) (h4 : lenOk x.f4) (g4 : ∀ y, y ∈ x.f4 → fit38 y) : fit38 x
theorem opens38 {H : Type} {enc : TypeId × Value → H} {W : World} : ∀ m, Opens enc Try.prog W 38 k38 fit38 m := by
  refine Opens.fix (fun n d hsz hd => ?_)
  refine Opens.struct (fit := (both rng (both rng (both strOk (both strOk (fitList fit38)))))) (fun x : S38 => (x.f0, x.f1, x.f2, x.f3, x.f4)) (fun y => (⟨y.1, y.2.1, y.2.2.1, y.2.2.2.1, y.2.2.2.2⟩ : S38)) (fun _ => rfl) (fun y h => .mk _ h.1 h.2.1 h.2.2.1 h.2.2.2.1 h.2.2.2.2.1 h.2.2.2.2.2) Try.underlying38 (by kernel_rfl) ?_
  show Fields enc Try.prog W [_, _, _, _, _] 0 _ _ _
  refine Fields.cons (off := 1) (by kernel_rfl) (by kernel_rfl) ?_ ?_
  · exact (Opens.i64 Try.underlying3)
  refine Fields.cons (off := 2) (by kernel_rfl) (by kernel_rfl) ?_ ?_
  · exact (Opens.i64 Try.underlying3)
  refine Fields.cons (off := 3) (by kernel_rfl) (by kernel_rfl) ?_ ?_
  · exact (Opens.string Try.underlying9)
  refine Fields.cons (off := 4) (by kernel_rfl) (by kernel_rfl) ?_ ?_
  · exact (Opens.string Try.underlying9)
  refine Fields.last (by kernel_rfl) ?_
  exact (Opens.slice' Try.underlying36 (by rw [hsz]; kernel_rfl) hd)
/-- What is left to prove: of all arguments that fit, after some rounds the law answers true. -/
def laws_FnExactTreeNodes.PureF : Prop := ∀ (a0 : S38), fit38 a0 → ∃ k, laws_FnExactTreeNodes.f k a0.f0 a0.f1 a0.f2 a0.f3 a0.f4 = some true
end Go.Proofs.Ytoffgpomodijoaa.Q
