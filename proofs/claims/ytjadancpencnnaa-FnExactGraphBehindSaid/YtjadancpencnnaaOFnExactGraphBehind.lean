/- How the arguments of FnExactGraphBehind are shown in a heap. -/
import Derived.Test.YtjadancpencnnaaT
import Derived.Test.YtjadancpencnnaaHMOpen
import Derived.Test.YtjadancpencnnaaProg
import Derived.KernelRfl
namespace Go.A
open Go.HM Go.Proofs
set_option linter.unusedVariables false
theorem GraphNode.grows : Grows GraphNode.Rep := fun σ σ' xs y hl h => GraphNode.Rep.le hl h
theorem lays68 {H : Type} {enc : TypeId × Value → H} {W : World} : ∀ (m : Nat), Lays enc Try.prog W 68 GraphNode.Rep GraphNode.Fit m := by
  intro m
  refine Lays.less (m := m + 1) ?_ (by omega)
  refine Lays.struct (sz := (1 + 1)) (R := (PairR StrR (SlR 1 StrR))) (fit := (fitP fitT (fitL fitT))) (fun y => (⟨y.1, y.2⟩ : GraphNode)) (fun σ xs y h => ?_) (fun y h => .mk (h.1) (h.2.1) (h.2.2)) Try.underlying68 (by kernel_rfl) ?_
  ·
    obtain ⟨x0, xs, rfl, h0, h⟩ := h
    have h1 := h
    replace h0 : _ = _ := h0
    subst h0
    obtain ⟨v1, rfl, k1⟩ := h1
    exact GraphNode.Rep.mk (e := ⟨y.1, y.2⟩) k1
  show LaysF enc Try.prog W [_, _] 0 _ _ _ _
  refine LaysF.cons (off := 1) (by kernel_rfl) (by kernel_rfl) grows_str ?_ ?_
  · exact (Lays.string Try.underlying9)
  refine LaysF.last (by kernel_rfl) ?_
  exact (Lays.slice' Try.underlying22 (by kernel_rfl) (by decide) grows_str (Lays.string Try.underlying9))
end Go.A
