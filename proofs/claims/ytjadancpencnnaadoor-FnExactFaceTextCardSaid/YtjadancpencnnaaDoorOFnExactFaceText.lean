/- How the arguments of FnExactFaceText are shown in a heap. -/
import Derived.Test.YtjadancpencnnaaDoorT
import Derived.Test.YtjadancpencnnaaDoorHMOpen
import Derived.Test.YtjadancpencnnaaDoorProg
import Derived.KernelRfl
namespace Go.D
open Go.HM Go.Proofs
set_option linter.unusedVariables false
theorem FaceSig.grows : Grows FaceSig.Rep := fun σ σ' xs y hl h => FaceSig.Rep.le hl h
theorem lays65 {H : Type} {enc : TypeId × Value → H} {W : World} : ∀ (m : Nat), Lays enc Tryd.prog W 65 FaceSig.Rep FaceSig.Fit m := by
  intro m
  refine Lays.less (m := m + 1) ?_ (by omega)
  refine Lays.struct (sz := (1 + (1 + 1))) (R := (PairR StrR (PairR (SlR 1 I64R) I64R))) (fit := (fitP fitT (fitP (fitL fitI) fitI))) (fun y => (⟨y.1, y.2.1, y.2.2⟩ : FaceSig)) (fun σ xs y h => ?_) (fun y h => .mk (h.1) (h.2.1.1) (h.2.1.2) (h.2.2)) Tryd.underlying65 (by kernel_rfl) ?_
  ·
    obtain ⟨x0, xs, rfl, h0, h⟩ := h
    obtain ⟨x1, xs, rfl, h1, h⟩ := h
    have h2 := h
    replace h0 : _ = _ := h0
    subst h0
    obtain ⟨v1, rfl, k1⟩ := h1
    replace h2 : _ = _ := h2
    subst h2
    exact FaceSig.Rep.mk (e := ⟨y.1, y.2.1, y.2.2⟩) k1
  show LaysF enc Tryd.prog W [_, _, _] 0 _ _ _ _
  refine LaysF.cons (off := 1) (by kernel_rfl) (by kernel_rfl) grows_str ?_ ?_
  · exact (Lays.string Tryd.underlying9)
  refine LaysF.cons (off := 2) (by kernel_rfl) (by kernel_rfl) (Grows.sl grows_i64) ?_ ?_
  · exact (Lays.slice' Tryd.underlying63 (by kernel_rfl) (by decide) grows_i64 (Lays.i64 Tryd.underlying3))
  refine LaysF.last (by kernel_rfl) ?_
  exact (Lays.i64 Tryd.underlying3)
/-- What the listed variables hold. -/
structure VarsFnExactFaceText (σ : Heap) : Prop where
  v0 : σ[0]? = some (some ⟨[.str (⟨#[105, 110, 116]⟩ : ByteArray), .str (⟨#[98, 111, 111, 108]⟩ : ByteArray), .str (⟨#[114, 111, 119]⟩ : ByteArray)], 1, true, 0⟩)
theorem VarsFnExactFaceText.le {σ σ' : Heap} (hl : Lh σ σ') (h : VarsFnExactFaceText σ) : VarsFnExactFaceText σ' := ⟨hl.row _ _ h.v0⟩
end Go.D
