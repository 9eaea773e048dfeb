/- How the arguments of FnExactLinkMake are shown in a heap. -/
import Derived.Test.YtghkdjfgbaoplaaT
import Derived.Test.YtghkdjfgbaoplaaHMOpen
import Derived.Test.YtghkdjfgbaoplaaProg
import Derived.KernelRfl
namespace Go.B
open Go.HM Go.Proofs
set_option linter.unusedVariables false
theorem CodeRef.grows : Grows CodeRef.Rep := fun σ σ' xs y hl h => CodeRef.Rep.le hl h
theorem lays155 {H : Type} {enc : TypeId × Value → H} {W : World} : ∀ (m : Nat), Lays enc Try.prog W 155 CodeRef.Rep CodeRef.Fit m := by
  intro m
  refine Lays.less (m := m + 1) ?_ (by omega)
  refine Lays.struct (sz := (1 + 1)) (R := (PairR StrR StrR)) (fit := (fitP fitT fitT)) (fun y => (⟨y.1, y.2⟩ : CodeRef)) (fun σ xs y h => ?_) (fun y h => .mk (h.1) (h.2)) Try.underlying155 (by kernel_rfl) ?_
  ·
    obtain ⟨x0, xs, rfl, h0, h⟩ := h
    have h1 := h
    replace h0 : _ = _ := h0
    subst h0
    replace h1 : _ = _ := h1
    subst h1
    exact CodeRef.Rep.mk (e := ⟨y.1, y.2⟩)
  show LaysF enc Try.prog W [_, _] 0 _ _ _ _
  refine LaysF.cons (off := 1) (by kernel_rfl) (by kernel_rfl) grows_str ?_ ?_
  · exact (Lays.string Try.underlying9)
  refine LaysF.last (by kernel_rfl) ?_
  exact (Lays.string Try.underlying9)
theorem CodeIns.grows : Grows CodeIns.Rep := fun σ σ' xs y hl h => CodeIns.Rep.le hl h
theorem lays200 {H : Type} {enc : TypeId × Value → H} {W : World} : ∀ (m : Nat), Lays enc Try.prog W 200 CodeIns.Rep CodeIns.Fit m := by
  intro m
  refine Lays.less (m := m + 1) ?_ (by omega)
  refine Lays.struct (sz := (1 + 1)) (R := (PairR I64R I64R)) (fit := (fitP fitI fitI)) (fun y => (⟨y.1, y.2⟩ : CodeIns)) (fun σ xs y h => ?_) (fun y h => .mk (h.1) (h.2)) Try.underlying200 (by kernel_rfl) ?_
  ·
    obtain ⟨x0, xs, rfl, h0, h⟩ := h
    have h1 := h
    replace h0 : _ = _ := h0
    subst h0
    replace h1 : _ = _ := h1
    subst h1
    exact CodeIns.Rep.mk (e := ⟨y.1, y.2⟩)
  show LaysF enc Try.prog W [_, _] 0 _ _ _ _
  refine LaysF.cons (off := 1) (by kernel_rfl) (by kernel_rfl) grows_i64 ?_ ?_
  · exact (Lays.i64 Try.underlying3)
  refine LaysF.last (by kernel_rfl) ?_
  exact (Lays.i64 Try.underlying3)
theorem CodeFun.grows : Grows CodeFun.Rep := fun σ σ' xs y hl h => CodeFun.Rep.le hl h
theorem lays159 {H : Type} {enc : TypeId × Value → H} {W : World} : ∀ (m : Nat), Lays enc Try.prog W 159 CodeFun.Rep CodeFun.Fit m := by
  intro m
  refine Lays.less (m := m + 1) ?_ (by omega)
  refine Lays.struct (sz := (1 + (1 + (1 + (1 + (1 + 1)))))) (R := (PairR StrR (PairR BoolR (PairR (SlR 1 I64R) (PairR I64R (PairR I64R (SlR 2 CodeIns.Rep))))))) (fit := (fitP fitT (fitP fitB (fitP (fitL fitI) (fitP fitI (fitP fitI (fitL CodeIns.Fit))))))) (fun y => (⟨y.1, y.2.1, y.2.2.1, y.2.2.2.1, y.2.2.2.2.1, y.2.2.2.2.2⟩ : CodeFun)) (fun σ xs y h => ?_) (fun y h => .mk (h.1) (h.2.2.1.1) (h.2.2.1.2) (h.2.2.2.1) (h.2.2.2.2.1) (h.2.2.2.2.2.1) (h.2.2.2.2.2.2)) Try.underlying159 (by kernel_rfl) ?_
  ·
    obtain ⟨x0, xs, rfl, h0, h⟩ := h
    obtain ⟨x1, xs, rfl, h1, h⟩ := h
    obtain ⟨x2, xs, rfl, h2, h⟩ := h
    obtain ⟨x3, xs, rfl, h3, h⟩ := h
    obtain ⟨x4, xs, rfl, h4, h⟩ := h
    have h5 := h
    replace h0 : _ = _ := h0
    subst h0
    replace h1 : _ = _ := h1
    subst h1
    obtain ⟨v2, rfl, k2⟩ := h2
    replace h3 : _ = _ := h3
    subst h3
    replace h4 : _ = _ := h4
    subst h4
    obtain ⟨v5, rfl, k5⟩ := h5
    exact CodeFun.Rep.mk (e := ⟨y.1, y.2.1, y.2.2.1, y.2.2.2.1, y.2.2.2.2.1, y.2.2.2.2.2⟩) k2 k5
  show LaysF enc Try.prog W [_, _, _, _, _, _] 0 _ _ _ _
  refine LaysF.cons (off := 1) (by kernel_rfl) (by kernel_rfl) grows_str ?_ ?_
  · exact (Lays.string Try.underlying9)
  refine LaysF.cons (off := 2) (by kernel_rfl) (by kernel_rfl) grows_bool ?_ ?_
  · exact (Lays.bool Try.underlying4)
  refine LaysF.cons (off := 3) (by kernel_rfl) (by kernel_rfl) (Grows.sl grows_i64) ?_ ?_
  · exact (Lays.slice' Try.underlying25 (by kernel_rfl) (by decide) grows_i64 (Lays.i64 Try.underlying3))
  refine LaysF.cons (off := 4) (by kernel_rfl) (by kernel_rfl) grows_i64 ?_ ?_
  · exact (Lays.i64 Try.underlying3)
  refine LaysF.cons (off := 5) (by kernel_rfl) (by kernel_rfl) grows_i64 ?_ ?_
  · exact (Lays.i64 Try.underlying3)
  refine LaysF.last (by kernel_rfl) ?_
  exact (Lays.slice' Try.underlying157 (by kernel_rfl) (by decide) CodeIns.grows (lays200 _))
theorem CodeObj.grows : Grows CodeObj.Rep := fun σ σ' xs y hl h => CodeObj.Rep.le hl h
theorem lays66 {H : Type} {enc : TypeId × Value → H} {W : World} : ∀ (m : Nat), Lays enc Try.prog W 66 CodeObj.Rep CodeObj.Fit m := by
  intro m
  refine Lays.less (m := m + 1) ?_ (by omega)
  refine Lays.struct (sz := (1 + 1)) (R := (PairR (SlR 2 CodeRef.Rep) (SlR 6 CodeFun.Rep))) (fit := (fitP (fitL CodeRef.Fit) (fitL CodeFun.Fit))) (fun y => (⟨y.1, y.2⟩ : CodeObj)) (fun σ xs y h => ?_) (fun y h => .mk (h.1.1) (h.1.2) (h.2.1) (h.2.2)) Try.underlying66 (by kernel_rfl) ?_
  ·
    obtain ⟨x0, xs, rfl, h0, h⟩ := h
    have h1 := h
    obtain ⟨v0, rfl, k0⟩ := h0
    obtain ⟨v1, rfl, k1⟩ := h1
    exact CodeObj.Rep.mk (e := ⟨y.1, y.2⟩) k0 k1
  show LaysF enc Try.prog W [_, _] 0 _ _ _ _
  refine LaysF.cons (off := 1) (by kernel_rfl) (by kernel_rfl) (Grows.sl CodeRef.grows) ?_ ?_
  · exact (Lays.slice' Try.underlying63 (by kernel_rfl) (by decide) CodeRef.grows (lays155 _))
  refine LaysF.last (by kernel_rfl) ?_
  exact (Lays.slice' Try.underlying64 (by kernel_rfl) (by decide) CodeFun.grows (lays159 _))
theorem LinkPart.grows : Grows LinkPart.Rep := fun σ σ' xs y hl h => LinkPart.Rep.le hl h
theorem lays68 {H : Type} {enc : TypeId × Value → H} {W : World} : ∀ (m : Nat), Lays enc Try.prog W 68 LinkPart.Rep LinkPart.Fit m := by
  intro m
  refine Lays.less (m := m + 1) ?_ (by omega)
  refine Lays.struct (sz := (1 + 2)) (R := (PairR StrR CodeObj.Rep)) (fit := (fitP fitT CodeObj.Fit)) (fun y => (⟨y.1, y.2⟩ : LinkPart)) (fun σ xs y h => ?_) (fun y h => .mk (h.1) (h.2)) Try.underlying68 (by kernel_rfl) ?_
  ·
    obtain ⟨x0, xs, rfl, h0, h⟩ := h
    have h1 := h
    replace h0 : _ = _ := h0
    subst h0
    cases h1 with
    | mk k1_0 k1_1 =>
    exact LinkPart.Rep.mk (e := ⟨y.1, y.2⟩) k1_0 k1_1
  show LaysF enc Try.prog W [_, _] 0 _ _ _ _
  refine LaysF.cons (off := 1) (by kernel_rfl) (by kernel_rfl) grows_str ?_ ?_
  · exact (Lays.string Try.underlying9)
  refine LaysF.last (by kernel_rfl) ?_
  exact (lays66 _)
end Go.B
