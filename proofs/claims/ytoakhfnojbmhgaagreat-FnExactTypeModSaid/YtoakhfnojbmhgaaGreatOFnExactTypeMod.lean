/- How the arguments of FnExactTypeMod are shown in a heap. -/
import Derived.Test.YtoakhfnojbmhgaaGreatT
import Derived.Test.YtoakhfnojbmhgaaGreatHMOpen
import Derived.Test.YtoakhfnojbmhgaaGreatProg
import Derived.KernelRfl
namespace Go.G
open Go.HM Go.Proofs
set_option linter.unusedVariables false
theorem TreeArg.grows : Grows TreeArg.Rep := fun σ σ' xs y hl h => TreeArg.Rep.le hl h
theorem lays68 {H : Type} {enc : TypeId × Value → H} {W : World} : ∀ (m : Nat), Lays enc Tryz.prog W 68 TreeArg.Rep TreeArg.Fit m := by
  intro m
  refine Lays.less (m := m + 1) ?_ (by omega)
  refine Lays.struct (sz := (1 + 1)) (R := (PairR StrR I64R)) (fit := (fitP fitT fitI)) (fun y => (⟨y.1, y.2⟩ : TreeArg)) (fun σ xs y h => ?_) (fun y h => .mk (h.1) (h.2)) Tryz.underlying68 (by kernel_rfl) ?_
  ·
    obtain ⟨x0, xs, rfl, h0, h⟩ := h
    have h1 := h
    replace h0 : _ = _ := h0
    subst h0
    replace h1 : _ = _ := h1
    subst h1
    exact TreeArg.Rep.mk (e := ⟨y.1, y.2⟩)
  show LaysF enc Tryz.prog W [_, _] 0 _ _ _ _
  refine LaysF.cons (off := 1) (by kernel_rfl) (by kernel_rfl) grows_str ?_ ?_
  · exact (Lays.string Tryz.underlying9)
  refine LaysF.last (by kernel_rfl) ?_
  exact (Lays.i64 Tryz.underlying3)
theorem TreeExpr.grows : Grows TreeExpr.Rep := fun σ σ' xs y hl h => TreeExpr.Rep.le hl y h
theorem lays30 {H : Type} {enc : TypeId × Value → H} {W : World} : ∀ (m : Nat), Lays enc Tryz.prog W 30 TreeExpr.Rep TreeExpr.Fit m := by
  refine Lays.fix (fun m ih => ?_)
  refine Lays.struct (sz := (1 + (1 + (1 + (1 + 1))))) (R := (PairR I64R (PairR I64R (PairR StrR (PairR StrR (SlR 5 TreeExpr.Rep)))))) (fit := (fitP fitI (fitP fitI (fitP fitT (fitP fitT (fitL TreeExpr.Fit)))))) (fun y => (⟨y.1, y.2.1, y.2.2.1, y.2.2.2.1, y.2.2.2.2⟩ : TreeExpr)) (fun σ xs y h => ?_) (fun y h => .mk (h.1) (h.2.1) (h.2.2.1) (h.2.2.2.1) (h.2.2.2.2.1) (h.2.2.2.2.2)) Tryz.underlying30 (by kernel_rfl) ?_
  ·
    obtain ⟨x0, xs, rfl, h0, h⟩ := h
    obtain ⟨x1, xs, rfl, h1, h⟩ := h
    obtain ⟨x2, xs, rfl, h2, h⟩ := h
    obtain ⟨x3, xs, rfl, h3, h⟩ := h
    have h4 := h
    replace h0 : _ = _ := h0
    subst h0
    replace h1 : _ = _ := h1
    subst h1
    replace h2 : _ = _ := h2
    subst h2
    replace h3 : _ = _ := h3
    subst h3
    obtain ⟨v4, rfl, k4⟩ := h4
    exact TreeExpr.Rep.mk (e := ⟨y.1, y.2.1, y.2.2.1, y.2.2.2.1, y.2.2.2.2⟩) k4
  show LaysF enc Tryz.prog W [_, _, _, _, _] 0 _ _ _ _
  refine LaysF.cons (off := 1) (by kernel_rfl) (by kernel_rfl) grows_i64 ?_ ?_
  · exact (Lays.i64 Tryz.underlying3)
  refine LaysF.cons (off := 2) (by kernel_rfl) (by kernel_rfl) grows_i64 ?_ ?_
  · exact (Lays.i64 Tryz.underlying3)
  refine LaysF.cons (off := 3) (by kernel_rfl) (by kernel_rfl) grows_str ?_ ?_
  · exact (Lays.string Tryz.underlying9)
  refine LaysF.cons (off := 4) (by kernel_rfl) (by kernel_rfl) grows_str ?_ ?_
  · exact (Lays.string Tryz.underlying9)
  refine LaysF.last (by kernel_rfl) ?_
  exact (Lays.slice' Tryz.underlying24 (by kernel_rfl) (by decide) TreeExpr.grows ih)
theorem TreeFun.grows : Grows TreeFun.Rep := fun σ σ' xs y hl h => TreeFun.Rep.le hl h
theorem lays97 {H : Type} {enc : TypeId × Value → H} {W : World} : ∀ (m : Nat), Lays enc Tryz.prog W 97 TreeFun.Rep TreeFun.Fit m := by
  intro m
  refine Lays.less (m := m + 1) ?_ (by omega)
  refine Lays.struct (sz := (1 + (1 + (1 + (1 + 5))))) (R := (PairR StrR (PairR BoolR (PairR (SlR 2 TreeArg.Rep) (PairR I64R TreeExpr.Rep))))) (fit := (fitP fitT (fitP fitB (fitP (fitL TreeArg.Fit) (fitP fitI TreeExpr.Fit))))) (fun y => (⟨y.1, y.2.1, y.2.2.1, y.2.2.2.1, y.2.2.2.2⟩ : TreeFun)) (fun σ xs y h => ?_) (fun y h => .mk (h.1) (h.2.2.1.1) (h.2.2.1.2) (h.2.2.2.1) (h.2.2.2.2)) Tryz.underlying97 (by kernel_rfl) ?_
  ·
    obtain ⟨x0, xs, rfl, h0, h⟩ := h
    obtain ⟨x1, xs, rfl, h1, h⟩ := h
    obtain ⟨x2, xs, rfl, h2, h⟩ := h
    obtain ⟨x3, xs, rfl, h3, h⟩ := h
    have h4 := h
    replace h0 : _ = _ := h0
    subst h0
    replace h1 : _ = _ := h1
    subst h1
    obtain ⟨v2, rfl, k2⟩ := h2
    replace h3 : _ = _ := h3
    subst h3
    cases h4 with
    | mk k4_0 =>
    exact TreeFun.Rep.mk (e := ⟨y.1, y.2.1, y.2.2.1, y.2.2.2.1, y.2.2.2.2⟩) k2 k4_0
  show LaysF enc Tryz.prog W [_, _, _, _, _] 0 _ _ _ _
  refine LaysF.cons (off := 1) (by kernel_rfl) (by kernel_rfl) grows_str ?_ ?_
  · exact (Lays.string Tryz.underlying9)
  refine LaysF.cons (off := 2) (by kernel_rfl) (by kernel_rfl) grows_bool ?_ ?_
  · exact (Lays.bool Tryz.underlying4)
  refine LaysF.cons (off := 3) (by kernel_rfl) (by kernel_rfl) (Grows.sl TreeArg.grows) ?_ ?_
  · exact (Lays.slice' Tryz.underlying28 (by kernel_rfl) (by decide) TreeArg.grows (lays68 _))
  refine LaysF.cons (off := 4) (by kernel_rfl) (by kernel_rfl) grows_i64 ?_ ?_
  · exact (Lays.i64 Tryz.underlying3)
  refine LaysF.last (by kernel_rfl) ?_
  exact (lays30 _)
theorem TreeMod.grows : Grows TreeMod.Rep := fun σ σ' xs y hl h => TreeMod.Rep.le hl h
theorem lays26 {H : Type} {enc : TypeId × Value → H} {W : World} : ∀ (m : Nat), Lays enc Tryz.prog W 26 TreeMod.Rep TreeMod.Fit m := by
  intro m
  refine Lays.less (m := m + 1) ?_ (by omega)
  refine Lays.struct (sz := (1 + (1 + 1))) (R := (PairR (SlR 1 StrR) (PairR (SlR 9 TreeFun.Rep) (SlR 5 TreeExpr.Rep)))) (fit := (fitP (fitL fitT) (fitP (fitL TreeFun.Fit) (fitL TreeExpr.Fit)))) (fun y => (⟨y.1, y.2.1, y.2.2⟩ : TreeMod)) (fun σ xs y h => ?_) (fun y h => .mk (h.1.1) (h.1.2) (h.2.1.1) (h.2.1.2) (h.2.2.1) (h.2.2.2)) Tryz.underlying26 (by kernel_rfl) ?_
  ·
    obtain ⟨x0, xs, rfl, h0, h⟩ := h
    obtain ⟨x1, xs, rfl, h1, h⟩ := h
    have h2 := h
    obtain ⟨v0, rfl, k0⟩ := h0
    obtain ⟨v1, rfl, k1⟩ := h1
    obtain ⟨v2, rfl, k2⟩ := h2
    exact TreeMod.Rep.mk (e := ⟨y.1, y.2.1, y.2.2⟩) k0 k1 k2
  show LaysF enc Tryz.prog W [_, _, _] 0 _ _ _ _
  refine LaysF.cons (off := 1) (by kernel_rfl) (by kernel_rfl) (Grows.sl grows_str) ?_ ?_
  · exact (Lays.slice' Tryz.underlying22 (by kernel_rfl) (by decide) grows_str (Lays.string Tryz.underlying9))
  refine LaysF.cons (off := 2) (by kernel_rfl) (by kernel_rfl) (Grows.sl TreeFun.grows) ?_ ?_
  · exact (Lays.slice' Tryz.underlying23 (by kernel_rfl) (by decide) TreeFun.grows (lays97 _))
  refine LaysF.last (by kernel_rfl) ?_
  exact (Lays.slice' Tryz.underlying24 (by kernel_rfl) (by decide) TreeExpr.grows (lays30 _))
theorem FaceSig.grows : Grows FaceSig.Rep := fun σ σ' xs y hl h => FaceSig.Rep.le hl h
theorem lays130 {H : Type} {enc : TypeId × Value → H} {W : World} : ∀ (m : Nat), Lays enc Tryz.prog W 130 FaceSig.Rep FaceSig.Fit m := by
  intro m
  refine Lays.less (m := m + 1) ?_ (by omega)
  refine Lays.struct (sz := (1 + (1 + 1))) (R := (PairR StrR (PairR (SlR 1 I64R) I64R))) (fit := (fitP fitT (fitP (fitL fitI) fitI))) (fun y => (⟨y.1, y.2.1, y.2.2⟩ : FaceSig)) (fun σ xs y h => ?_) (fun y h => .mk (h.1) (h.2.1.1) (h.2.1.2) (h.2.2)) Tryz.underlying130 (by kernel_rfl) ?_
  ·
    obtain ⟨x0, xs, rfl, h0, h⟩ := h
    obtain ⟨x1, xs, rfl, h1, h⟩ := h
    have h2 := h
    replace h0 : _ = _ := h0
    subst h0
    obtain ⟨v1, rfl, k1⟩ := h1
    replace h2 : _ = _ := h2
    subst h2
    exact FaceSig.Rep.mk (e := ⟨y.1, y.2.1, y.2.2⟩) k1
  show LaysF enc Tryz.prog W [_, _, _] 0 _ _ _ _
  refine LaysF.cons (off := 1) (by kernel_rfl) (by kernel_rfl) grows_str ?_ ?_
  · exact (Lays.string Tryz.underlying9)
  refine LaysF.cons (off := 2) (by kernel_rfl) (by kernel_rfl) (Grows.sl grows_i64) ?_ ?_
  · exact (Lays.slice' Tryz.underlying103 (by kernel_rfl) (by decide) grows_i64 (Lays.i64 Tryz.underlying3))
  refine LaysF.last (by kernel_rfl) ?_
  exact (Lays.i64 Tryz.underlying3)
theorem TypeFace.grows : Grows TypeFace.Rep := fun σ σ' xs y hl h => TypeFace.Rep.le hl h
theorem lays65 {H : Type} {enc : TypeId × Value → H} {W : World} : ∀ (m : Nat), Lays enc Tryz.prog W 65 TypeFace.Rep TypeFace.Fit m := by
  intro m
  refine Lays.less (m := m + 1) ?_ (by omega)
  refine Lays.struct (sz := (1 + 1)) (R := (PairR StrR (SlR 3 FaceSig.Rep))) (fit := (fitP fitT (fitL FaceSig.Fit))) (fun y => (⟨y.1, y.2⟩ : TypeFace)) (fun σ xs y h => ?_) (fun y h => .mk (h.1) (h.2.1) (h.2.2)) Tryz.underlying65 (by kernel_rfl) ?_
  ·
    obtain ⟨x0, xs, rfl, h0, h⟩ := h
    have h1 := h
    replace h0 : _ = _ := h0
    subst h0
    obtain ⟨v1, rfl, k1⟩ := h1
    exact TypeFace.Rep.mk (e := ⟨y.1, y.2⟩) k1
  show LaysF enc Tryz.prog W [_, _] 0 _ _ _ _
  refine LaysF.cons (off := 1) (by kernel_rfl) (by kernel_rfl) grows_str ?_ ?_
  · exact (Lays.string Tryz.underlying9)
  refine LaysF.last (by kernel_rfl) ?_
  exact (Lays.slice' Tryz.underlying63 (by kernel_rfl) (by decide) FaceSig.grows (lays130 _))
end Go.G
