/- How the arguments of FnExactTreePrint are shown in a heap. -/
import Derived.Test.YtjadancpencnnaaDoorT
import Derived.Test.YtjadancpencnnaaDoorHMOpen
import Derived.Test.YtjadancpencnnaaDoorProg
import Derived.KernelRfl
namespace Go.D
open Go.HM Go.Proofs
set_option linter.unusedVariables false
theorem TreeArg.grows : Grows TreeArg.Rep := fun σ σ' xs y hl h => TreeArg.Rep.le hl h
theorem lays194 {H : Type} {enc : TypeId × Value → H} {W : World} : ∀ (m : Nat), Lays enc Tryd.prog W 194 TreeArg.Rep TreeArg.Fit m := by
  intro m
  refine Lays.less (m := m + 1) ?_ (by omega)
  refine Lays.struct (sz := (1 + 1)) (R := (PairR StrR I64R)) (fit := (fitP fitT fitI)) (fun y => (⟨y.1, y.2⟩ : TreeArg)) (fun σ xs y h => ?_) (fun y h => .mk (h.1) (h.2)) Tryd.underlying194 (by kernel_rfl) ?_
  ·
    obtain ⟨x0, xs, rfl, h0, h⟩ := h
    have h1 := h
    replace h0 : _ = _ := h0
    subst h0
    replace h1 : _ = _ := h1
    subst h1
    exact TreeArg.Rep.mk (e := ⟨y.1, y.2⟩)
  show LaysF enc Tryd.prog W [_, _] 0 _ _ _ _
  refine LaysF.cons (off := 1) (by kernel_rfl) (by kernel_rfl) grows_str ?_ ?_
  · exact (Lays.string Tryd.underlying9)
  refine LaysF.last (by kernel_rfl) ?_
  exact (Lays.i64 Tryd.underlying3)
theorem TreeExpr.grows : Grows TreeExpr.Rep := fun σ σ' xs y hl h => TreeExpr.Rep.le hl y h
theorem lays128 {H : Type} {enc : TypeId × Value → H} {W : World} : ∀ (m : Nat), Lays enc Tryd.prog W 128 TreeExpr.Rep TreeExpr.Fit m := by
  refine Lays.fix (fun m ih => ?_)
  refine Lays.struct (sz := (1 + (1 + (1 + (1 + 1))))) (R := (PairR I64R (PairR I64R (PairR StrR (PairR StrR (SlR 5 TreeExpr.Rep)))))) (fit := (fitP fitI (fitP fitI (fitP fitT (fitP fitT (fitL TreeExpr.Fit)))))) (fun y => (⟨y.1, y.2.1, y.2.2.1, y.2.2.2.1, y.2.2.2.2⟩ : TreeExpr)) (fun σ xs y h => ?_) (fun y h => .mk (h.1) (h.2.1) (h.2.2.1) (h.2.2.2.1) (h.2.2.2.2.1) (h.2.2.2.2.2)) Tryd.underlying128 (by kernel_rfl) ?_
  ·
    obtain ⟨x0, xs, rfl, h0, h⟩ := h
    obtain ⟨x1, xs, rfl, h1, h⟩ := h
    obtain ⟨x2, xs, rfl, h2, h⟩ := h
    obtain ⟨x3, xs, rfl, h3, h⟩ := h
    have h4 := h
    replace h0 : _ = _ := h0
    subst h0
    replace h1 : _ = _ := h1
    subst h1
    replace h2 : _ = _ := h2
    subst h2
    replace h3 : _ = _ := h3
    subst h3
    obtain ⟨v4, rfl, k4⟩ := h4
    exact TreeExpr.Rep.mk (e := ⟨y.1, y.2.1, y.2.2.1, y.2.2.2.1, y.2.2.2.2⟩) k4
  show LaysF enc Tryd.prog W [_, _, _, _, _] 0 _ _ _ _
  refine LaysF.cons (off := 1) (by kernel_rfl) (by kernel_rfl) grows_i64 ?_ ?_
  · exact (Lays.i64 Tryd.underlying3)
  refine LaysF.cons (off := 2) (by kernel_rfl) (by kernel_rfl) grows_i64 ?_ ?_
  · exact (Lays.i64 Tryd.underlying3)
  refine LaysF.cons (off := 3) (by kernel_rfl) (by kernel_rfl) grows_str ?_ ?_
  · exact (Lays.string Tryd.underlying9)
  refine LaysF.cons (off := 4) (by kernel_rfl) (by kernel_rfl) grows_str ?_ ?_
  · exact (Lays.string Tryd.underlying9)
  refine LaysF.last (by kernel_rfl) ?_
  exact (Lays.slice' Tryd.underlying36 (by kernel_rfl) (by decide) TreeExpr.grows ih)
theorem TreeFun.grows : Grows TreeFun.Rep := fun σ σ' xs y hl h => TreeFun.Rep.le hl h
theorem lays130 {H : Type} {enc : TypeId × Value → H} {W : World} : ∀ (m : Nat), Lays enc Tryd.prog W 130 TreeFun.Rep TreeFun.Fit m := by
  intro m
  refine Lays.less (m := m + 1) ?_ (by omega)
  refine Lays.struct (sz := (1 + (1 + (1 + (1 + 5))))) (R := (PairR StrR (PairR BoolR (PairR (SlR 2 TreeArg.Rep) (PairR I64R TreeExpr.Rep))))) (fit := (fitP fitT (fitP fitB (fitP (fitL TreeArg.Fit) (fitP fitI TreeExpr.Fit))))) (fun y => (⟨y.1, y.2.1, y.2.2.1, y.2.2.2.1, y.2.2.2.2⟩ : TreeFun)) (fun σ xs y h => ?_) (fun y h => .mk (h.1) (h.2.2.1.1) (h.2.2.1.2) (h.2.2.2.1) (h.2.2.2.2)) Tryd.underlying130 (by kernel_rfl) ?_
  ·
    obtain ⟨x0, xs, rfl, h0, h⟩ := h
    obtain ⟨x1, xs, rfl, h1, h⟩ := h
    obtain ⟨x2, xs, rfl, h2, h⟩ := h
    obtain ⟨x3, xs, rfl, h3, h⟩ := h
    have h4 := h
    replace h0 : _ = _ := h0
    subst h0
    replace h1 : _ = _ := h1
    subst h1
    obtain ⟨v2, rfl, k2⟩ := h2
    replace h3 : _ = _ := h3
    subst h3
    cases h4 with
    | mk k4_0 =>
    exact TreeFun.Rep.mk (e := ⟨y.1, y.2.1, y.2.2.1, y.2.2.2.1, y.2.2.2.2⟩) k2 k4_0
  show LaysF enc Tryd.prog W [_, _, _, _, _] 0 _ _ _ _
  refine LaysF.cons (off := 1) (by kernel_rfl) (by kernel_rfl) grows_str ?_ ?_
  · exact (Lays.string Tryd.underlying9)
  refine LaysF.cons (off := 2) (by kernel_rfl) (by kernel_rfl) grows_bool ?_ ?_
  · exact (Lays.bool Tryd.underlying4)
  refine LaysF.cons (off := 3) (by kernel_rfl) (by kernel_rfl) (Grows.sl TreeArg.grows) ?_ ?_
  · exact (Lays.slice' Tryd.underlying126 (by kernel_rfl) (by decide) TreeArg.grows (lays194 _))
  refine LaysF.cons (off := 4) (by kernel_rfl) (by kernel_rfl) grows_i64 ?_ ?_
  · exact (Lays.i64 Tryd.underlying3)
  refine LaysF.last (by kernel_rfl) ?_
  exact (lays128 _)
theorem TreeMod.grows : Grows TreeMod.Rep := fun σ σ' xs y hl h => TreeMod.Rep.le hl h
theorem lays38 {H : Type} {enc : TypeId × Value → H} {W : World} : ∀ (m : Nat), Lays enc Tryd.prog W 38 TreeMod.Rep TreeMod.Fit m := by
  intro m
  refine Lays.less (m := m + 1) ?_ (by omega)
  refine Lays.struct (sz := (1 + (1 + 1))) (R := (PairR (SlR 1 StrR) (PairR (SlR 9 TreeFun.Rep) (SlR 5 TreeExpr.Rep)))) (fit := (fitP (fitL fitT) (fitP (fitL TreeFun.Fit) (fitL TreeExpr.Fit)))) (fun y => (⟨y.1, y.2.1, y.2.2⟩ : TreeMod)) (fun σ xs y h => ?_) (fun y h => .mk (h.1.1) (h.1.2) (h.2.1.1) (h.2.1.2) (h.2.2.1) (h.2.2.2)) Tryd.underlying38 (by kernel_rfl) ?_
  ·
    obtain ⟨x0, xs, rfl, h0, h⟩ := h
    obtain ⟨x1, xs, rfl, h1, h⟩ := h
    have h2 := h
    obtain ⟨v0, rfl, k0⟩ := h0
    obtain ⟨v1, rfl, k1⟩ := h1
    obtain ⟨v2, rfl, k2⟩ := h2
    exact TreeMod.Rep.mk (e := ⟨y.1, y.2.1, y.2.2⟩) k0 k1 k2
  show LaysF enc Tryd.prog W [_, _, _] 0 _ _ _ _
  refine LaysF.cons (off := 1) (by kernel_rfl) (by kernel_rfl) (Grows.sl grows_str) ?_ ?_
  · exact (Lays.slice' Tryd.underlying34 (by kernel_rfl) (by decide) grows_str (Lays.string Tryd.underlying9))
  refine LaysF.cons (off := 2) (by kernel_rfl) (by kernel_rfl) (Grows.sl TreeFun.grows) ?_ ?_
  · exact (Lays.slice' Tryd.underlying35 (by kernel_rfl) (by decide) TreeFun.grows (lays130 _))
  refine LaysF.last (by kernel_rfl) ?_
  exact (Lays.slice' Tryd.underlying36 (by kernel_rfl) (by decide) TreeExpr.grows (lays128 _))
/-- What the listed variables hold. -/
structure VarsFnExactTreePrint (σ : Heap) : Prop where
  v0 : σ[6]? = some (some ⟨[.int .u8 0, .int .u8 1, .int .u8 28, .int .u8 2, .int .u8 29, .int .u8 14, .int .u8 24, .int .u8 3, .int .u8 30, .int .u8 22, .int .u8 20, .int .u8 15, .int .u8 25, .int .u8 17, .int .u8 4, .int .u8 8, .int .u8 31, .int .u8 27, .int .u8 13, .int .u8 23, .int .u8 21, .int .u8 19, .int .u8 16, .int .u8 7, .int .u8 26, .int .u8 12, .int .u8 18, .int .u8 6, .int .u8 11, .int .u8 5, .int .u8 10, .int .u8 9], 1, true, 0⟩)
  v1 : σ[7]? = some (some ⟨[.int .u8 0, .int .u8 1, .int .u8 56, .int .u8 2, .int .u8 57, .int .u8 49, .int .u8 28, .int .u8 3, .int .u8 61, .int .u8 58, .int .u8 42, .int .u8 50, .int .u8 38, .int .u8 29, .int .u8 17, .int .u8 4, .int .u8 62, .int .u8 47, .int .u8 59, .int .u8 36, .int .u8 45, .int .u8 43, .int .u8 51, .int .u8 22, .int .u8 53, .int .u8 39, .int .u8 33, .int .u8 30, .int .u8 24, .int .u8 18, .int .u8 12, .int .u8 5, .int .u8 63, .int .u8 55, .int .u8 48, .int .u8 27, .int .u8 60, .int .u8 41, .int .u8 37, .int .u8 16, .int .u8 46, .int .u8 35, .int .u8 44, .int .u8 21, .int .u8 52, .int .u8 32, .int .u8 23, .int .u8 11, .int .u8 54, .int .u8 26, .int .u8 40, .int .u8 15, .int .u8 34, .int .u8 20, .int .u8 31, .int .u8 10, .int .u8 25, .int .u8 14, .int .u8 19, .int .u8 9, .int .u8 13, .int .u8 8, .int .u8 7, .int .u8 6], 1, true, 0⟩)
  v2 : σ[4]? = some (some ⟨[.int .u64 1, .int .u64 10, .int .u64 100, .int .u64 1000, .int .u64 10000, .int .u64 100000, .int .u64 1000000, .int .u64 10000000, .int .u64 100000000, .int .u64 1000000000, .int .u64 10000000000, .int .u64 100000000000, .int .u64 1000000000000, .int .u64 10000000000000, .int .u64 100000000000000, .int .u64 1000000000000000, .int .u64 10000000000000000, .int .u64 100000000000000000, .int .u64 1000000000000000000, .int .u64 10000000000000000000], 1, true, 0⟩)
  v3 : σ[0]? = some (some ⟨[.str (⟨#[105, 110, 116]⟩ : ByteArray), .str (⟨#[98, 111, 111, 108]⟩ : ByteArray), .str (⟨#[114, 111, 119]⟩ : ByteArray)], 1, true, 0⟩)
theorem VarsFnExactTreePrint.le {σ σ' : Heap} (hl : Lh σ σ') (h : VarsFnExactTreePrint σ) : VarsFnExactTreePrint σ' := ⟨hl.row _ _ h.v0, hl.row _ _ h.v1, hl.row _ _ h.v2, hl.row _ _ h.v3⟩
end Go.D
