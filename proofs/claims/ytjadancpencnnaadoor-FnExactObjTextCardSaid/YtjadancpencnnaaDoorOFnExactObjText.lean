/- How the arguments of FnExactObjText are shown in a heap. -/
import Derived.Test.YtjadancpencnnaaDoorT
import Derived.Test.YtjadancpencnnaaDoorHMOpen
import Derived.Test.YtjadancpencnnaaDoorProg
import Derived.KernelRfl
namespace Go.D
open Go.HM Go.Proofs
set_option linter.unusedVariables false
theorem CodeRef.grows : Grows CodeRef.Rep := fun σ σ' xs y hl h => CodeRef.Rep.le hl h
theorem lays151 {H : Type} {enc : TypeId × Value → H} {W : World} : ∀ (m : Nat), Lays enc Tryd.prog W 151 CodeRef.Rep CodeRef.Fit m := by
  intro m
  refine Lays.less (m := m + 1) ?_ (by omega)
  refine Lays.struct (sz := (1 + 1)) (R := (PairR StrR StrR)) (fit := (fitP fitT fitT)) (fun y => (⟨y.1, y.2⟩ : CodeRef)) (fun σ xs y h => ?_) (fun y h => .mk (h.1) (h.2)) Tryd.underlying151 (by kernel_rfl) ?_
  ·
    obtain ⟨x0, xs, rfl, h0, h⟩ := h
    have h1 := h
    replace h0 : _ = _ := h0
    subst h0
    replace h1 : _ = _ := h1
    subst h1
    exact CodeRef.Rep.mk (e := ⟨y.1, y.2⟩)
  show LaysF enc Tryd.prog W [_, _] 0 _ _ _ _
  refine LaysF.cons (off := 1) (by kernel_rfl) (by kernel_rfl) grows_str ?_ ?_
  · exact (Lays.string Tryd.underlying9)
  refine LaysF.last (by kernel_rfl) ?_
  exact (Lays.string Tryd.underlying9)
theorem CodeIns.grows : Grows CodeIns.Rep := fun σ σ' xs y hl h => CodeIns.Rep.le hl h
theorem lays202 {H : Type} {enc : TypeId × Value → H} {W : World} : ∀ (m : Nat), Lays enc Tryd.prog W 202 CodeIns.Rep CodeIns.Fit m := by
  intro m
  refine Lays.less (m := m + 1) ?_ (by omega)
  refine Lays.struct (sz := (1 + 1)) (R := (PairR I64R I64R)) (fit := (fitP fitI fitI)) (fun y => (⟨y.1, y.2⟩ : CodeIns)) (fun σ xs y h => ?_) (fun y h => .mk (h.1) (h.2)) Tryd.underlying202 (by kernel_rfl) ?_
  ·
    obtain ⟨x0, xs, rfl, h0, h⟩ := h
    have h1 := h
    replace h0 : _ = _ := h0
    subst h0
    replace h1 : _ = _ := h1
    subst h1
    exact CodeIns.Rep.mk (e := ⟨y.1, y.2⟩)
  show LaysF enc Tryd.prog W [_, _] 0 _ _ _ _
  refine LaysF.cons (off := 1) (by kernel_rfl) (by kernel_rfl) grows_i64 ?_ ?_
  · exact (Lays.i64 Tryd.underlying3)
  refine LaysF.last (by kernel_rfl) ?_
  exact (Lays.i64 Tryd.underlying3)
theorem CodeFun.grows : Grows CodeFun.Rep := fun σ σ' xs y hl h => CodeFun.Rep.le hl h
theorem lays155 {H : Type} {enc : TypeId × Value → H} {W : World} : ∀ (m : Nat), Lays enc Tryd.prog W 155 CodeFun.Rep CodeFun.Fit m := by
  intro m
  refine Lays.less (m := m + 1) ?_ (by omega)
  refine Lays.struct (sz := (1 + (1 + (1 + (1 + (1 + 1)))))) (R := (PairR StrR (PairR BoolR (PairR (SlR 1 I64R) (PairR I64R (PairR I64R (SlR 2 CodeIns.Rep))))))) (fit := (fitP fitT (fitP fitB (fitP (fitL fitI) (fitP fitI (fitP fitI (fitL CodeIns.Fit))))))) (fun y => (⟨y.1, y.2.1, y.2.2.1, y.2.2.2.1, y.2.2.2.2.1, y.2.2.2.2.2⟩ : CodeFun)) (fun σ xs y h => ?_) (fun y h => .mk (h.1) (h.2.2.1.1) (h.2.2.1.2) (h.2.2.2.1) (h.2.2.2.2.1) (h.2.2.2.2.2.1) (h.2.2.2.2.2.2)) Tryd.underlying155 (by kernel_rfl) ?_
  ·
    obtain ⟨x0, xs, rfl, h0, h⟩ := h
    obtain ⟨x1, xs, rfl, h1, h⟩ := h
    obtain ⟨x2, xs, rfl, h2, h⟩ := h
    obtain ⟨x3, xs, rfl, h3, h⟩ := h
    obtain ⟨x4, xs, rfl, h4, h⟩ := h
    have h5 := h
    replace h0 : _ = _ := h0
    subst h0
    replace h1 : _ = _ := h1
    subst h1
    obtain ⟨v2, rfl, k2⟩ := h2
    replace h3 : _ = _ := h3
    subst h3
    replace h4 : _ = _ := h4
    subst h4
    obtain ⟨v5, rfl, k5⟩ := h5
    exact CodeFun.Rep.mk (e := ⟨y.1, y.2.1, y.2.2.1, y.2.2.2.1, y.2.2.2.2.1, y.2.2.2.2.2⟩) k2 k5
  show LaysF enc Tryd.prog W [_, _, _, _, _, _] 0 _ _ _ _
  refine LaysF.cons (off := 1) (by kernel_rfl) (by kernel_rfl) grows_str ?_ ?_
  · exact (Lays.string Tryd.underlying9)
  refine LaysF.cons (off := 2) (by kernel_rfl) (by kernel_rfl) grows_bool ?_ ?_
  · exact (Lays.bool Tryd.underlying4)
  refine LaysF.cons (off := 3) (by kernel_rfl) (by kernel_rfl) (Grows.sl grows_i64) ?_ ?_
  · exact (Lays.slice' Tryd.underlying63 (by kernel_rfl) (by decide) grows_i64 (Lays.i64 Tryd.underlying3))
  refine LaysF.cons (off := 4) (by kernel_rfl) (by kernel_rfl) grows_i64 ?_ ?_
  · exact (Lays.i64 Tryd.underlying3)
  refine LaysF.cons (off := 5) (by kernel_rfl) (by kernel_rfl) grows_i64 ?_ ?_
  · exact (Lays.i64 Tryd.underlying3)
  refine LaysF.last (by kernel_rfl) ?_
  exact (Lays.slice' Tryd.underlying153 (by kernel_rfl) (by decide) CodeIns.grows (lays202 _))
theorem CodeObj.grows : Grows CodeObj.Rep := fun σ σ' xs y hl h => CodeObj.Rep.le hl h
theorem lays51 {H : Type} {enc : TypeId × Value → H} {W : World} : ∀ (m : Nat), Lays enc Tryd.prog W 51 CodeObj.Rep CodeObj.Fit m := by
  intro m
  refine Lays.less (m := m + 1) ?_ (by omega)
  refine Lays.struct (sz := (1 + 1)) (R := (PairR (SlR 2 CodeRef.Rep) (SlR 6 CodeFun.Rep))) (fit := (fitP (fitL CodeRef.Fit) (fitL CodeFun.Fit))) (fun y => (⟨y.1, y.2⟩ : CodeObj)) (fun σ xs y h => ?_) (fun y h => .mk (h.1.1) (h.1.2) (h.2.1) (h.2.2)) Tryd.underlying51 (by kernel_rfl) ?_
  ·
    obtain ⟨x0, xs, rfl, h0, h⟩ := h
    have h1 := h
    obtain ⟨v0, rfl, k0⟩ := h0
    obtain ⟨v1, rfl, k1⟩ := h1
    exact CodeObj.Rep.mk (e := ⟨y.1, y.2⟩) k0 k1
  show LaysF enc Tryd.prog W [_, _] 0 _ _ _ _
  refine LaysF.cons (off := 1) (by kernel_rfl) (by kernel_rfl) (Grows.sl CodeRef.grows) ?_ ?_
  · exact (Lays.slice' Tryd.underlying48 (by kernel_rfl) (by decide) CodeRef.grows (lays151 _))
  refine LaysF.last (by kernel_rfl) ?_
  exact (Lays.slice' Tryd.underlying49 (by kernel_rfl) (by decide) CodeFun.grows (lays155 _))
/-- What the listed variables hold. -/
structure VarsFnExactObjText (σ : Heap) : Prop where
  v0 : σ[6]? = some (some ⟨[.int .u8 0, .int .u8 1, .int .u8 28, .int .u8 2, .int .u8 29, .int .u8 14, .int .u8 24, .int .u8 3, .int .u8 30, .int .u8 22, .int .u8 20, .int .u8 15, .int .u8 25, .int .u8 17, .int .u8 4, .int .u8 8, .int .u8 31, .int .u8 27, .int .u8 13, .int .u8 23, .int .u8 21, .int .u8 19, .int .u8 16, .int .u8 7, .int .u8 26, .int .u8 12, .int .u8 18, .int .u8 6, .int .u8 11, .int .u8 5, .int .u8 10, .int .u8 9], 1, true, 0⟩)
  v1 : σ[7]? = some (some ⟨[.int .u8 0, .int .u8 1, .int .u8 56, .int .u8 2, .int .u8 57, .int .u8 49, .int .u8 28, .int .u8 3, .int .u8 61, .int .u8 58, .int .u8 42, .int .u8 50, .int .u8 38, .int .u8 29, .int .u8 17, .int .u8 4, .int .u8 62, .int .u8 47, .int .u8 59, .int .u8 36, .int .u8 45, .int .u8 43, .int .u8 51, .int .u8 22, .int .u8 53, .int .u8 39, .int .u8 33, .int .u8 30, .int .u8 24, .int .u8 18, .int .u8 12, .int .u8 5, .int .u8 63, .int .u8 55, .int .u8 48, .int .u8 27, .int .u8 60, .int .u8 41, .int .u8 37, .int .u8 16, .int .u8 46, .int .u8 35, .int .u8 44, .int .u8 21, .int .u8 52, .int .u8 32, .int .u8 23, .int .u8 11, .int .u8 54, .int .u8 26, .int .u8 40, .int .u8 15, .int .u8 34, .int .u8 20, .int .u8 31, .int .u8 10, .int .u8 25, .int .u8 14, .int .u8 19, .int .u8 9, .int .u8 13, .int .u8 8, .int .u8 7, .int .u8 6], 1, true, 0⟩)
  v2 : σ[4]? = some (some ⟨[.int .u64 1, .int .u64 10, .int .u64 100, .int .u64 1000, .int .u64 10000, .int .u64 100000, .int .u64 1000000, .int .u64 10000000, .int .u64 100000000, .int .u64 1000000000, .int .u64 10000000000, .int .u64 100000000000, .int .u64 1000000000000, .int .u64 10000000000000, .int .u64 100000000000000, .int .u64 1000000000000000, .int .u64 10000000000000000, .int .u64 100000000000000000, .int .u64 1000000000000000000, .int .u64 10000000000000000000], 1, true, 0⟩)
  v3 : σ[0]? = some (some ⟨[.str (⟨#[105, 110, 116]⟩ : ByteArray), .str (⟨#[98, 111, 111, 108]⟩ : ByteArray), .str (⟨#[114, 111, 119]⟩ : ByteArray)], 1, true, 0⟩)
  v4 : σ[1]? = some (some ⟨[.str (⟨#[112, 117, 115, 104]⟩ : ByteArray), .str (⟨#[102, 108, 97, 103]⟩ : ByteArray), .str (⟨#[108, 111, 97, 100]⟩ : ByteArray), .str (⟨#[107, 101, 101, 112]⟩ : ByteArray), .str (⟨#[112, 114, 105, 109]⟩ : ByteArray), .str (⟨#[106, 117, 109, 112]⟩ : ByteArray), .str (⟨#[117, 110, 108, 101, 115, 115]⟩ : ByteArray), .str (⟨#[99, 97, 108, 108]⟩ : ByteArray), .str (⟨#[98, 97, 99, 107]⟩ : ByteArray), .str (⟨#[114, 111, 119]⟩ : ByteArray)], 1, true, 0⟩)
theorem VarsFnExactObjText.le {σ σ' : Heap} (hl : Lh σ σ') (h : VarsFnExactObjText σ) : VarsFnExactObjText σ' := ⟨hl.row _ _ h.v0, hl.row _ _ h.v1, hl.row _ _ h.v2, hl.row _ _ h.v3, hl.row _ _ h.v4⟩
end Go.D
