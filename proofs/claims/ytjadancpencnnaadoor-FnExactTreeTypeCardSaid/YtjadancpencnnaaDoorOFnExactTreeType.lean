/- How the arguments of FnExactTreeType are shown in a heap. -/
import Derived.Test.YtjadancpencnnaaDoorT
import Derived.Test.YtjadancpencnnaaDoorHMOpen
import Derived.Test.YtjadancpencnnaaDoorProg
import Derived.KernelRfl
namespace Go.D
open Go.HM Go.Proofs
set_option linter.unusedVariables false
/-- What the listed variables hold. -/
structure VarsFnExactTreeType (σ : Heap) : Prop where
  v0 : σ[0]? = some (some ⟨[.str (⟨#[105, 110, 116]⟩ : ByteArray), .str (⟨#[98, 111, 111, 108]⟩ : ByteArray), .str (⟨#[114, 111, 119]⟩ : ByteArray)], 1, true, 0⟩)
theorem VarsFnExactTreeType.le {σ σ' : Heap} (hl : Lh σ σ') (h : VarsFnExactTreeType σ) : VarsFnExactTreeType σ' := ⟨hl.row _ _ h.v0⟩
end Go.D
