/- How the arguments of FnExactFaceRead are shown in a heap. -/
import Derived.Test.YtpkfajjkkmnmcaaDoorT
import Derived.Test.YtpkfajjkkmnmcaaDoorHMOpen
import Derived.Test.YtpkfajjkkmnmcaaDoorProg
import Derived.KernelRfl
namespace Go.R
open Go.HM Go.Proofs
set_option linter.unusedVariables false
/-- What the listed variables hold. -/
structure VarsFnExactFaceRead (σ : Heap) : Prop where
  v0 : σ[0]? = some (some ⟨[.str (⟨#[105, 110, 116]⟩ : ByteArray), .str (⟨#[98, 111, 111, 108]⟩ : ByteArray), .str (⟨#[114, 111, 119]⟩ : ByteArray)], 1, true, 0⟩)
  v1 : ∃ m, σ[1]? = some (some ⟨[.int .i64 m], 1, true, 0⟩)
theorem VarsFnExactFaceRead.le {σ σ' : Heap} (hl : Lh σ σ') (h : VarsFnExactFaceRead σ) : VarsFnExactFaceRead σ' := ⟨hl.row _ _ h.v0, (let ⟨m, e⟩ := h.v1; ⟨m, hl.row _ _ e⟩)⟩
end Go.R
