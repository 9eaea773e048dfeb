/- How the arguments of FnExactLinkRead are shown in a heap. -/
import Derived.Test.YtiefmflpmmgoaaaGreatDoorT
import Derived.Test.YtiefmflpmmgoaaaGreatDoorHMOpen
import Derived.Test.YtiefmflpmmgoaaaGreatDoorProg
import Derived.KernelRfl
namespace Go.F
open Go.HM Go.Proofs
set_option linter.unusedVariables false
/-- What the listed variables hold. -/
structure VarsFnExactLinkRead (σ : Heap) : Prop where
  v0 : σ[8]? = some (some ⟨[.int .u8 0, .int .u8 1, .int .u8 28, .int .u8 2, .int .u8 29, .int .u8 14, .int .u8 24, .int .u8 3, .int .u8 30, .int .u8 22, .int .u8 20, .int .u8 15, .int .u8 25, .int .u8 17, .int .u8 4, .int .u8 8, .int .u8 31, .int .u8 27, .int .u8 13, .int .u8 23, .int .u8 21, .int .u8 19, .int .u8 16, .int .u8 7, .int .u8 26, .int .u8 12, .int .u8 18, .int .u8 6, .int .u8 11, .int .u8 5, .int .u8 10, .int .u8 9], 1, true, 0⟩)
  v1 : σ[9]? = some (some ⟨[.int .u8 0, .int .u8 1, .int .u8 56, .int .u8 2, .int .u8 57, .int .u8 49, .int .u8 28, .int .u8 3, .int .u8 61, .int .u8 58, .int .u8 42, .int .u8 50, .int .u8 38, .int .u8 29, .int .u8 17, .int .u8 4, .int .u8 62, .int .u8 47, .int .u8 59, .int .u8 36, .int .u8 45, .int .u8 43, .int .u8 51, .int .u8 22, .int .u8 53, .int .u8 39, .int .u8 33, .int .u8 30, .int .u8 24, .int .u8 18, .int .u8 12, .int .u8 5, .int .u8 63, .int .u8 55, .int .u8 48, .int .u8 27, .int .u8 60, .int .u8 41, .int .u8 37, .int .u8 16, .int .u8 46, .int .u8 35, .int .u8 44, .int .u8 21, .int .u8 52, .int .u8 32, .int .u8 23, .int .u8 11, .int .u8 54, .int .u8 26, .int .u8 40, .int .u8 15, .int .u8 34, .int .u8 20, .int .u8 31, .int .u8 10, .int .u8 25, .int .u8 14, .int .u8 19, .int .u8 9, .int .u8 13, .int .u8 8, .int .u8 7, .int .u8 6], 1, true, 0⟩)
  v2 : σ[5]? = some (some ⟨[.int .u64 1, .int .u64 10, .int .u64 100, .int .u64 1000, .int .u64 10000, .int .u64 100000, .int .u64 1000000, .int .u64 10000000, .int .u64 100000000, .int .u64 1000000000, .int .u64 10000000000, .int .u64 100000000000, .int .u64 1000000000000, .int .u64 10000000000000, .int .u64 100000000000000, .int .u64 1000000000000000, .int .u64 10000000000000000, .int .u64 100000000000000000, .int .u64 1000000000000000000, .int .u64 10000000000000000000], 1, true, 0⟩)
  v3 : ∃ tp x, σ[4]? = some (some ⟨[.iface tp x], 1, true, 0⟩)
  v4 : ∃ tp x, σ[3]? = some (some ⟨[.iface tp x], 1, true, 0⟩)
  v5 : σ[1]? = some (some ⟨[.str (⟨#[105, 110, 116]⟩ : ByteArray), .str (⟨#[98, 111, 111, 108]⟩ : ByteArray), .str (⟨#[114, 111, 119]⟩ : ByteArray)], 1, true, 0⟩)
  v6 : σ[0]? = some (some ⟨[.str (⟨#[112, 117, 115, 104]⟩ : ByteArray), .str (⟨#[102, 108, 97, 103]⟩ : ByteArray), .str (⟨#[108, 111, 97, 100]⟩ : ByteArray), .str (⟨#[107, 101, 101, 112]⟩ : ByteArray), .str (⟨#[112, 114, 105, 109]⟩ : ByteArray), .str (⟨#[106, 117, 109, 112]⟩ : ByteArray), .str (⟨#[117, 110, 108, 101, 115, 115]⟩ : ByteArray), .str (⟨#[99, 97, 108, 108]⟩ : ByteArray), .str (⟨#[98, 97, 99, 107]⟩ : ByteArray), .str (⟨#[114, 111, 119]⟩ : ByteArray)], 1, true, 0⟩)
  v7 : ∃ m, σ[2]? = some (some ⟨[.int .i64 m], 1, true, 0⟩)
theorem VarsFnExactLinkRead.le {σ σ' : Heap} (hl : Lh σ σ') (h : VarsFnExactLinkRead σ) : VarsFnExactLinkRead σ' := ⟨hl.row _ _ h.v0, hl.row _ _ h.v1, hl.row _ _ h.v2, (let ⟨tp, x, e⟩ := h.v3; ⟨tp, x, hl.row _ _ e⟩), (let ⟨tp, x, e⟩ := h.v4; ⟨tp, x, hl.row _ _ e⟩), hl.row _ _ h.v5, hl.row _ _ h.v6, (let ⟨m, e⟩ := h.v7; ⟨m, hl.row _ _ e⟩)⟩
end Go.F
