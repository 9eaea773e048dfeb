/- The functions' equations. -/
import Derived.Test.YtjadancpencnnaaDoorEG
namespace Go.D
open Go.HM Go.Proofs
set_option linter.unusedVariables false
set_option maxRecDepth 1000000
set_option maxHeartbeats 4000000

/-! loop.example/smithy/spec.TreeType: function 8 -/
theorem spec_TreeType.eq (k : Nat) (n1 : Int) (σ : Heap) : hcall G (k + 1) n_spec_TreeType [.int .i64 n1] σ = (bif decide (n1 < 1) then (some (.str (⟨#[]⟩ : ByteArray), σ)) else (bif decide (3 < n1) then (some (.str (⟨#[]⟩ : ByteArray), σ)) else ((vidx 1 (.sl σ.length 0 3 true) (IntKind.wrap .i64 (n1 - 1))).bind fun p2 => (rdc (hnew σ 1 [.str (⟨#[105, 110, 116]⟩ : ByteArray), .str (⟨#[98, 111, 111, 108]⟩ : ByteArray), .str (⟨#[114, 111, 119]⟩ : ByteArray)]) p2.1 p2.2 1).bind fun l3 => uncons l3 fun c4 l5 => castStr c4 fun s6 => isNil l5 <| some (.str s6, hnew σ 1 [.str (⟨#[105, 110, 116]⟩ : ByteArray), .str (⟨#[98, 111, 111, 108]⟩ : ByteArray), .str (⟨#[114, 111, 119]⟩ : ByteArray)])))) := by
  kernel_rfl

/-! loop.example/smithy/impl.inRange: function 69 -/
theorem impl_inRange.eq (k : Nat) (n1 : Int) (n2 : Int) (n3 : Int) (σ : Heap) : hcall G (k + 1) n_impl_inRange [.int .i64 n1, .int .i64 n2, .int .i64 n3] σ = (bif decide (n2 ≤ n1) then (some (.bool (decide (n1 ≤ n3)), σ)) else (some (.bool false, σ))) := by
  kernel_rfl

/-! loop.example/smithy/impl.isType: function 27 -/
theorem impl_isType.eq (k : Nat) (n1 : Int) (σ : Heap) : hcall G (k + 1) n_impl_isType [.int .i64 n1] σ = ((hcall G k n_impl_inRange [.int .i64 n1, .int .i64 1, .int .i64 3] σ).bind fun q2 => castBool q2.1 fun b3 => some (.bool b3, q2.2)) := by
  kernel_rfl

/-! loop.example/smithy/impl.TreeType: function 9 -/
theorem impl_TreeType.eq (k : Nat) (n1 : Int) (σ : Heap) : hcall G (k + 1) n_impl_TreeType [.int .i64 n1] σ = ((hcall G k n_impl_isType [.int .i64 n1] σ).bind fun q2 => castBool q2.1 fun b3 => bif !b3 then (some (.str (⟨#[]⟩ : ByteArray), q2.2)) else (if 0 ≤ IntKind.wrap .i64 (n1 - 1) ∧ IntKind.wrap .i64 (n1 - 1) < ((3 : Nat) : Int) then ((rdc q2.2 0 (0 + (IntKind.wrap .i64 (n1 - 1)).toNat * 1) 1).bind fun l5 => uncons l5 fun c6 l7 => castStr c6 fun s8 => isNil l7 <| some (.str s8, q2.2)) else none)) := by
  kernel_rfl

/-! loop.example/smithy/laws.FnExactTreeType: function 3 -/
theorem laws_FnExactTreeType.eq (k : Nat) (n1 : Int) (σ : Heap) : hcall G (k + 1) n_laws_FnExactTreeType [.int .i64 n1] σ = ((hcall G k n_spec_TreeType [.int .i64 n1] σ).bind fun q2 => castStr q2.1 fun s3 => (hcall G k n_impl_TreeType [.int .i64 n1] q2.2).bind fun q4 => castStr q4.1 fun s5 => bif !decide (s5 = s3) then (some (.bool false, q4.2)) else (some (.bool true, q4.2))) := by
  kernel_rfl
end Go.D
