/- The functions' equations. -/
import Derived.Test.YthcinellhbmcoaaEG
namespace Go.X
open Go.HM Go.Proofs
set_option linter.unusedVariables false
set_option maxRecDepth 1000000
set_option maxHeartbeats 4000000

/-! loop.example/smithy/impl.isOwn: function 156 -/
theorem impl_isOwn.eq (k : Nat) (s1 : ByteArray) (σ : Heap) : hcall G (k + 1) n_impl_isOwn [.str s1] σ = ((hcall G k n_slices_Contains_string_string [(.sl σ.length 0 19 true), .str s1] (hnew σ 1 [.str (⟨#[117, 115, 101]⟩ : ByteArray), .str (⟨#[102, 117, 110]⟩ : ByteArray), .str (⟨#[112, 117, 98]⟩ : ByteArray), .str (⟨#[109, 97, 105, 110]⟩ : ByteArray), .str (⟨#[105, 110, 116]⟩ : ByteArray), .str (⟨#[98, 111, 111, 108]⟩ : ByteArray), .str (⟨#[114, 111, 119]⟩ : ByteArray), .str (⟨#[105, 102]⟩ : ByteArray), .str (⟨#[108, 101, 116]⟩ : ByteArray), .str (⟨#[116, 114, 117, 101]⟩ : ByteArray), .str (⟨#[102, 97, 108, 115, 101]⟩ : ByteArray), .str (⟨#[97, 110, 100]⟩ : ByteArray), .str (⟨#[111, 114]⟩ : ByteArray), .str (⟨#[110, 111, 116]⟩ : ByteArray), .str (⟨#[97, 116]⟩ : ByteArray), .str (⟨#[108, 101, 110]⟩ : ByteArray), .str (⟨#[112, 117, 116]⟩ : ByteArray), .str (⟨#[106, 111, 105, 110]⟩ : ByteArray), .str (⟨#[112, 114, 105, 110, 116]⟩ : ByteArray)])).bind fun q2 => castBool q2.1 fun b3 => some (.bool b3, q2.2)) := by
  kernel_rfl

/-! loop.example/smithy/impl.LexName: function 116 -/
noncomputable def impl_LexName.L0 (k : Nat) : Nat → List T → Heap → Option (Ex × List T × Heap) := hloop (hx (G.env n_impl_LexName k) k 28 (subc (bodyOf Try.f116) [1, 0, 1, 0, 0]) 0) 28 (G.msk n_impl_LexName 0).1 (G.msk n_impl_LexName 0).2
noncomputable def impl_LexName.A0 (k : Nat) : Ex × List T × Heap → Option (V × Heap) := fun r => aft (G.env n_impl_LexName k) k 28 (bodyOf Try.f116) [1, 0, 1, 0] 0 (ck G.P Try.f116) r.1 (unpick 28 (G.msk n_impl_LexName 0).2 r.2.1) r.2.2
theorem impl_LexName.eq (k : Nat) (s1 : ByteArray) (σ : Heap) : hcall G (k + 1) n_impl_LexName [.str s1] σ = ((impl_LexName.L0 k k [.v (.str s1), .v (.int .i64 (s1.size : Int)), .v (.int .i64 0)] σ).bind (impl_LexName.A0 k)) := by
  kernel_rfl
theorem impl_LexName.L0_step (k m : Nat) (s1 : ByteArray) (n2 : Int) (n3 : Int) (σ : Heap) : impl_LexName.L0 k (m + 1) [.v (.str s1), .v (.int .i64 n2), .v (.int .i64 n3)] σ = (bif decide (n3 < n2) then ((sbyte s1 n3).bind fun n4 => bif decide (n4 < 97) then (some (.ret, [.v (.str s1), .v (.bool false)], σ)) else ((sbyte s1 n3).bind fun n5 => bif decide (122 < n5) then (some (.ret, [.v (.str s1), .v (.bool false)], σ)) else (impl_LexName.L0 k m [.v (.str s1), .v (.int .i64 n2), .v (.int .i64 (IntKind.wrap .i64 (n3 + 1)))] σ))) else (some (.exit 0, [.v (.str s1), .bot], σ))) := by
  kernel_rfl
theorem impl_LexName.A0_x0 (k : Nat) (s1 : ByteArray) (t2 : T) (σ : Heap) : impl_LexName.A0 k (.exit 0, [.v (.str s1), t2], σ) = ((hcall G k n_impl_inRange [.int .i64 (s1.size : Int), .int .i64 1, .int .i64 8] σ).bind fun q3 => castBool q3.1 fun b4 => bif b4 then ((hcall G k n_impl_isOwn [.str s1] q3.2).bind fun q5 => castBool q5.1 fun b6 => some (.bool (!b6), q5.2)) else (some (.bool false, q3.2))) := by
  kernel_rfl
theorem impl_LexName.A0_ret (k : Nat) (t1 : T) (b2 : Bool) (σ : Heap) : impl_LexName.A0 k (.ret, [t1, .v (.bool b2)], σ) = (some (.bool b2, σ)) := by
  kernel_rfl

/-! loop.example/smithy/impl.areNames: function 66 -/
noncomputable def impl_areNames.L0 (k : Nat) : Nat → List T → Heap → Option (Ex × List T × Heap) := hloop (hx (G.env n_impl_areNames k) k 23 (subc (bodyOf Try.f66) [1, 0, 1, 0, 0]) 0) 23 (G.msk n_impl_areNames 0).1 (G.msk n_impl_areNames 0).2
noncomputable def impl_areNames.A0 (k : Nat) : Ex × List T × Heap → Option (V × Heap) := fun r => aft (G.env n_impl_areNames k) k 23 (bodyOf Try.f66) [1, 0, 1, 0] 0 (ck G.P Try.f66) r.1 (unpick 23 (G.msk n_impl_areNames 0).2 r.2.1) r.2.2
theorem impl_areNames.eq (k : Nat) (a1 : V) (σ : Heap) : hcall G (k + 1) n_impl_areNames [a1] σ = ((vlen a1).bind fun k2 => (impl_areNames.L0 k k [.v a1, .v a1, .v (.int .i64 (k2 : Int)), .v (.int .i64 0)] σ).bind (impl_areNames.A0 k)) := by
  kernel_rfl
theorem impl_areNames.L0_step (k m : Nat) (a1 : V) (a2 : V) (n3 : Int) (n4 : Int) (σ : Heap) : impl_areNames.L0 k (m + 1) [.v a1, .v a2, .v (.int .i64 n3), .v (.int .i64 n4)] σ = (bif decide (n4 < n3) then ((vidx 1 a2 n4).bind fun p5 => (rdc σ p5.1 p5.2 1).bind fun l6 => uncons l6 fun c7 l8 => castStr c7 fun s9 => isNil l8 <| (hcall G k n_impl_LexName [.str s9] σ).bind fun q10 => castBool q10.1 fun b11 => bif !b11 then (some (.ret, [.v (.bool false)], q10.2)) else ((vslice 1 a1 none (some n4)).bind fun a12 => (hcall G k n_slices_Contains_string_string [a12, .str s9] q10.2).bind fun q13 => castBool q13.1 fun b14 => bif b14 then (some (.ret, [.v (.bool false)], q13.2)) else (impl_areNames.L0 k m [.v a1, .v a2, .v (.int .i64 n3), .v (.int .i64 (IntKind.wrap .i64 (n4 + 1)))] q13.2))) else (some (.exit 0, [.bot], σ))) := by
  kernel_rfl
theorem impl_areNames.A0_x0 (k : Nat) (t1 : T) (σ : Heap) : impl_areNames.A0 k (.exit 0, [t1], σ) = (some (.bool true, σ)) := by
  kernel_rfl
theorem impl_areNames.A0_ret (k : Nat) (b1 : Bool) (σ : Heap) : impl_areNames.A0 k (.ret, [.v (.bool b1)], σ) = (some (.bool b1, σ)) := by
  kernel_rfl
end Go.X
