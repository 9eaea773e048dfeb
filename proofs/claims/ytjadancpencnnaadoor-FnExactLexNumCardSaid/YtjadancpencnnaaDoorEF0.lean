/- The functions' equations. -/
import Derived.Test.YtjadancpencnnaaDoorEG
namespace Go.D
open Go.HM Go.Proofs
set_option linter.unusedVariables false
set_option maxRecDepth 1000000
set_option maxHeartbeats 4000000

/-! loop.example/smithy/spec.l23Num: function 28 -/
noncomputable def spec_l23Num.L0 (k : Nat) : Nat → List T → Heap → Option (Ex × List T × Heap) := hloop (hx (G.env n_spec_l23Num k) k 67 (subc (bodyOf Tryd.f28) [1, 1, 1, 1, 1, 0, 1, 0, 0]) 0) 67 (G.msk n_spec_l23Num 0).1 (G.msk n_spec_l23Num 0).2
noncomputable def spec_l23Num.A0 (k : Nat) : Ex × List T × Heap → Option (V × Heap) := fun r => aft (G.env n_spec_l23Num k) k 67 (bodyOf Tryd.f28) [1, 1, 1, 1, 1, 0, 1, 0] 0 (ck G.P Tryd.f28) r.1 (unpick 67 (G.msk n_spec_l23Num 0).2 r.2.1) r.2.2
theorem spec_l23Num.eq (k : Nat) (s1 : ByteArray) (σ : Heap) : hcall G (k + 1) n_spec_l23Num [.str s1] σ = (bif decide (0 < (s1.size : Int)) then ((sbyte s1 0).bind fun n2 => bif decide (n2 = 45) then ((ssub s1 (some 1) none).bind fun s3 => bif decide ((s3.size : Int) = 0) then (some (.tuple [.int .i64 0, .bool false], σ)) else (bif decide (17 < (s3.size : Int)) then (some (.tuple [.int .i64 0, .bool false], σ)) else ((sbyte s3 0).bind fun n4 => bif decide (n4 = 48) then (bif decide (1 < (s3.size : Int)) then (some (.tuple [.int .i64 0, .bool false], σ)) else (bif decide (n2 = 45) then (some (.tuple [.int .i64 0, .bool false], σ)) else ((spec_l23Num.L0 k k [.v (.str s3), .v (.bool (decide (n2 = 45))), .v (.int .i64 0), .v (.int .i64 0)] σ).bind (spec_l23Num.A0 k)))) else ((spec_l23Num.L0 k k [.v (.str s3), .v (.bool (decide (n2 = 45))), .v (.int .i64 0), .v (.int .i64 0)] σ).bind (spec_l23Num.A0 k))))) else (bif decide ((s1.size : Int) = 0) then (some (.tuple [.int .i64 0, .bool false], σ)) else (bif decide (17 < (s1.size : Int)) then (some (.tuple [.int .i64 0, .bool false], σ)) else ((sbyte s1 0).bind fun n5 => bif decide (n5 = 48) then (bif decide (1 < (s1.size : Int)) then (some (.tuple [.int .i64 0, .bool false], σ)) else (bif decide (n2 = 45) then (some (.tuple [.int .i64 0, .bool false], σ)) else ((spec_l23Num.L0 k k [.v (.str s1), .v (.bool (decide (n2 = 45))), .v (.int .i64 0), .v (.int .i64 0)] σ).bind (spec_l23Num.A0 k)))) else ((spec_l23Num.L0 k k [.v (.str s1), .v (.bool (decide (n2 = 45))), .v (.int .i64 0), .v (.int .i64 0)] σ).bind (spec_l23Num.A0 k)))))) else (bif decide ((s1.size : Int) = 0) then (some (.tuple [.int .i64 0, .bool false], σ)) else (bif decide (17 < (s1.size : Int)) then (some (.tuple [.int .i64 0, .bool false], σ)) else ((sbyte s1 0).bind fun n6 => bif decide (n6 = 48) then (bif decide (1 < (s1.size : Int)) then (some (.tuple [.int .i64 0, .bool false], σ)) else ((spec_l23Num.L0 k k [.v (.str s1), .v (.bool false), .v (.int .i64 0), .v (.int .i64 0)] σ).bind (spec_l23Num.A0 k))) else ((spec_l23Num.L0 k k [.v (.str s1), .v (.bool false), .v (.int .i64 0), .v (.int .i64 0)] σ).bind (spec_l23Num.A0 k)))))) := by
  kernel_rfl
theorem spec_l23Num.L0_step (k m : Nat) (s1 : ByteArray) (b2 : Bool) (n3 : Int) (n4 : Int) (σ : Heap) : spec_l23Num.L0 k (m + 1) [.v (.str s1), .v (.bool b2), .v (.int .i64 n3), .v (.int .i64 n4)] σ = (bif decide (n4 < (s1.size : Int)) then ((sbyte s1 n4).bind fun n5 => bif decide (n5 < 48) then (some (.ret, [.v (.int .i64 0), .v (.bool false), .v (.bool b2), .v (.int .i64 n3)], σ)) else ((sbyte s1 n4).bind fun n6 => bif decide (57 < n6) then (some (.ret, [.v (.int .i64 0), .v (.bool false), .v (.bool b2), .v (.int .i64 n3)], σ)) else ((sbyte s1 n4).bind fun n7 => spec_l23Num.L0 k m [.v (.str s1), .v (.bool b2), .v (.int .i64 (IntKind.wrap .i64 ((IntKind.wrap .i64 (n3 * 10)) + (IntKind.wrap .i64 (IntKind.wrap .u8 (n7 - 48)))))), .v (.int .i64 (IntKind.wrap .i64 (n4 + 1)))] σ))) else (some (.exit 0, [.bot, .bot, .v (.bool b2), .v (.int .i64 n3)], σ))) := by
  kernel_rfl
theorem spec_l23Num.A0_x0 (k : Nat) (t1 : T) (t2 : T) (b3 : Bool) (n4 : Int) (σ : Heap) : spec_l23Num.A0 k (.exit 0, [t1, t2, .v (.bool b3), .v (.int .i64 n4)], σ) = (bif b3 then (some (.tuple [.int .i64 (IntKind.wrap .i64 (0 - n4)), .bool true], σ)) else (some (.tuple [.int .i64 n4, .bool true], σ))) := by
  kernel_rfl
theorem spec_l23Num.A0_ret (k : Nat) (n1 : Int) (b2 : Bool) (t3 : T) (t4 : T) (σ : Heap) : spec_l23Num.A0 k (.ret, [.v (.int .i64 n1), .v (.bool b2), t3, t4], σ) = (some (.tuple [.int .i64 n1, .bool b2], σ)) := by
  kernel_rfl

/-! loop.example/smithy/spec.LexNum: function 10 -/
theorem spec_LexNum.eq (k : Nat) (s1 : ByteArray) (σ : Heap) : hcall G (k + 1) n_spec_LexNum [.str s1] σ = ((hcall G k n_spec_l23Num [.str s1] σ).bind fun q2 => castTuple q2.1 fun l3 => uncons l3 fun c4 l5 => castInt .i64 c4 fun n6 => uncons l5 fun c7 l8 => castBool c7 fun b9 => isNil l8 <| some (.tuple [.int .i64 n6, .bool b9], q2.2)) := by
  kernel_rfl

/-! loop.example/smithy/impl.decimal: function 29 -/
theorem impl_decimal.eq (k : Nat) (s1 : ByteArray) (σ : Heap) : hcall G (k + 1) n_impl_decimal [.str s1] σ = ((hcall G k n_strconv_Atoi [.str s1] σ).bind fun q2 => castTuple q2.1 fun l3 => uncons l3 fun c4 l5 => castInt .i64 c4 fun n6 => uncons l5 fun c7 l8 => isNil l8 <| (nilI c7).bind fun b9 => bif b9 then ((hcall G k n_strconv_Itoa [.int .i64 n6] q2.2).bind fun q10 => castStr q10.1 fun s11 => some (.tuple [.int .i64 n6, .bool (decide (s11 = s1))], q10.2)) else (some (.tuple [.int .i64 n6, .bool false], q2.2))) := by
  kernel_rfl

/-! loop.example/smithy/impl.inRange: function 69 -/
theorem impl_inRange.eq (k : Nat) (n1 : Int) (n2 : Int) (n3 : Int) (σ : Heap) : hcall G (k + 1) n_impl_inRange [.int .i64 n1, .int .i64 n2, .int .i64 n3] σ = (bif decide (n2 ≤ n1) then (some (.bool (decide (n1 ≤ n3)), σ)) else (some (.bool false, σ))) := by
  kernel_rfl

/-! loop.example/smithy/impl.isShort: function 30 -/
theorem impl_isShort.eq (k : Nat) (n1 : Int) (σ : Heap) : hcall G (k + 1) n_impl_isShort [.int .i64 n1] σ = ((hcall G k n_impl_inRange [.int .i64 n1, .int .i64 (-99999999999999999), .int .i64 99999999999999999] σ).bind fun q2 => castBool q2.1 fun b3 => some (.bool b3, q2.2)) := by
  kernel_rfl

/-! loop.example/smithy/impl.LexNum: function 11 -/
theorem impl_LexNum.eq (k : Nat) (s1 : ByteArray) (σ : Heap) : hcall G (k + 1) n_impl_LexNum [.str s1] σ = ((hcall G k n_impl_decimal [.str s1] σ).bind fun q2 => castTuple q2.1 fun l3 => uncons l3 fun c4 l5 => castInt .i64 c4 fun n6 => uncons l5 fun c7 l8 => castBool c7 fun b9 => isNil l8 <| bif !b9 then (some (.tuple [.int .i64 0, .bool false], q2.2)) else ((hcall G k n_impl_isShort [.int .i64 n6] q2.2).bind fun q10 => castBool q10.1 fun b11 => bif !b11 then (some (.tuple [.int .i64 0, .bool false], q10.2)) else (some (.tuple [.int .i64 n6, .bool true], q10.2)))) := by
  kernel_rfl

/-! loop.example/smithy/laws.FnExactLexNum: function 4 -/
theorem laws_FnExactLexNum.eq (k : Nat) (s1 : ByteArray) (σ : Heap) : hcall G (k + 1) n_laws_FnExactLexNum [.str s1] σ = (bif decide (1048576 < (s1.size : Int)) then (some (.bool true, σ)) else ((hcall G k n_spec_LexNum [.str s1] σ).bind fun q2 => castTuple q2.1 fun l3 => uncons l3 fun c4 l5 => castInt .i64 c4 fun n6 => uncons l5 fun c7 l8 => castBool c7 fun b9 => isNil l8 <| (hcall G k n_impl_LexNum [.str s1] q2.2).bind fun q10 => castTuple q10.1 fun l11 => uncons l11 fun c12 l13 => castInt .i64 c12 fun n14 => uncons l13 fun c15 l16 => castBool c15 fun b17 => isNil l16 <| bif !decide (n14 = n6) then (some (.bool false, q10.2)) else (bif !(b17 == b9) then (some (.bool false, q10.2)) else (some (.bool true, q10.2))))) := by
  kernel_rfl

/-! loop.example/smithy/spec.TreeType: function 8 -/
theorem spec_TreeType.eq (k : Nat) (n1 : Int) (σ : Heap) : hcall G (k + 1) n_spec_TreeType [.int .i64 n1] σ = (bif decide (n1 < 1) then (some (.str (⟨#[]⟩ : ByteArray), σ)) else (bif decide (3 < n1) then (some (.str (⟨#[]⟩ : ByteArray), σ)) else ((vidx 1 (.sl σ.length 0 3 true) (IntKind.wrap .i64 (n1 - 1))).bind fun p2 => (rdc (hnew σ 1 [.str (⟨#[105, 110, 116]⟩ : ByteArray), .str (⟨#[98, 111, 111, 108]⟩ : ByteArray), .str (⟨#[114, 111, 119]⟩ : ByteArray)]) p2.1 p2.2 1).bind fun l3 => uncons l3 fun c4 l5 => castStr c4 fun s6 => isNil l5 <| some (.str s6, hnew σ 1 [.str (⟨#[105, 110, 116]⟩ : ByteArray), .str (⟨#[98, 111, 111, 108]⟩ : ByteArray), .str (⟨#[114, 111, 119]⟩ : ByteArray)])))) := by
  kernel_rfl

/-! loop.example/smithy/impl.isType: function 27 -/
theorem impl_isType.eq (k : Nat) (n1 : Int) (σ : Heap) : hcall G (k + 1) n_impl_isType [.int .i64 n1] σ = ((hcall G k n_impl_inRange [.int .i64 n1, .int .i64 1, .int .i64 3] σ).bind fun q2 => castBool q2.1 fun b3 => some (.bool b3, q2.2)) := by
  kernel_rfl

/-! loop.example/smithy/impl.TreeType: function 9 -/
theorem impl_TreeType.eq (k : Nat) (n1 : Int) (σ : Heap) : hcall G (k + 1) n_impl_TreeType [.int .i64 n1] σ = ((hcall G k n_impl_isType [.int .i64 n1] σ).bind fun q2 => castBool q2.1 fun b3 => bif !b3 then (some (.str (⟨#[]⟩ : ByteArray), q2.2)) else (if 0 ≤ IntKind.wrap .i64 (n1 - 1) ∧ IntKind.wrap .i64 (n1 - 1) < ((3 : Nat) : Int) then ((rdc q2.2 0 (0 + (IntKind.wrap .i64 (n1 - 1)).toNat * 1) 1).bind fun l5 => uncons l5 fun c6 l7 => castStr c6 fun s8 => isNil l7 <| some (.str s8, q2.2)) else none)) := by
  kernel_rfl
end Go.D
