/- The functions' equations. -/
import Derived.Test.YtjadancpencnnaaDoorEG
namespace Go.D
open Go.HM Go.Proofs
set_option linter.unusedVariables false
set_option maxRecDepth 1000000
set_option maxHeartbeats 4000000

/-! loop.example/smithy/spec.l23Num: function 28 -/
noncomputable def spec_l23Num.L0 (k : Nat) : Nat → List T → Heap → Option (Ex × List T × Heap) := hloop (hx (G.env n_spec_l23Num k) k 67 (subc (bodyOf Tryd.f28) [1, 1, 1, 1, 1, 0, 1, 0, 0]) 0) 67 (G.msk n_spec_l23Num 0).1 (G.msk n_spec_l23Num 0).2
noncomputable def spec_l23Num.A0 (k : Nat) : Ex × List T × Heap → Option (V × Heap) := fun r => aft (G.env n_spec_l23Num k) k 67 (bodyOf Tryd.f28) [1, 1, 1, 1, 1, 0, 1, 0] 0 (ck G.P Tryd.f28) r.1 (unpick 67 (G.msk n_spec_l23Num 0).2 r.2.1) r.2.2
theorem spec_l23Num.eq (k : Nat) (s1 : ByteArray) (σ : Heap) : hcall G (k + 1) n_spec_l23Num [.str s1] σ = (bif decide (0 < (s1.size : Int)) then ((sbyte s1 0).bind fun n2 => bif decide (n2 = 45) then ((ssub s1 (some 1) none).bind fun s3 => bif decide ((s3.size : Int) = 0) then (some (.tuple [.int .i64 0, .bool false], σ)) else (bif decide (17 < (s3.size : Int)) then (some (.tuple [.int .i64 0, .bool false], σ)) else ((sbyte s3 0).bind fun n4 => bif decide (n4 = 48) then (bif decide (1 < (s3.size : Int)) then (some (.tuple [.int .i64 0, .bool false], σ)) else (bif decide (n2 = 45) then (some (.tuple [.int .i64 0, .bool false], σ)) else ((spec_l23Num.L0 k k [.v (.str s3), .v (.bool (decide (n2 = 45))), .v (.int .i64 0), .v (.int .i64 0)] σ).bind (spec_l23Num.A0 k)))) else ((spec_l23Num.L0 k k [.v (.str s3), .v (.bool (decide (n2 = 45))), .v (.int .i64 0), .v (.int .i64 0)] σ).bind (spec_l23Num.A0 k))))) else (bif decide ((s1.size : Int) = 0) then (some (.tuple [.int .i64 0, .bool false], σ)) else (bif decide (17 < (s1.size : Int)) then (some (.tuple [.int .i64 0, .bool false], σ)) else ((sbyte s1 0).bind fun n5 => bif decide (n5 = 48) then (bif decide (1 < (s1.size : Int)) then (some (.tuple [.int .i64 0, .bool false], σ)) else (bif decide (n2 = 45) then (some (.tuple [.int .i64 0, .bool false], σ)) else ((spec_l23Num.L0 k k [.v (.str s1), .v (.bool (decide (n2 = 45))), .v (.int .i64 0), .v (.int .i64 0)] σ).bind (spec_l23Num.A0 k)))) else ((spec_l23Num.L0 k k [.v (.str s1), .v (.bool (decide (n2 = 45))), .v (.int .i64 0), .v (.int .i64 0)] σ).bind (spec_l23Num.A0 k)))))) else (bif decide ((s1.size : Int) = 0) then (some (.tuple [.int .i64 0, .bool false], σ)) else (bif decide (17 < (s1.size : Int)) then (some (.tuple [.int .i64 0, .bool false], σ)) else ((sbyte s1 0).bind fun n6 => bif decide (n6 = 48) then (bif decide (1 < (s1.size : Int)) then (some (.tuple [.int .i64 0, .bool false], σ)) else ((spec_l23Num.L0 k k [.v (.str s1), .v (.bool false), .v (.int .i64 0), .v (.int .i64 0)] σ).bind (spec_l23Num.A0 k))) else ((spec_l23Num.L0 k k [.v (.str s1), .v (.bool false), .v (.int .i64 0), .v (.int .i64 0)] σ).bind (spec_l23Num.A0 k)))))) := by
  kernel_rfl
theorem spec_l23Num.L0_step (k m : Nat) (s1 : ByteArray) (b2 : Bool) (n3 : Int) (n4 : Int) (σ : Heap) : spec_l23Num.L0 k (m + 1) [.v (.str s1), .v (.bool b2), .v (.int .i64 n3), .v (.int .i64 n4)] σ = (bif decide (n4 < (s1.size : Int)) then ((sbyte s1 n4).bind fun n5 => bif decide (n5 < 48) then (some (.ret, [.v (.int .i64 0), .v (.bool false), .v (.bool b2), .v (.int .i64 n3)], σ)) else ((sbyte s1 n4).bind fun n6 => bif decide (57 < n6) then (some (.ret, [.v (.int .i64 0), .v (.bool false), .v (.bool b2), .v (.int .i64 n3)], σ)) else ((sbyte s1 n4).bind fun n7 => spec_l23Num.L0 k m [.v (.str s1), .v (.bool b2), .v (.int .i64 (IntKind.wrap .i64 ((IntKind.wrap .i64 (n3 * 10)) + (IntKind.wrap .i64 (IntKind.wrap .u8 (n7 - 48)))))), .v (.int .i64 (IntKind.wrap .i64 (n4 + 1)))] σ))) else (some (.exit 0, [.bot, .bot, .v (.bool b2), .v (.int .i64 n3)], σ))) := by
  kernel_rfl
theorem spec_l23Num.A0_x0 (k : Nat) (t1 : T) (t2 : T) (b3 : Bool) (n4 : Int) (σ : Heap) : spec_l23Num.A0 k (.exit 0, [t1, t2, .v (.bool b3), .v (.int .i64 n4)], σ) = (bif b3 then (some (.tuple [.int .i64 (IntKind.wrap .i64 (0 - n4)), .bool true], σ)) else (some (.tuple [.int .i64 n4, .bool true], σ))) := by
  kernel_rfl
theorem spec_l23Num.A0_ret (k : Nat) (n1 : Int) (b2 : Bool) (t3 : T) (t4 : T) (σ : Heap) : spec_l23Num.A0 k (.ret, [.v (.int .i64 n1), .v (.bool b2), t3, t4], σ) = (some (.tuple [.int .i64 n1, .bool b2], σ)) := by
  kernel_rfl

/-! loop.example/smithy/spec.LexNum: function 10 -/
theorem spec_LexNum.eq (k : Nat) (s1 : ByteArray) (σ : Heap) : hcall G (k + 1) n_spec_LexNum [.str s1] σ = ((hcall G k n_spec_l23Num [.str s1] σ).bind fun q2 => castTuple q2.1 fun l3 => uncons l3 fun c4 l5 => castInt .i64 c4 fun n6 => uncons l5 fun c7 l8 => castBool c7 fun b9 => isNil l8 <| some (.tuple [.int .i64 n6, .bool b9], q2.2)) := by
  kernel_rfl

/-! loop.example/smithy/impl.decimal: function 29 -/
theorem impl_decimal.eq (k : Nat) (s1 : ByteArray) (σ : Heap) : hcall G (k + 1) n_impl_decimal [.str s1] σ = ((hcall G k n_strconv_Atoi [.str s1] σ).bind fun q2 => castTuple q2.1 fun l3 => uncons l3 fun c4 l5 => castInt .i64 c4 fun n6 => uncons l5 fun c7 l8 => isNil l8 <| (nilI c7).bind fun b9 => bif b9 then ((hcall G k n_strconv_Itoa [.int .i64 n6] q2.2).bind fun q10 => castStr q10.1 fun s11 => some (.tuple [.int .i64 n6, .bool (decide (s11 = s1))], q10.2)) else (some (.tuple [.int .i64 n6, .bool false], q2.2))) := by
  kernel_rfl

/-! loop.example/smithy/impl.inRange: function 69 -/
theorem impl_inRange.eq (k : Nat) (n1 : Int) (n2 : Int) (n3 : Int) (σ : Heap) : hcall G (k + 1) n_impl_inRange [.int .i64 n1, .int .i64 n2, .int .i64 n3] σ = (bif decide (n2 ≤ n1) then (some (.bool (decide (n1 ≤ n3)), σ)) else (some (.bool false, σ))) := by
  kernel_rfl

/-! loop.example/smithy/impl.isShort: function 30 -/
theorem impl_isShort.eq (k : Nat) (n1 : Int) (σ : Heap) : hcall G (k + 1) n_impl_isShort [.int .i64 n1] σ = ((hcall G k n_impl_inRange [.int .i64 n1, .int .i64 (-99999999999999999), .int .i64 99999999999999999] σ).bind fun q2 => castBool q2.1 fun b3 => some (.bool b3, q2.2)) := by
  kernel_rfl

/-! loop.example/smithy/impl.LexNum: function 11 -/
theorem impl_LexNum.eq (k : Nat) (s1 : ByteArray) (σ : Heap) : hcall G (k + 1) n_impl_LexNum [.str s1] σ = ((hcall G k n_impl_decimal [.str s1] σ).bind fun q2 => castTuple q2.1 fun l3 => uncons l3 fun c4 l5 => castInt .i64 c4 fun n6 => uncons l5 fun c7 l8 => castBool c7 fun b9 => isNil l8 <| bif !b9 then (some (.tuple [.int .i64 0, .bool false], q2.2)) else ((hcall G k n_impl_isShort [.int .i64 n6] q2.2).bind fun q10 => castBool q10.1 fun b11 => bif !b11 then (some (.tuple [.int .i64 0, .bool false], q10.2)) else (some (.tuple [.int .i64 n6, .bool true], q10.2)))) := by
  kernel_rfl

/-! loop.example/smithy/laws.FnExactLexNum: function 4 -/
theorem laws_FnExactLexNum.eq (k : Nat) (s1 : ByteArray) (σ : Heap) : hcall G (k + 1) n_laws_FnExactLexNum [.str s1] σ = (bif decide (1048576 < (s1.size : Int)) then (some (.bool true, σ)) else ((hcall G k n_spec_LexNum [.str s1] σ).bind fun q2 => castTuple q2.1 fun l3 => uncons l3 fun c4 l5 => castInt .i64 c4 fun n6 => uncons l5 fun c7 l8 => castBool c7 fun b9 => isNil l8 <| (hcall G k n_impl_LexNum [.str s1] q2.2).bind fun q10 => castTuple q10.1 fun l11 => uncons l11 fun c12 l13 => castInt .i64 c12 fun n14 => uncons l13 fun c15 l16 => castBool c15 fun b17 => isNil l16 <| bif !decide (n14 = n6) then (some (.bool false, q10.2)) else (bif !(b17 == b9) then (some (.bool false, q10.2)) else (some (.bool true, q10.2))))) := by
  kernel_rfl

/-! loop.example/smithy/spec.TreeType: function 8 -/
theorem spec_TreeType.eq (k : Nat) (n1 : Int) (σ : Heap) : hcall G (k + 1) n_spec_TreeType [.int .i64 n1] σ = (bif decide (n1 < 1) then (some (.str (⟨#[]⟩ : ByteArray), σ)) else (bif decide (3 < n1) then (some (.str (⟨#[]⟩ : ByteArray), σ)) else ((vidx 1 (.sl σ.length 0 3 true) (IntKind.wrap .i64 (n1 - 1))).bind fun p2 => (rdc (hnew σ 1 [.str (⟨#[105, 110, 116]⟩ : ByteArray), .str (⟨#[98, 111, 111, 108]⟩ : ByteArray), .str (⟨#[114, 111, 119]⟩ : ByteArray)]) p2.1 p2.2 1).bind fun l3 => uncons l3 fun c4 l5 => castStr c4 fun s6 => isNil l5 <| some (.str s6, hnew σ 1 [.str (⟨#[105, 110, 116]⟩ : ByteArray), .str (⟨#[98, 111, 111, 108]⟩ : ByteArray), .str (⟨#[114, 111, 119]⟩ : ByteArray)])))) := by
  kernel_rfl

/-! loop.example/smithy/impl.isType: function 27 -/
theorem impl_isType.eq (k : Nat) (n1 : Int) (σ : Heap) : hcall G (k + 1) n_impl_isType [.int .i64 n1] σ = ((hcall G k n_impl_inRange [.int .i64 n1, .int .i64 1, .int .i64 3] σ).bind fun q2 => castBool q2.1 fun b3 => some (.bool b3, q2.2)) := by
  kernel_rfl

/-! loop.example/smithy/impl.TreeType: function 9 -/
theorem impl_TreeType.eq (k : Nat) (n1 : Int) (σ : Heap) : hcall G (k + 1) n_impl_TreeType [.int .i64 n1] σ = ((hcall G k n_impl_isType [.int .i64 n1] σ).bind fun q2 => castBool q2.1 fun b3 => bif !b3 then (some (.str (⟨#[]⟩ : ByteArray), q2.2)) else (if 0 ≤ IntKind.wrap .i64 (n1 - 1) ∧ IntKind.wrap .i64 (n1 - 1) < ((3 : Nat) : Int) then ((rdc q2.2 0 (0 + (IntKind.wrap .i64 (n1 - 1)).toNat * 1) 1).bind fun l5 => uncons l5 fun c6 l7 => castStr c6 fun s8 => isNil l7 <| some (.str s8, q2.2)) else none)) := by
  kernel_rfl

/-! loop.example/smithy/laws.szIntS: function 72 -/
theorem laws_szIntS.eq (k : Nat) (a1 : V) (n2 : Int) (σ : Heap) : hcall G (k + 1) n_laws_szIntS [a1, .int .i64 n2] σ = ((vlen a1).bind fun k3 => bif decide (IntKind.wrap .i64 (n2 - (k3 : Int)) < 0) then (some (.int .i64 (-1), σ)) else (some (.int .i64 (IntKind.wrap .i64 (n2 - (k3 : Int))), σ))) := by
  kernel_rfl

/-! loop.example/smithy/laws.szFaceSig: function 31 -/
theorem laws_szFaceSig.eq (k : Nat) (s1 : ByteArray) (a2 : V) (n3 : Int) (n4 : Int) (σ : Heap) : hcall G (k + 1) n_laws_szFaceSig [.agg [.str s1, a2, .int .i64 n3], .int .i64 n4] σ = (bif decide (IntKind.wrap .i64 (n4 - (s1.size : Int)) < 0) then (some (.int .i64 (-1), σ)) else ((hcall G k n_laws_szIntS [a2, .int .i64 (IntKind.wrap .i64 (n4 - (s1.size : Int)))] σ).bind fun q5 => castInt .i64 q5.1 fun n6 => bif decide (n6 < 0) then (some (.int .i64 (-1), q5.2)) else (some (.int .i64 n6, q5.2)))) := by
  kernel_rfl

/-! loop.example/smithy/laws.szFaceSigS: function 12 -/
noncomputable def laws_szFaceSigS.L0 (k : Nat) : Nat → List T → Heap → Option (Ex × List T × Heap) := hloop (hx (G.env n_laws_szFaceSigS k) k 27 (subc (bodyOf Tryd.f12) [1, 1, 1, 0, 1, 0, 0]) 0) 27 (G.msk n_laws_szFaceSigS 0).1 (G.msk n_laws_szFaceSigS 0).2
noncomputable def laws_szFaceSigS.A0 (k : Nat) : Ex × List T × Heap → Option (V × Heap) := fun r => aft (G.env n_laws_szFaceSigS k) k 27 (bodyOf Tryd.f12) [1, 1, 1, 0, 1, 0] 0 (ck G.P Tryd.f12) r.1 (unpick 27 (G.msk n_laws_szFaceSigS 0).2 r.2.1) r.2.2
theorem laws_szFaceSigS.eq (k : Nat) (a1 : V) (n2 : Int) (σ : Heap) : hcall G (k + 1) n_laws_szFaceSigS [a1, .int .i64 n2] σ = ((vlen a1).bind fun k3 => bif decide (IntKind.wrap .i64 (n2 - (k3 : Int)) < 0) then (some (.int .i64 (-1), σ)) else ((laws_szFaceSigS.L0 k k [.v a1, .v (.int .i64 (IntKind.wrap .i64 (n2 - (k3 : Int)))), .v (.int .i64 0)] σ).bind (laws_szFaceSigS.A0 k))) := by
  kernel_rfl
theorem laws_szFaceSigS.L0_step (k m : Nat) (a1 : V) (n2 : Int) (n3 : Int) (σ : Heap) : laws_szFaceSigS.L0 k (m + 1) [.v a1, .v (.int .i64 n2), .v (.int .i64 n3)] σ = ((vlen a1).bind fun k4 => bif decide (n3 < (k4 : Int)) then ((vidx 3 a1 n3).bind fun p5 => (rdc σ p5.1 p5.2 3).bind fun l6 => uncons l6 fun c7 l8 => castStr c7 fun s9 => uncons l8 fun c10 l11 => uncons l11 fun c12 l13 => castInt .i64 c12 fun n14 => isNil l13 <| (hcall G k n_laws_szFaceSig [.agg [.str s9, c10, .int .i64 n14], .int .i64 n2] σ).bind fun q15 => castInt .i64 q15.1 fun n16 => bif decide (n16 < 0) then (some (.ret, [.v (.int .i64 n16), .v (.int .i64 (-1))], q15.2)) else (laws_szFaceSigS.L0 k m [.v a1, .v (.int .i64 n16), .v (.int .i64 (IntKind.wrap .i64 (n3 + 1)))] q15.2)) else (some (.exit 0, [.v (.int .i64 n2), .bot], σ))) := by
  kernel_rfl
theorem laws_szFaceSigS.A0_x0 (k : Nat) (n1 : Int) (t2 : T) (σ : Heap) : laws_szFaceSigS.A0 k (.exit 0, [.v (.int .i64 n1), t2], σ) = (some (.int .i64 n1, σ)) := by
  kernel_rfl
theorem laws_szFaceSigS.A0_ret (k : Nat) (t1 : T) (n2 : Int) (σ : Heap) : laws_szFaceSigS.A0 k (.ret, [t1, .v (.int .i64 n2)], σ) = (some (.int .i64 n2, σ)) := by
  kernel_rfl

/-! loop.example/smithy/laws.toIntS: function 74 -/
noncomputable def laws_toIntS.L0 (k : Nat) : Nat → List T → Heap → Option (Ex × List T × Heap) := hloop (hx (G.env n_laws_toIntS k) k 22 (subc (bodyOf Tryd.f74) [1, 1, 0, 1, 0, 0]) 0) 22 (G.msk n_laws_toIntS 0).1 (G.msk n_laws_toIntS 0).2
noncomputable def laws_toIntS.A0 (k : Nat) : Ex × List T × Heap → Option (V × Heap) := fun r => aft (G.env n_laws_toIntS k) k 22 (bodyOf Tryd.f74) [1, 1, 0, 1, 0] 0 (ck G.P Tryd.f74) r.1 (unpick 22 (G.msk n_laws_toIntS 0).2 r.2.1) r.2.2
theorem laws_toIntS.eq (k : Nat) (a1 : V) (σ : Heap) : hcall G (k + 1) n_laws_toIntS [a1] σ = ((vlen a1).bind fun k2 => if 0 ≤ (k2 : Int) ∧ (k2 : Int) * 8 ≤ 2 ^ 46 ∧ (k2 : Int) ≤ 2 ^ 46 then ((laws_toIntS.L0 k k [.v a1, .v (.sl σ.length 0 ((k2 : Int) : Int).toNat true), .v (.int .i64 0)] (hnew σ 1 (List.replicate ((k2 : Int) : Int).toNat [.int .i64 0]).flatten)).bind (laws_toIntS.A0 k)) else none) := by
  kernel_rfl
theorem laws_toIntS.L0_step (k m : Nat) (a1 : V) (a2 : V) (n3 : Int) (σ : Heap) : laws_toIntS.L0 k (m + 1) [.v a1, .v a2, .v (.int .i64 n3)] σ = ((vlen a1).bind fun k4 => bif decide (n3 < (k4 : Int)) then ((vidx 1 a1 n3).bind fun p5 => (rdc σ p5.1 p5.2 1).bind fun l6 => uncons l6 fun c7 l8 => castInt .i64 c7 fun n9 => isNil l8 <| (vidx 1 a2 n3).bind fun p10 => (wrc σ p10.1 p10.2 [.int .i64 n9]).bind fun h11 => laws_toIntS.L0 k m [.v a1, .v a2, .v (.int .i64 (IntKind.wrap .i64 (n3 + 1)))] h11) else (some (.exit 0, [.bot, .v a2], σ))) := by
  kernel_rfl
theorem laws_toIntS.A0_x0 (k : Nat) (t1 : T) (a2 : V) (σ : Heap) : laws_toIntS.A0 k (.exit 0, [t1, .v a2], σ) = (some (a2, σ)) := by
  kernel_rfl

/-! loop.example/smithy/laws.toFaceSig: function 34 -/
theorem laws_toFaceSig.eq (k : Nat) (s1 : ByteArray) (a2 : V) (n3 : Int) (σ : Heap) : hcall G (k + 1) n_laws_toFaceSig [.agg [.str s1, a2, .int .i64 n3]] σ = ((hcall G k n_laws_toIntS [a2] σ).bind fun q4 => one q4.1 <| some (.agg [.str s1, q4.1, .int .i64 n3], q4.2)) := by
  kernel_rfl

/-! loop.example/smithy/laws.toFaceSigS: function 14 -/
noncomputable def laws_toFaceSigS.L0 (k : Nat) : Nat → List T → Heap → Option (Ex × List T × Heap) := hloop (hx (G.env n_laws_toFaceSigS k) k 23 (subc (bodyOf Tryd.f14) [1, 1, 0, 1, 0, 0]) 0) 23 (G.msk n_laws_toFaceSigS 0).1 (G.msk n_laws_toFaceSigS 0).2
noncomputable def laws_toFaceSigS.A0 (k : Nat) : Ex × List T × Heap → Option (V × Heap) := fun r => aft (G.env n_laws_toFaceSigS k) k 23 (bodyOf Tryd.f14) [1, 1, 0, 1, 0] 0 (ck G.P Tryd.f14) r.1 (unpick 23 (G.msk n_laws_toFaceSigS 0).2 r.2.1) r.2.2
theorem laws_toFaceSigS.eq (k : Nat) (a1 : V) (σ : Heap) : hcall G (k + 1) n_laws_toFaceSigS [a1] σ = ((vlen a1).bind fun k2 => if 0 ≤ (k2 : Int) ∧ (k2 : Int) * 48 ≤ 2 ^ 46 ∧ (k2 : Int) ≤ 2 ^ 46 then ((laws_toFaceSigS.L0 k k [.v a1, .v (.sl σ.length 0 ((k2 : Int) : Int).toNat true), .v (.int .i64 0)] (hnew σ 3 (List.replicate ((k2 : Int) : Int).toNat [.str (⟨#[]⟩ : ByteArray), .nils, .int .i64 0]).flatten)).bind (laws_toFaceSigS.A0 k)) else none) := by
  kernel_rfl
theorem laws_toFaceSigS.L0_step (k m : Nat) (a1 : V) (a2 : V) (n3 : Int) (σ : Heap) : laws_toFaceSigS.L0 k (m + 1) [.v a1, .v a2, .v (.int .i64 n3)] σ = ((vlen a1).bind fun k4 => bif decide (n3 < (k4 : Int)) then ((vidx 3 a1 n3).bind fun p5 => (rdc σ p5.1 p5.2 3).bind fun l6 => uncons l6 fun c7 l8 => castStr c7 fun s9 => uncons l8 fun c10 l11 => uncons l11 fun c12 l13 => castInt .i64 c12 fun n14 => isNil l13 <| (hcall G k n_laws_toFaceSig [.agg [.str s9, c10, .int .i64 n14]] σ).bind fun q15 => castAgg q15.1 fun l16 => uncons l16 fun c17 l18 => castStr c17 fun s19 => uncons l18 fun c20 l21 => uncons l21 fun c22 l23 => castInt .i64 c22 fun n24 => isNil l23 <| (vidx 3 a2 n3).bind fun p25 => (wrc q15.2 p25.1 p25.2 [.str s19, c20, .int .i64 n24]).bind fun h26 => laws_toFaceSigS.L0 k m [.v a1, .v a2, .v (.int .i64 (IntKind.wrap .i64 (n3 + 1)))] h26) else (some (.exit 0, [.bot, .v a2], σ))) := by
  kernel_rfl
theorem laws_toFaceSigS.A0_x0 (k : Nat) (t1 : T) (a2 : V) (σ : Heap) : laws_toFaceSigS.A0 k (.exit 0, [t1, .v a2], σ) = (some (a2, σ)) := by
  kernel_rfl

/-! loop.example/smithy/laws.eqIntS: function 79 -/
noncomputable def laws_eqIntS.L0 (k : Nat) : Nat → List T → Heap → Option (Ex × List T × Heap) := hloop (hx (G.env n_laws_eqIntS k) k 26 (subc (bodyOf Tryd.f79) [1, 1, 0, 1, 0, 0]) 0) 26 (G.msk n_laws_eqIntS 0).1 (G.msk n_laws_eqIntS 0).2
noncomputable def laws_eqIntS.A0 (k : Nat) : Ex × List T × Heap → Option (V × Heap) := fun r => aft (G.env n_laws_eqIntS k) k 26 (bodyOf Tryd.f79) [1, 1, 0, 1, 0] 0 (ck G.P Tryd.f79) r.1 (unpick 26 (G.msk n_laws_eqIntS 0).2 r.2.1) r.2.2
theorem laws_eqIntS.eq (k : Nat) (a1 : V) (a2 : V) (σ : Heap) : hcall G (k + 1) n_laws_eqIntS [a1, a2] σ = ((vlen a1).bind fun k3 => (vlen a2).bind fun k4 => bif !decide ((k3 : Int) = (k4 : Int)) then (some (.bool false, σ)) else ((laws_eqIntS.L0 k k [.v a1, .v a2, .v (.int .i64 0)] σ).bind (laws_eqIntS.A0 k))) := by
  kernel_rfl
theorem laws_eqIntS.L0_step (k m : Nat) (a1 : V) (a2 : V) (n3 : Int) (σ : Heap) : laws_eqIntS.L0 k (m + 1) [.v a1, .v a2, .v (.int .i64 n3)] σ = ((vlen a1).bind fun k4 => bif decide (n3 < (k4 : Int)) then ((vidx 1 a1 n3).bind fun p5 => (rdc σ p5.1 p5.2 1).bind fun l6 => uncons l6 fun c7 l8 => castInt .i64 c7 fun n9 => isNil l8 <| (vidx 1 a2 n3).bind fun p10 => (rdc σ p10.1 p10.2 1).bind fun l11 => uncons l11 fun c12 l13 => castInt .i64 c12 fun n14 => isNil l13 <| bif !decide (n9 = n14) then (some (.ret, [.v (.bool false)], σ)) else (laws_eqIntS.L0 k m [.v a1, .v a2, .v (.int .i64 (IntKind.wrap .i64 (n3 + 1)))] σ)) else (some (.exit 0, [.bot], σ))) := by
  kernel_rfl
theorem laws_eqIntS.A0_x0 (k : Nat) (t1 : T) (σ : Heap) : laws_eqIntS.A0 k (.exit 0, [t1], σ) = (some (.bool true, σ)) := by
  kernel_rfl
theorem laws_eqIntS.A0_ret (k : Nat) (b1 : Bool) (σ : Heap) : laws_eqIntS.A0 k (.ret, [.v (.bool b1)], σ) = (some (.bool b1, σ)) := by
  kernel_rfl

/-! loop.example/smithy/laws.eqFaceSig: function 39 -/
theorem laws_eqFaceSig.eq (k : Nat) (s1 : ByteArray) (a2 : V) (n3 : Int) (s4 : ByteArray) (a5 : V) (n6 : Int) (σ : Heap) : hcall G (k + 1) n_laws_eqFaceSig [.agg [.str s1, a2, .int .i64 n3], .agg [.str s4, a5, .int .i64 n6]] σ = (bif !decide (s1 = s4) then (some (.bool false, σ)) else ((hcall G k n_laws_eqIntS [a2, a5] σ).bind fun q7 => castBool q7.1 fun b8 => bif !b8 then (some (.bool false, q7.2)) else (bif !decide (n3 = n6) then (some (.bool false, q7.2)) else (some (.bool true, q7.2))))) := by
  kernel_rfl

/-! loop.example/smithy/laws.eqFaceSigS: function 16 -/
noncomputable def laws_eqFaceSigS.L0 (k : Nat) : Nat → List T → Heap → Option (Ex × List T × Heap) := hloop (hx (G.env n_laws_eqFaceSigS k) k 27 (subc (bodyOf Tryd.f16) [1, 1, 0, 1, 0, 0]) 0) 27 (G.msk n_laws_eqFaceSigS 0).1 (G.msk n_laws_eqFaceSigS 0).2
noncomputable def laws_eqFaceSigS.A0 (k : Nat) : Ex × List T × Heap → Option (V × Heap) := fun r => aft (G.env n_laws_eqFaceSigS k) k 27 (bodyOf Tryd.f16) [1, 1, 0, 1, 0] 0 (ck G.P Tryd.f16) r.1 (unpick 27 (G.msk n_laws_eqFaceSigS 0).2 r.2.1) r.2.2
theorem laws_eqFaceSigS.eq (k : Nat) (a1 : V) (a2 : V) (σ : Heap) : hcall G (k + 1) n_laws_eqFaceSigS [a1, a2] σ = ((vlen a1).bind fun k3 => (vlen a2).bind fun k4 => bif !decide ((k3 : Int) = (k4 : Int)) then (some (.bool false, σ)) else ((laws_eqFaceSigS.L0 k k [.v a1, .v a2, .v (.int .i64 0)] σ).bind (laws_eqFaceSigS.A0 k))) := by
  kernel_rfl
theorem laws_eqFaceSigS.L0_step (k m : Nat) (a1 : V) (a2 : V) (n3 : Int) (σ : Heap) : laws_eqFaceSigS.L0 k (m + 1) [.v a1, .v a2, .v (.int .i64 n3)] σ = ((vlen a1).bind fun k4 => bif decide (n3 < (k4 : Int)) then ((vidx 3 a1 n3).bind fun p5 => (rdc σ p5.1 p5.2 3).bind fun l6 => uncons l6 fun c7 l8 => castStr c7 fun s9 => uncons l8 fun c10 l11 => uncons l11 fun c12 l13 => castInt .i64 c12 fun n14 => isNil l13 <| (vidx 3 a2 n3).bind fun p15 => (rdc σ p15.1 p15.2 3).bind fun l16 => uncons l16 fun c17 l18 => castStr c17 fun s19 => uncons l18 fun c20 l21 => uncons l21 fun c22 l23 => castInt .i64 c22 fun n24 => isNil l23 <| (hcall G k n_laws_eqFaceSig [.agg [.str s9, c10, .int .i64 n14], .agg [.str s19, c20, .int .i64 n24]] σ).bind fun q25 => castBool q25.1 fun b26 => bif !b26 then (some (.ret, [.v (.bool false)], q25.2)) else (laws_eqFaceSigS.L0 k m [.v a1, .v a2, .v (.int .i64 (IntKind.wrap .i64 (n3 + 1)))] q25.2)) else (some (.exit 0, [.bot], σ))) := by
  kernel_rfl
theorem laws_eqFaceSigS.A0_x0 (k : Nat) (t1 : T) (σ : Heap) : laws_eqFaceSigS.A0 k (.exit 0, [t1], σ) = (some (.bool true, σ)) := by
  kernel_rfl
theorem laws_eqFaceSigS.A0_ret (k : Nat) (b1 : Bool) (σ : Heap) : laws_eqFaceSigS.A0 k (.ret, [.v (.bool b1)], σ) = (some (.bool b1, σ)) := by
  kernel_rfl

/-! loop.example/smithy/laws.szStringS: function 40 -/
noncomputable def laws_szStringS.L0 (k : Nat) : Nat → List T → Heap → Option (Ex × List T × Heap) := hloop (hx (G.env n_laws_szStringS k) k 28 (subc (bodyOf Tryd.f40) [1, 1, 1, 0, 1, 0, 0]) 0) 28 (G.msk n_laws_szStringS 0).1 (G.msk n_laws_szStringS 0).2
noncomputable def laws_szStringS.A0 (k : Nat) : Ex × List T × Heap → Option (V × Heap) := fun r => aft (G.env n_laws_szStringS k) k 28 (bodyOf Tryd.f40) [1, 1, 1, 0, 1, 0] 0 (ck G.P Tryd.f40) r.1 (unpick 28 (G.msk n_laws_szStringS 0).2 r.2.1) r.2.2
theorem laws_szStringS.eq (k : Nat) (a1 : V) (n2 : Int) (σ : Heap) : hcall G (k + 1) n_laws_szStringS [a1, .int .i64 n2] σ = ((vlen a1).bind fun k3 => bif decide (IntKind.wrap .i64 (n2 - (k3 : Int)) < 0) then (some (.int .i64 (-1), σ)) else ((laws_szStringS.L0 k k [.v a1, .v (.int .i64 (IntKind.wrap .i64 (n2 - (k3 : Int)))), .v (.int .i64 0)] σ).bind (laws_szStringS.A0 k))) := by
  kernel_rfl
theorem laws_szStringS.L0_step (k m : Nat) (a1 : V) (n2 : Int) (n3 : Int) (σ : Heap) : laws_szStringS.L0 k (m + 1) [.v a1, .v (.int .i64 n2), .v (.int .i64 n3)] σ = ((vlen a1).bind fun k4 => bif decide (n3 < (k4 : Int)) then ((vidx 1 a1 n3).bind fun p5 => (rdc σ p5.1 p5.2 1).bind fun l6 => uncons l6 fun c7 l8 => castStr c7 fun s9 => isNil l8 <| bif decide (IntKind.wrap .i64 (n2 - (s9.size : Int)) < 0) then (some (.ret, [.v (.int .i64 (IntKind.wrap .i64 (n2 - (s9.size : Int)))), .v (.int .i64 (-1))], σ)) else (laws_szStringS.L0 k m [.v a1, .v (.int .i64 (IntKind.wrap .i64 (n2 - (s9.size : Int)))), .v (.int .i64 (IntKind.wrap .i64 (n3 + 1)))] σ)) else (some (.exit 0, [.v (.int .i64 n2), .bot], σ))) := by
  kernel_rfl
theorem laws_szStringS.A0_x0 (k : Nat) (n1 : Int) (t2 : T) (σ : Heap) : laws_szStringS.A0 k (.exit 0, [.v (.int .i64 n1), t2], σ) = (some (.int .i64 n1, σ)) := by
  kernel_rfl
theorem laws_szStringS.A0_ret (k : Nat) (t1 : T) (n2 : Int) (σ : Heap) : laws_szStringS.A0 k (.ret, [t1, .v (.int .i64 n2)], σ) = (some (.int .i64 n2, σ)) := by
  kernel_rfl

/-! loop.example/smithy/laws.toStringS: function 47 -/
noncomputable def laws_toStringS.L0 (k : Nat) : Nat → List T → Heap → Option (Ex × List T × Heap) := hloop (hx (G.env n_laws_toStringS k) k 22 (subc (bodyOf Tryd.f47) [1, 1, 0, 1, 0, 0]) 0) 22 (G.msk n_laws_toStringS 0).1 (G.msk n_laws_toStringS 0).2
noncomputable def laws_toStringS.A0 (k : Nat) : Ex × List T × Heap → Option (V × Heap) := fun r => aft (G.env n_laws_toStringS k) k 22 (bodyOf Tryd.f47) [1, 1, 0, 1, 0] 0 (ck G.P Tryd.f47) r.1 (unpick 22 (G.msk n_laws_toStringS 0).2 r.2.1) r.2.2
theorem laws_toStringS.eq (k : Nat) (a1 : V) (σ : Heap) : hcall G (k + 1) n_laws_toStringS [a1] σ = ((vlen a1).bind fun k2 => if 0 ≤ (k2 : Int) ∧ (k2 : Int) * 16 ≤ 2 ^ 46 ∧ (k2 : Int) ≤ 2 ^ 46 then ((laws_toStringS.L0 k k [.v a1, .v (.sl σ.length 0 ((k2 : Int) : Int).toNat true), .v (.int .i64 0)] (hnew σ 1 (List.replicate ((k2 : Int) : Int).toNat [.str (⟨#[]⟩ : ByteArray)]).flatten)).bind (laws_toStringS.A0 k)) else none) := by
  kernel_rfl
theorem laws_toStringS.L0_step (k m : Nat) (a1 : V) (a2 : V) (n3 : Int) (σ : Heap) : laws_toStringS.L0 k (m + 1) [.v a1, .v a2, .v (.int .i64 n3)] σ = ((vlen a1).bind fun k4 => bif decide (n3 < (k4 : Int)) then ((vidx 1 a1 n3).bind fun p5 => (rdc σ p5.1 p5.2 1).bind fun l6 => uncons l6 fun c7 l8 => castStr c7 fun s9 => isNil l8 <| (vidx 1 a2 n3).bind fun p10 => (wrc σ p10.1 p10.2 [.str s9]).bind fun h11 => laws_toStringS.L0 k m [.v a1, .v a2, .v (.int .i64 (IntKind.wrap .i64 (n3 + 1)))] h11) else (some (.exit 0, [.bot, .v a2], σ))) := by
  kernel_rfl
theorem laws_toStringS.A0_x0 (k : Nat) (t1 : T) (a2 : V) (σ : Heap) : laws_toStringS.A0 k (.exit 0, [t1, .v a2], σ) = (some (a2, σ)) := by
  kernel_rfl

/-! loop.example/smithy/laws.eqStringS: function 53 -/
noncomputable def laws_eqStringS.L0 (k : Nat) : Nat → List T → Heap → Option (Ex × List T × Heap) := hloop (hx (G.env n_laws_eqStringS k) k 26 (subc (bodyOf Tryd.f53) [1, 1, 0, 1, 0, 0]) 0) 26 (G.msk n_laws_eqStringS 0).1 (G.msk n_laws_eqStringS 0).2
noncomputable def laws_eqStringS.A0 (k : Nat) : Ex × List T × Heap → Option (V × Heap) := fun r => aft (G.env n_laws_eqStringS k) k 26 (bodyOf Tryd.f53) [1, 1, 0, 1, 0] 0 (ck G.P Tryd.f53) r.1 (unpick 26 (G.msk n_laws_eqStringS 0).2 r.2.1) r.2.2
theorem laws_eqStringS.eq (k : Nat) (a1 : V) (a2 : V) (σ : Heap) : hcall G (k + 1) n_laws_eqStringS [a1, a2] σ = ((vlen a1).bind fun k3 => (vlen a2).bind fun k4 => bif !decide ((k3 : Int) = (k4 : Int)) then (some (.bool false, σ)) else ((laws_eqStringS.L0 k k [.v a1, .v a2, .v (.int .i64 0)] σ).bind (laws_eqStringS.A0 k))) := by
  kernel_rfl
theorem laws_eqStringS.L0_step (k m : Nat) (a1 : V) (a2 : V) (n3 : Int) (σ : Heap) : laws_eqStringS.L0 k (m + 1) [.v a1, .v a2, .v (.int .i64 n3)] σ = ((vlen a1).bind fun k4 => bif decide (n3 < (k4 : Int)) then ((vidx 1 a1 n3).bind fun p5 => (rdc σ p5.1 p5.2 1).bind fun l6 => uncons l6 fun c7 l8 => castStr c7 fun s9 => isNil l8 <| (vidx 1 a2 n3).bind fun p10 => (rdc σ p10.1 p10.2 1).bind fun l11 => uncons l11 fun c12 l13 => castStr c12 fun s14 => isNil l13 <| bif !decide (s9 = s14) then (some (.ret, [.v (.bool false)], σ)) else (laws_eqStringS.L0 k m [.v a1, .v a2, .v (.int .i64 (IntKind.wrap .i64 (n3 + 1)))] σ)) else (some (.exit 0, [.bot], σ))) := by
  kernel_rfl
theorem laws_eqStringS.A0_x0 (k : Nat) (t1 : T) (σ : Heap) : laws_eqStringS.A0 k (.exit 0, [t1], σ) = (some (.bool true, σ)) := by
  kernel_rfl
theorem laws_eqStringS.A0_ret (k : Nat) (b1 : Bool) (σ : Heap) : laws_eqStringS.A0 k (.ret, [.v (.bool b1)], σ) = (some (.bool b1, σ)) := by
  kernel_rfl

/-! slices.Index[[]string,string]: function 154 -/
noncomputable def slices_Index_string_string.L0 (k : Nat) : Nat → List T → Heap → Option (Ex × List T × Heap) := hloop (hx (G.env n_slices_Index_string_string k) k 19 (subc (bodyOf Tryd.f154) [1, 0, 1, 0, 0]) 0) 19 (G.msk n_slices_Index_string_string 0).1 (G.msk n_slices_Index_string_string 0).2
noncomputable def slices_Index_string_string.A0 (k : Nat) : Ex × List T × Heap → Option (V × Heap) := fun r => aft (G.env n_slices_Index_string_string k) k 19 (bodyOf Tryd.f154) [1, 0, 1, 0] 0 (ck G.P Tryd.f154) r.1 (unpick 19 (G.msk n_slices_Index_string_string 0).2 r.2.1) r.2.2
theorem slices_Index_string_string.eq (k : Nat) (a1 : V) (s2 : ByteArray) (σ : Heap) : hcall G (k + 1) n_slices_Index_string_string [a1, .str s2] σ = ((vlen a1).bind fun k3 => (slices_Index_string_string.L0 k k [.v a1, .v (.str s2), .v (.int .i64 (k3 : Int)), .v (.int .i64 0)] σ).bind (slices_Index_string_string.A0 k)) := by
  kernel_rfl
theorem slices_Index_string_string.L0_step (k m : Nat) (a1 : V) (s2 : ByteArray) (n3 : Int) (n4 : Int) (σ : Heap) : slices_Index_string_string.L0 k (m + 1) [.v a1, .v (.str s2), .v (.int .i64 n3), .v (.int .i64 n4)] σ = (bif decide (n4 < n3) then ((vidx 1 a1 n4).bind fun p5 => (rdc σ p5.1 p5.2 1).bind fun l6 => uncons l6 fun c7 l8 => castStr c7 fun s9 => isNil l8 <| bif decide (s2 = s9) then (some (.ret, [.v (.int .i64 n4)], σ)) else (slices_Index_string_string.L0 k m [.v a1, .v (.str s2), .v (.int .i64 n3), .v (.int .i64 (IntKind.wrap .i64 (n4 + 1)))] σ)) else (some (.exit 0, [.bot], σ))) := by
  kernel_rfl
theorem slices_Index_string_string.A0_x0 (k : Nat) (t1 : T) (σ : Heap) : slices_Index_string_string.A0 k (.exit 0, [t1], σ) = (some (.int .i64 (-1), σ)) := by
  kernel_rfl
theorem slices_Index_string_string.A0_ret (k : Nat) (n1 : Int) (σ : Heap) : slices_Index_string_string.A0 k (.ret, [.v (.int .i64 n1)], σ) = (some (.int .i64 n1, σ)) := by
  kernel_rfl

/-! slices.Contains[[]string,string]: function 128 -/
theorem slices_Contains_string_string.eq (k : Nat) (a1 : V) (s2 : ByteArray) (σ : Heap) : hcall G (k + 1) n_slices_Contains_string_string [a1, .str s2] σ = ((hcall G k n_slices_Index_string_string [a1, .str s2] σ).bind fun q3 => castInt .i64 q3.1 fun n4 => some (.bool (decide (0 ≤ n4)), q3.2)) := by
  kernel_rfl

/-! loop.example/smithy/impl.isOwn: function 119 -/
theorem impl_isOwn.eq (k : Nat) (s1 : ByteArray) (σ : Heap) : hcall G (k + 1) n_impl_isOwn [.str s1] σ = ((hcall G k n_slices_Contains_string_string [(.sl σ.length 0 19 true), .str s1] (hnew σ 1 [.str (⟨#[117, 115, 101]⟩ : ByteArray), .str (⟨#[102, 117, 110]⟩ : ByteArray), .str (⟨#[112, 117, 98]⟩ : ByteArray), .str (⟨#[109, 97, 105, 110]⟩ : ByteArray), .str (⟨#[105, 110, 116]⟩ : ByteArray), .str (⟨#[98, 111, 111, 108]⟩ : ByteArray), .str (⟨#[114, 111, 119]⟩ : ByteArray), .str (⟨#[105, 102]⟩ : ByteArray), .str (⟨#[108, 101, 116]⟩ : ByteArray), .str (⟨#[116, 114, 117, 101]⟩ : ByteArray), .str (⟨#[102, 97, 108, 115, 101]⟩ : ByteArray), .str (⟨#[97, 110, 100]⟩ : ByteArray), .str (⟨#[111, 114]⟩ : ByteArray), .str (⟨#[110, 111, 116]⟩ : ByteArray), .str (⟨#[97, 116]⟩ : ByteArray), .str (⟨#[108, 101, 110]⟩ : ByteArray), .str (⟨#[112, 117, 116]⟩ : ByteArray), .str (⟨#[106, 111, 105, 110]⟩ : ByteArray), .str (⟨#[112, 114, 105, 110, 116]⟩ : ByteArray)])).bind fun q2 => castBool q2.1 fun b3 => some (.bool b3, q2.2)) := by
  kernel_rfl

/-! loop.example/smithy/impl.LexName: function 75 -/
noncomputable def impl_LexName.L0 (k : Nat) : Nat → List T → Heap → Option (Ex × List T × Heap) := hloop (hx (G.env n_impl_LexName k) k 28 (subc (bodyOf Tryd.f75) [1, 0, 1, 0, 0]) 0) 28 (G.msk n_impl_LexName 0).1 (G.msk n_impl_LexName 0).2
noncomputable def impl_LexName.A0 (k : Nat) : Ex × List T × Heap → Option (V × Heap) := fun r => aft (G.env n_impl_LexName k) k 28 (bodyOf Tryd.f75) [1, 0, 1, 0] 0 (ck G.P Tryd.f75) r.1 (unpick 28 (G.msk n_impl_LexName 0).2 r.2.1) r.2.2
theorem impl_LexName.eq (k : Nat) (s1 : ByteArray) (σ : Heap) : hcall G (k + 1) n_impl_LexName [.str s1] σ = ((impl_LexName.L0 k k [.v (.str s1), .v (.int .i64 (s1.size : Int)), .v (.int .i64 0)] σ).bind (impl_LexName.A0 k)) := by
  kernel_rfl
theorem impl_LexName.L0_step (k m : Nat) (s1 : ByteArray) (n2 : Int) (n3 : Int) (σ : Heap) : impl_LexName.L0 k (m + 1) [.v (.str s1), .v (.int .i64 n2), .v (.int .i64 n3)] σ = (bif decide (n3 < n2) then ((sbyte s1 n3).bind fun n4 => bif decide (n4 < 97) then (some (.ret, [.v (.str s1), .v (.bool false)], σ)) else ((sbyte s1 n3).bind fun n5 => bif decide (122 < n5) then (some (.ret, [.v (.str s1), .v (.bool false)], σ)) else (impl_LexName.L0 k m [.v (.str s1), .v (.int .i64 n2), .v (.int .i64 (IntKind.wrap .i64 (n3 + 1)))] σ))) else (some (.exit 0, [.v (.str s1), .bot], σ))) := by
  kernel_rfl
theorem impl_LexName.A0_x0 (k : Nat) (s1 : ByteArray) (t2 : T) (σ : Heap) : impl_LexName.A0 k (.exit 0, [.v (.str s1), t2], σ) = ((hcall G k n_impl_inRange [.int .i64 (s1.size : Int), .int .i64 1, .int .i64 8] σ).bind fun q3 => castBool q3.1 fun b4 => bif b4 then ((hcall G k n_impl_isOwn [.str s1] q3.2).bind fun q5 => castBool q5.1 fun b6 => some (.bool (!b6), q5.2)) else (some (.bool false, q3.2))) := by
  kernel_rfl
theorem impl_LexName.A0_ret (k : Nat) (t1 : T) (b2 : Bool) (σ : Heap) : impl_LexName.A0 k (.ret, [t1, .v (.bool b2)], σ) = (some (.bool b2, σ)) := by
  kernel_rfl

/-! loop.example/smithy/spec.l1Kept: function 135 -/
noncomputable def spec_l1Kept.L0 (k : Nat) : Nat → List T → Heap → Option (Ex × List T × Heap) := hloop (hx (G.env n_spec_l1Kept k) k 18 (subc (bodyOf Tryd.f135) [1, 1, 0, 1, 0, 0]) 0) 18 (G.msk n_spec_l1Kept 0).1 (G.msk n_spec_l1Kept 0).2
noncomputable def spec_l1Kept.A0 (k : Nat) : Ex × List T × Heap → Option (V × Heap) := fun r => aft (G.env n_spec_l1Kept k) k 18 (bodyOf Tryd.f135) [1, 1, 0, 1, 0] 0 (ck G.P Tryd.f135) r.1 (unpick 18 (G.msk n_spec_l1Kept 0).2 r.2.1) r.2.2
theorem spec_l1Kept.eq (k : Nat) (s1 : ByteArray) (σ : Heap) : hcall G (k + 1) n_spec_l1Kept [.str s1] σ = ((spec_l1Kept.L0 k k [.v (.str s1), .v (.sl σ.length 0 19 true), .v (.int .i64 0)] (hnew σ 1 [.str (⟨#[117, 115, 101]⟩ : ByteArray), .str (⟨#[102, 117, 110]⟩ : ByteArray), .str (⟨#[112, 117, 98]⟩ : ByteArray), .str (⟨#[109, 97, 105, 110]⟩ : ByteArray), .str (⟨#[105, 110, 116]⟩ : ByteArray), .str (⟨#[98, 111, 111, 108]⟩ : ByteArray), .str (⟨#[114, 111, 119]⟩ : ByteArray), .str (⟨#[105, 102]⟩ : ByteArray), .str (⟨#[108, 101, 116]⟩ : ByteArray), .str (⟨#[116, 114, 117, 101]⟩ : ByteArray), .str (⟨#[102, 97, 108, 115, 101]⟩ : ByteArray), .str (⟨#[97, 110, 100]⟩ : ByteArray), .str (⟨#[111, 114]⟩ : ByteArray), .str (⟨#[110, 111, 116]⟩ : ByteArray), .str (⟨#[97, 116]⟩ : ByteArray), .str (⟨#[108, 101, 110]⟩ : ByteArray), .str (⟨#[112, 117, 116]⟩ : ByteArray), .str (⟨#[106, 111, 105, 110]⟩ : ByteArray), .str (⟨#[112, 114, 105, 110, 116]⟩ : ByteArray)])).bind (spec_l1Kept.A0 k)) := by
  kernel_rfl
theorem spec_l1Kept.L0_step (k m : Nat) (s1 : ByteArray) (a2 : V) (n3 : Int) (σ : Heap) : spec_l1Kept.L0 k (m + 1) [.v (.str s1), .v a2, .v (.int .i64 n3)] σ = ((vlen a2).bind fun k4 => bif decide (n3 < (k4 : Int)) then ((vidx 1 a2 n3).bind fun p5 => (rdc σ p5.1 p5.2 1).bind fun l6 => uncons l6 fun c7 l8 => castStr c7 fun s9 => isNil l8 <| bif decide (s9 = s1) then (some (.ret, [.v (.bool true)], σ)) else (spec_l1Kept.L0 k m [.v (.str s1), .v a2, .v (.int .i64 (IntKind.wrap .i64 (n3 + 1)))] σ)) else (some (.exit 0, [.bot], σ))) := by
  kernel_rfl
theorem spec_l1Kept.A0_x0 (k : Nat) (t1 : T) (σ : Heap) : spec_l1Kept.A0 k (.exit 0, [t1], σ) = (some (.bool false, σ)) := by
  kernel_rfl
theorem spec_l1Kept.A0_ret (k : Nat) (b1 : Bool) (σ : Heap) : spec_l1Kept.A0 k (.ret, [.v (.bool b1)], σ) = (some (.bool b1, σ)) := by
  kernel_rfl

/-! loop.example/smithy/spec.LexName: function 104 -/
noncomputable def spec_LexName.L0 (k : Nat) : Nat → List T → Heap → Option (Ex × List T × Heap) := hloop (hx (G.env n_spec_LexName k) k 32 (subc (bodyOf Tryd.f104) [1, 1, 0, 1, 0, 0]) 0) 32 (G.msk n_spec_LexName 0).1 (G.msk n_spec_LexName 0).2
noncomputable def spec_LexName.A0 (k : Nat) : Ex × List T × Heap → Option (V × Heap) := fun r => aft (G.env n_spec_LexName k) k 32 (bodyOf Tryd.f104) [1, 1, 0, 1, 0] 0 (ck G.P Tryd.f104) r.1 (unpick 32 (G.msk n_spec_LexName 0).2 r.2.1) r.2.2
theorem spec_LexName.eq (k : Nat) (s1 : ByteArray) (σ : Heap) : hcall G (k + 1) n_spec_LexName [.str s1] σ = (bif decide ((s1.size : Int) < 1) then (some (.bool false, σ)) else (bif decide (8 < (s1.size : Int)) then (some (.bool false, σ)) else ((hcall G k n_spec_l1Kept [.str s1] σ).bind fun q2 => castBool q2.1 fun b3 => bif b3 then (some (.bool false, q2.2)) else ((spec_LexName.L0 k k [.v (.str s1), .v (.int .i64 0)] q2.2).bind (spec_LexName.A0 k))))) := by
  kernel_rfl
theorem spec_LexName.L0_step (k m : Nat) (s1 : ByteArray) (n2 : Int) (σ : Heap) : spec_LexName.L0 k (m + 1) [.v (.str s1), .v (.int .i64 n2)] σ = (bif decide (n2 < (s1.size : Int)) then ((sbyte s1 n2).bind fun n3 => bif decide (n3 < 97) then (some (.ret, [.v (.bool false)], σ)) else ((sbyte s1 n2).bind fun n4 => bif decide (122 < n4) then (some (.ret, [.v (.bool false)], σ)) else (spec_LexName.L0 k m [.v (.str s1), .v (.int .i64 (IntKind.wrap .i64 (n2 + 1)))] σ))) else (some (.exit 0, [.bot], σ))) := by
  kernel_rfl
theorem spec_LexName.A0_x0 (k : Nat) (t1 : T) (σ : Heap) : spec_LexName.A0 k (.exit 0, [t1], σ) = (some (.bool true, σ)) := by
  kernel_rfl
theorem spec_LexName.A0_ret (k : Nat) (b1 : Bool) (σ : Heap) : spec_LexName.A0 k (.ret, [.v (.bool b1)], σ) = (some (.bool b1, σ)) := by
  kernel_rfl
end Go.D
