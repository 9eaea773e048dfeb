/- The functions' equations. -/
import Derived.Test.YtghkdjfgbaoplaaEG
namespace Go.B
open Go.HM Go.Proofs
set_option linter.unusedVariables false
set_option maxRecDepth 1000000
set_option maxHeartbeats 4000000

/-! loop.example/smithy/laws.toCodeRefS: function 100 -/
noncomputable def laws_toCodeRefS.L0 (k : Nat) : Nat → List T → Heap → Option (Ex × List T × Heap) := hloop (hx (G.env n_laws_toCodeRefS k) k 23 (subc (bodyOf Try.f100) [1, 1, 0, 1, 0, 0]) 0) 23 (G.msk n_laws_toCodeRefS 0).1 (G.msk n_laws_toCodeRefS 0).2
noncomputable def laws_toCodeRefS.A0 (k : Nat) : Ex × List T × Heap → Option (V × Heap) := fun r => aft (G.env n_laws_toCodeRefS k) k 23 (bodyOf Try.f100) [1, 1, 0, 1, 0] 0 (ck G.P Try.f100) r.1 (unpick 23 (G.msk n_laws_toCodeRefS 0).2 r.2.1) r.2.2
theorem laws_toCodeRefS.eq (k : Nat) (a1 : V) (σ : Heap) : hcall G (k + 1) n_laws_toCodeRefS [a1] σ = ((vlen a1).bind fun k2 => if 0 ≤ (k2 : Int) ∧ (k2 : Int) * 32 ≤ 2 ^ 46 ∧ (k2 : Int) ≤ 2 ^ 46 then ((laws_toCodeRefS.L0 k k [.v a1, .v (.sl σ.length 0 ((k2 : Int) : Int).toNat true), .v (.int .i64 0)] (hnew σ 2 (List.replicate ((k2 : Int) : Int).toNat [.str (⟨#[]⟩ : ByteArray), .str (⟨#[]⟩ : ByteArray)]).flatten)).bind (laws_toCodeRefS.A0 k)) else none) := by
  kernel_rfl
theorem laws_toCodeRefS.L0_step (k m : Nat) (a1 : V) (a2 : V) (n3 : Int) (σ : Heap) : laws_toCodeRefS.L0 k (m + 1) [.v a1, .v a2, .v (.int .i64 n3)] σ = ((vlen a1).bind fun k4 => bif decide (n3 < (k4 : Int)) then ((vidx 2 a1 n3).bind fun p5 => (rdc σ p5.1 p5.2 2).bind fun l6 => uncons l6 fun c7 l8 => castStr c7 fun s9 => uncons l8 fun c10 l11 => castStr c10 fun s12 => isNil l11 <| (hcall G k n_laws_toCodeRef [.agg [.str s9, .str s12]] σ).bind fun q13 => castAgg q13.1 fun l14 => uncons l14 fun c15 l16 => castStr c15 fun s17 => uncons l16 fun c18 l19 => castStr c18 fun s20 => isNil l19 <| (vidx 2 a2 n3).bind fun p21 => (wrc q13.2 p21.1 p21.2 [.str s17, .str s20]).bind fun h22 => laws_toCodeRefS.L0 k m [.v a1, .v a2, .v (.int .i64 (IntKind.wrap .i64 (n3 + 1)))] h22) else (some (.exit 0, [.bot, .v a2], σ))) := by
  kernel_rfl
theorem laws_toCodeRefS.A0_x0 (k : Nat) (t1 : T) (a2 : V) (σ : Heap) : laws_toCodeRefS.A0 k (.exit 0, [t1, .v a2], σ) = (some (a2, σ)) := by
  kernel_rfl

/-! loop.example/smithy/laws.toIntS: function 163 -/
noncomputable def laws_toIntS.L0 (k : Nat) : Nat → List T → Heap → Option (Ex × List T × Heap) := hloop (hx (G.env n_laws_toIntS k) k 22 (subc (bodyOf Try.f163) [1, 1, 0, 1, 0, 0]) 0) 22 (G.msk n_laws_toIntS 0).1 (G.msk n_laws_toIntS 0).2
noncomputable def laws_toIntS.A0 (k : Nat) : Ex × List T × Heap → Option (V × Heap) := fun r => aft (G.env n_laws_toIntS k) k 22 (bodyOf Try.f163) [1, 1, 0, 1, 0] 0 (ck G.P Try.f163) r.1 (unpick 22 (G.msk n_laws_toIntS 0).2 r.2.1) r.2.2
theorem laws_toIntS.eq (k : Nat) (a1 : V) (σ : Heap) : hcall G (k + 1) n_laws_toIntS [a1] σ = ((vlen a1).bind fun k2 => if 0 ≤ (k2 : Int) ∧ (k2 : Int) * 8 ≤ 2 ^ 46 ∧ (k2 : Int) ≤ 2 ^ 46 then ((laws_toIntS.L0 k k [.v a1, .v (.sl σ.length 0 ((k2 : Int) : Int).toNat true), .v (.int .i64 0)] (hnew σ 1 (List.replicate ((k2 : Int) : Int).toNat [.int .i64 0]).flatten)).bind (laws_toIntS.A0 k)) else none) := by
  kernel_rfl
theorem laws_toIntS.L0_step (k m : Nat) (a1 : V) (a2 : V) (n3 : Int) (σ : Heap) : laws_toIntS.L0 k (m + 1) [.v a1, .v a2, .v (.int .i64 n3)] σ = ((vlen a1).bind fun k4 => bif decide (n3 < (k4 : Int)) then ((vidx 1 a1 n3).bind fun p5 => (rdc σ p5.1 p5.2 1).bind fun l6 => uncons l6 fun c7 l8 => castInt .i64 c7 fun n9 => isNil l8 <| (vidx 1 a2 n3).bind fun p10 => (wrc σ p10.1 p10.2 [.int .i64 n9]).bind fun h11 => laws_toIntS.L0 k m [.v a1, .v a2, .v (.int .i64 (IntKind.wrap .i64 (n3 + 1)))] h11) else (some (.exit 0, [.bot, .v a2], σ))) := by
  kernel_rfl
theorem laws_toIntS.A0_x0 (k : Nat) (t1 : T) (a2 : V) (σ : Heap) : laws_toIntS.A0 k (.exit 0, [t1, .v a2], σ) = (some (a2, σ)) := by
  kernel_rfl

/-! loop.example/smithy/laws.toCodeIns: function 175 -/
theorem laws_toCodeIns.eq (k : Nat) (n1 : Int) (n2 : Int) (σ : Heap) : hcall G (k + 1) n_laws_toCodeIns [.agg [.int .i64 n1, .int .i64 n2]] σ = (some (.agg [.int .i64 n1, .int .i64 n2], σ)) := by
  kernel_rfl

/-! loop.example/smithy/laws.toCodeInsS: function 164 -/
noncomputable def laws_toCodeInsS.L0 (k : Nat) : Nat → List T → Heap → Option (Ex × List T × Heap) := hloop (hx (G.env n_laws_toCodeInsS k) k 23 (subc (bodyOf Try.f164) [1, 1, 0, 1, 0, 0]) 0) 23 (G.msk n_laws_toCodeInsS 0).1 (G.msk n_laws_toCodeInsS 0).2
noncomputable def laws_toCodeInsS.A0 (k : Nat) : Ex × List T × Heap → Option (V × Heap) := fun r => aft (G.env n_laws_toCodeInsS k) k 23 (bodyOf Try.f164) [1, 1, 0, 1, 0] 0 (ck G.P Try.f164) r.1 (unpick 23 (G.msk n_laws_toCodeInsS 0).2 r.2.1) r.2.2
theorem laws_toCodeInsS.eq (k : Nat) (a1 : V) (σ : Heap) : hcall G (k + 1) n_laws_toCodeInsS [a1] σ = ((vlen a1).bind fun k2 => if 0 ≤ (k2 : Int) ∧ (k2 : Int) * 16 ≤ 2 ^ 46 ∧ (k2 : Int) ≤ 2 ^ 46 then ((laws_toCodeInsS.L0 k k [.v a1, .v (.sl σ.length 0 ((k2 : Int) : Int).toNat true), .v (.int .i64 0)] (hnew σ 2 (List.replicate ((k2 : Int) : Int).toNat [.int .i64 0, .int .i64 0]).flatten)).bind (laws_toCodeInsS.A0 k)) else none) := by
  kernel_rfl
theorem laws_toCodeInsS.L0_step (k m : Nat) (a1 : V) (a2 : V) (n3 : Int) (σ : Heap) : laws_toCodeInsS.L0 k (m + 1) [.v a1, .v a2, .v (.int .i64 n3)] σ = ((vlen a1).bind fun k4 => bif decide (n3 < (k4 : Int)) then ((vidx 2 a1 n3).bind fun p5 => (rdc σ p5.1 p5.2 2).bind fun l6 => uncons l6 fun c7 l8 => castInt .i64 c7 fun n9 => uncons l8 fun c10 l11 => castInt .i64 c10 fun n12 => isNil l11 <| (hcall G k n_laws_toCodeIns [.agg [.int .i64 n9, .int .i64 n12]] σ).bind fun q13 => castAgg q13.1 fun l14 => uncons l14 fun c15 l16 => castInt .i64 c15 fun n17 => uncons l16 fun c18 l19 => castInt .i64 c18 fun n20 => isNil l19 <| (vidx 2 a2 n3).bind fun p21 => (wrc q13.2 p21.1 p21.2 [.int .i64 n17, .int .i64 n20]).bind fun h22 => laws_toCodeInsS.L0 k m [.v a1, .v a2, .v (.int .i64 (IntKind.wrap .i64 (n3 + 1)))] h22) else (some (.exit 0, [.bot, .v a2], σ))) := by
  kernel_rfl
theorem laws_toCodeInsS.A0_x0 (k : Nat) (t1 : T) (a2 : V) (σ : Heap) : laws_toCodeInsS.A0 k (.exit 0, [t1, .v a2], σ) = (some (a2, σ)) := by
  kernel_rfl

/-! loop.example/smithy/laws.toCodeFun: function 129 -/
theorem laws_toCodeFun.eq (k : Nat) (s1 : ByteArray) (b2 : Bool) (a3 : V) (n4 : Int) (n5 : Int) (a6 : V) (σ : Heap) : hcall G (k + 1) n_laws_toCodeFun [.agg [.str s1, .bool b2, a3, .int .i64 n4, .int .i64 n5, a6]] σ = ((hcall G k n_laws_toIntS [a3] σ).bind fun q7 => one q7.1 <| (hcall G k n_laws_toCodeInsS [a6] q7.2).bind fun q8 => one q8.1 <| some (.agg [.str s1, .bool b2, q7.1, .int .i64 n4, .int .i64 n5, q8.1], q8.2)) := by
  kernel_rfl

/-! loop.example/smithy/laws.toCodeFunS: function 101 -/
noncomputable def laws_toCodeFunS.L0 (k : Nat) : Nat → List T → Heap → Option (Ex × List T × Heap) := hloop (hx (G.env n_laws_toCodeFunS k) k 23 (subc (bodyOf Try.f101) [1, 1, 0, 1, 0, 0]) 0) 23 (G.msk n_laws_toCodeFunS 0).1 (G.msk n_laws_toCodeFunS 0).2
noncomputable def laws_toCodeFunS.A0 (k : Nat) : Ex × List T × Heap → Option (V × Heap) := fun r => aft (G.env n_laws_toCodeFunS k) k 23 (bodyOf Try.f101) [1, 1, 0, 1, 0] 0 (ck G.P Try.f101) r.1 (unpick 23 (G.msk n_laws_toCodeFunS 0).2 r.2.1) r.2.2
theorem laws_toCodeFunS.eq (k : Nat) (a1 : V) (σ : Heap) : hcall G (k + 1) n_laws_toCodeFunS [a1] σ = ((vlen a1).bind fun k2 => if 0 ≤ (k2 : Int) ∧ (k2 : Int) * 88 ≤ 2 ^ 46 ∧ (k2 : Int) ≤ 2 ^ 46 then ((laws_toCodeFunS.L0 k k [.v a1, .v (.sl σ.length 0 ((k2 : Int) : Int).toNat true), .v (.int .i64 0)] (hnew σ 6 (List.replicate ((k2 : Int) : Int).toNat [.str (⟨#[]⟩ : ByteArray), .bool false, .nils, .int .i64 0, .int .i64 0, .nils]).flatten)).bind (laws_toCodeFunS.A0 k)) else none) := by
  kernel_rfl
theorem laws_toCodeFunS.L0_step (k m : Nat) (a1 : V) (a2 : V) (n3 : Int) (σ : Heap) : laws_toCodeFunS.L0 k (m + 1) [.v a1, .v a2, .v (.int .i64 n3)] σ = ((vlen a1).bind fun k4 => bif decide (n3 < (k4 : Int)) then ((vidx 6 a1 n3).bind fun p5 => (rdc σ p5.1 p5.2 6).bind fun l6 => uncons l6 fun c7 l8 => castStr c7 fun s9 => uncons l8 fun c10 l11 => castBool c10 fun b12 => uncons l11 fun c13 l14 => uncons l14 fun c15 l16 => castInt .i64 c15 fun n17 => uncons l16 fun c18 l19 => castInt .i64 c18 fun n20 => uncons l19 fun c21 l22 => isNil l22 <| (hcall G k n_laws_toCodeFun [.agg [.str s9, .bool b12, c13, .int .i64 n17, .int .i64 n20, c21]] σ).bind fun q23 => castAgg q23.1 fun l24 => uncons l24 fun c25 l26 => castStr c25 fun s27 => uncons l26 fun c28 l29 => castBool c28 fun b30 => uncons l29 fun c31 l32 => uncons l32 fun c33 l34 => castInt .i64 c33 fun n35 => uncons l34 fun c36 l37 => castInt .i64 c36 fun n38 => uncons l37 fun c39 l40 => isNil l40 <| (vidx 6 a2 n3).bind fun p41 => (wrc q23.2 p41.1 p41.2 [.str s27, .bool b30, c31, .int .i64 n35, .int .i64 n38, c39]).bind fun h42 => laws_toCodeFunS.L0 k m [.v a1, .v a2, .v (.int .i64 (IntKind.wrap .i64 (n3 + 1)))] h42) else (some (.exit 0, [.bot, .v a2], σ))) := by
  kernel_rfl
theorem laws_toCodeFunS.A0_x0 (k : Nat) (t1 : T) (a2 : V) (σ : Heap) : laws_toCodeFunS.A0 k (.exit 0, [t1, .v a2], σ) = (some (a2, σ)) := by
  kernel_rfl

/-! loop.example/smithy/laws.toCodeObj: function 71 -/
theorem laws_toCodeObj.eq (k : Nat) (a1 : V) (a2 : V) (σ : Heap) : hcall G (k + 1) n_laws_toCodeObj [.agg [a1, a2]] σ = ((hcall G k n_laws_toCodeRefS [a1] σ).bind fun q3 => one q3.1 <| (hcall G k n_laws_toCodeFunS [a2] q3.2).bind fun q4 => one q4.1 <| some (.agg [q3.1, q4.1], q4.2)) := by
  kernel_rfl

/-! loop.example/smithy/laws.toLinkPart: function 34 -/
theorem laws_toLinkPart.eq (k : Nat) (s1 : ByteArray) (a2 : V) (a3 : V) (σ : Heap) : hcall G (k + 1) n_laws_toLinkPart [.agg [.str s1, a2, a3]] σ = ((hcall G k n_laws_toCodeObj [.agg [a2, a3]] σ).bind fun q4 => castAgg q4.1 fun l5 => uncons l5 fun c6 l7 => uncons l7 fun c8 l9 => isNil l9 <| some (.agg [.str s1, c6, c8], q4.2)) := by
  kernel_rfl

/-! loop.example/smithy/laws.toLinkPartS: function 9 -/
noncomputable def laws_toLinkPartS.L0 (k : Nat) : Nat → List T → Heap → Option (Ex × List T × Heap) := hloop (hx (G.env n_laws_toLinkPartS k) k 23 (subc (bodyOf Try.f9) [1, 1, 0, 1, 0, 0]) 0) 23 (G.msk n_laws_toLinkPartS 0).1 (G.msk n_laws_toLinkPartS 0).2
noncomputable def laws_toLinkPartS.A0 (k : Nat) : Ex × List T × Heap → Option (V × Heap) := fun r => aft (G.env n_laws_toLinkPartS k) k 23 (bodyOf Try.f9) [1, 1, 0, 1, 0] 0 (ck G.P Try.f9) r.1 (unpick 23 (G.msk n_laws_toLinkPartS 0).2 r.2.1) r.2.2
theorem laws_toLinkPartS.eq (k : Nat) (a1 : V) (σ : Heap) : hcall G (k + 1) n_laws_toLinkPartS [a1] σ = ((vlen a1).bind fun k2 => if 0 ≤ (k2 : Int) ∧ (k2 : Int) * 64 ≤ 2 ^ 46 ∧ (k2 : Int) ≤ 2 ^ 46 then ((laws_toLinkPartS.L0 k k [.v a1, .v (.sl σ.length 0 ((k2 : Int) : Int).toNat true), .v (.int .i64 0)] (hnew σ 3 (List.replicate ((k2 : Int) : Int).toNat [.str (⟨#[]⟩ : ByteArray), .nils, .nils]).flatten)).bind (laws_toLinkPartS.A0 k)) else none) := by
  kernel_rfl
theorem laws_toLinkPartS.L0_step (k m : Nat) (a1 : V) (a2 : V) (n3 : Int) (σ : Heap) : laws_toLinkPartS.L0 k (m + 1) [.v a1, .v a2, .v (.int .i64 n3)] σ = ((vlen a1).bind fun k4 => bif decide (n3 < (k4 : Int)) then ((vidx 3 a1 n3).bind fun p5 => (rdc σ p5.1 p5.2 3).bind fun l6 => uncons l6 fun c7 l8 => castStr c7 fun s9 => uncons l8 fun c10 l11 => uncons l11 fun c12 l13 => isNil l13 <| (hcall G k n_laws_toLinkPart [.agg [.str s9, c10, c12]] σ).bind fun q14 => castAgg q14.1 fun l15 => uncons l15 fun c16 l17 => castStr c16 fun s18 => uncons l17 fun c19 l20 => uncons l20 fun c21 l22 => isNil l22 <| (vidx 3 a2 n3).bind fun p23 => (wrc q14.2 p23.1 p23.2 [.str s18, c19, c21]).bind fun h24 => laws_toLinkPartS.L0 k m [.v a1, .v a2, .v (.int .i64 (IntKind.wrap .i64 (n3 + 1)))] h24) else (some (.exit 0, [.bot, .v a2], σ))) := by
  kernel_rfl
theorem laws_toLinkPartS.A0_x0 (k : Nat) (t1 : T) (a2 : V) (σ : Heap) : laws_toLinkPartS.A0 k (.exit 0, [t1, .v a2], σ) = (some (a2, σ)) := by
  kernel_rfl

/-! slices.IndexFunc[[]loop.example/smithy/impl.CodeIns,loop.example/smithy/impl.CodeIns]: function 141 -/
noncomputable def slices_IndexFunc_impl_CodeIns_impl_CodeIns.L0 (k : Nat) : Nat → List T → Heap → Option (Ex × List T × Heap) := hloop (hx (G.env n_slices_IndexFunc_impl_CodeIns_impl_CodeIns k) k 19 (subc (bodyOf Try.f141) [1, 0, 1, 0, 0]) 0) 19 (G.msk n_slices_IndexFunc_impl_CodeIns_impl_CodeIns 0).1 (G.msk n_slices_IndexFunc_impl_CodeIns_impl_CodeIns 0).2
noncomputable def slices_IndexFunc_impl_CodeIns_impl_CodeIns.A0 (k : Nat) : Ex × List T × Heap → Option (V × Heap) := fun r => aft (G.env n_slices_IndexFunc_impl_CodeIns_impl_CodeIns k) k 19 (bodyOf Try.f141) [1, 0, 1, 0] 0 (ck G.P Try.f141) r.1 (unpick 19 (G.msk n_slices_IndexFunc_impl_CodeIns_impl_CodeIns 0).2 r.2.1) r.2.2
theorem slices_IndexFunc_impl_CodeIns_impl_CodeIns.eq (k : Nat) (a1 : V) (a2 : V) (σ : Heap) : hcall G (k + 1) n_slices_IndexFunc_impl_CodeIns_impl_CodeIns [a1, a2] σ = ((vlen a1).bind fun k3 => (slices_IndexFunc_impl_CodeIns_impl_CodeIns.L0 k k [.v a1, .v a2, .v (.int .i64 (k3 : Int)), .v (.int .i64 0)] σ).bind (slices_IndexFunc_impl_CodeIns_impl_CodeIns.A0 k)) := by
  kernel_rfl
theorem slices_IndexFunc_impl_CodeIns_impl_CodeIns.L0_step (k m : Nat) (a1 : V) (a2 : V) (n3 : Int) (n4 : Int) (σ : Heap) : slices_IndexFunc_impl_CodeIns_impl_CodeIns.L0 k (m + 1) [.v a1, .v a2, .v (.int .i64 n3), .v (.int .i64 n4)] σ = (bif decide (n4 < n3) then ((vidx 2 a1 n4).bind fun p5 => (rdc σ p5.1 p5.2 2).bind fun l6 => uncons l6 fun c7 l8 => castInt .i64 c7 fun n9 => uncons l8 fun c10 l11 => castInt .i64 c10 fun n12 => isNil l11 <| castFn a2 fun f14 l15 => (hcall G k f14 ([.agg [.int .i64 n9, .int .i64 n12]] ++ l15) σ).bind fun q13 => castBool q13.1 fun b16 => bif b16 then (some (.ret, [.v (.int .i64 n4)], q13.2)) else (slices_IndexFunc_impl_CodeIns_impl_CodeIns.L0 k m [.v a1, .v a2, .v (.int .i64 n3), .v (.int .i64 (IntKind.wrap .i64 (n4 + 1)))] q13.2)) else (some (.exit 0, [.bot], σ))) := by
  kernel_rfl
theorem slices_IndexFunc_impl_CodeIns_impl_CodeIns.A0_x0 (k : Nat) (t1 : T) (σ : Heap) : slices_IndexFunc_impl_CodeIns_impl_CodeIns.A0 k (.exit 0, [t1], σ) = (some (.int .i64 (-1), σ)) := by
  kernel_rfl
theorem slices_IndexFunc_impl_CodeIns_impl_CodeIns.A0_ret (k : Nat) (n1 : Int) (σ : Heap) : slices_IndexFunc_impl_CodeIns_impl_CodeIns.A0 k (.ret, [.v (.int .i64 n1)], σ) = (some (.int .i64 n1, σ)) := by
  kernel_rfl

/-! slices.ContainsFunc[[]loop.example/smithy/impl.CodeIns,loop.example/smithy/impl.CodeIns]: function 106 -/
theorem slices_ContainsFunc_impl_CodeIns_impl_CodeIns.eq (k : Nat) (a1 : V) (a2 : V) (σ : Heap) : hcall G (k + 1) n_slices_ContainsFunc_impl_CodeIns_impl_CodeIns [a1, a2] σ = ((hcall G k n_slices_IndexFunc_impl_CodeIns_impl_CodeIns [a1, a2] σ).bind fun q3 => castInt .i64 q3.1 fun n4 => some (.bool (decide (0 ≤ n4)), q3.2)) := by
  kernel_rfl

/-! loop.example/smithy/impl.inRange: function 135 -/
theorem impl_inRange.eq (k : Nat) (n1 : Int) (n2 : Int) (n3 : Int) (σ : Heap) : hcall G (k + 1) n_impl_inRange [.int .i64 n1, .int .i64 n2, .int .i64 n3] σ = (bif decide (n2 ≤ n1) then (some (.bool (decide (n1 ≤ n3)), σ)) else (some (.bool false, σ))) := by
  kernel_rfl

/-! slices.Index[[]string,string]: function 90 -/
noncomputable def slices_Index_string_string.L0 (k : Nat) : Nat → List T → Heap → Option (Ex × List T × Heap) := hloop (hx (G.env n_slices_Index_string_string k) k 19 (subc (bodyOf Try.f90) [1, 0, 1, 0, 0]) 0) 19 (G.msk n_slices_Index_string_string 0).1 (G.msk n_slices_Index_string_string 0).2
noncomputable def slices_Index_string_string.A0 (k : Nat) : Ex × List T × Heap → Option (V × Heap) := fun r => aft (G.env n_slices_Index_string_string k) k 19 (bodyOf Try.f90) [1, 0, 1, 0] 0 (ck G.P Try.f90) r.1 (unpick 19 (G.msk n_slices_Index_string_string 0).2 r.2.1) r.2.2
theorem slices_Index_string_string.eq (k : Nat) (a1 : V) (s2 : ByteArray) (σ : Heap) : hcall G (k + 1) n_slices_Index_string_string [a1, .str s2] σ = ((vlen a1).bind fun k3 => (slices_Index_string_string.L0 k k [.v a1, .v (.str s2), .v (.int .i64 (k3 : Int)), .v (.int .i64 0)] σ).bind (slices_Index_string_string.A0 k)) := by
  kernel_rfl
theorem slices_Index_string_string.L0_step (k m : Nat) (a1 : V) (s2 : ByteArray) (n3 : Int) (n4 : Int) (σ : Heap) : slices_Index_string_string.L0 k (m + 1) [.v a1, .v (.str s2), .v (.int .i64 n3), .v (.int .i64 n4)] σ = (bif decide (n4 < n3) then ((vidx 1 a1 n4).bind fun p5 => (rdc σ p5.1 p5.2 1).bind fun l6 => uncons l6 fun c7 l8 => castStr c7 fun s9 => isNil l8 <| bif decide (s2 = s9) then (some (.ret, [.v (.int .i64 n4)], σ)) else (slices_Index_string_string.L0 k m [.v a1, .v (.str s2), .v (.int .i64 n3), .v (.int .i64 (IntKind.wrap .i64 (n4 + 1)))] σ)) else (some (.exit 0, [.bot], σ))) := by
  kernel_rfl
theorem slices_Index_string_string.A0_x0 (k : Nat) (t1 : T) (σ : Heap) : slices_Index_string_string.A0 k (.exit 0, [t1], σ) = (some (.int .i64 (-1), σ)) := by
  kernel_rfl
theorem slices_Index_string_string.A0_ret (k : Nat) (n1 : Int) (σ : Heap) : slices_Index_string_string.A0 k (.ret, [.v (.int .i64 n1)], σ) = (some (.int .i64 n1, σ)) := by
  kernel_rfl

/-! slices.Contains[[]string,string]: function 58 -/
theorem slices_Contains_string_string.eq (k : Nat) (a1 : V) (s2 : ByteArray) (σ : Heap) : hcall G (k + 1) n_slices_Contains_string_string [a1, .str s2] σ = ((hcall G k n_slices_Index_string_string [a1, .str s2] σ).bind fun q3 => castInt .i64 q3.1 fun n4 => some (.bool (decide (0 ≤ n4)), q3.2)) := by
  kernel_rfl

/-! loop.example/smithy/impl.isOwn: function 136 -/
theorem impl_isOwn.eq (k : Nat) (s1 : ByteArray) (σ : Heap) : hcall G (k + 1) n_impl_isOwn [.str s1] σ = ((hcall G k n_slices_Contains_string_string [(.sl σ.length 0 19 true), .str s1] (hnew σ 1 [.str (⟨#[117, 115, 101]⟩ : ByteArray), .str (⟨#[102, 117, 110]⟩ : ByteArray), .str (⟨#[112, 117, 98]⟩ : ByteArray), .str (⟨#[109, 97, 105, 110]⟩ : ByteArray), .str (⟨#[105, 110, 116]⟩ : ByteArray), .str (⟨#[98, 111, 111, 108]⟩ : ByteArray), .str (⟨#[114, 111, 119]⟩ : ByteArray), .str (⟨#[105, 102]⟩ : ByteArray), .str (⟨#[108, 101, 116]⟩ : ByteArray), .str (⟨#[116, 114, 117, 101]⟩ : ByteArray), .str (⟨#[102, 97, 108, 115, 101]⟩ : ByteArray), .str (⟨#[97, 110, 100]⟩ : ByteArray), .str (⟨#[111, 114]⟩ : ByteArray), .str (⟨#[110, 111, 116]⟩ : ByteArray), .str (⟨#[97, 116]⟩ : ByteArray), .str (⟨#[108, 101, 110]⟩ : ByteArray), .str (⟨#[112, 117, 116]⟩ : ByteArray), .str (⟨#[106, 111, 105, 110]⟩ : ByteArray), .str (⟨#[112, 114, 105, 110, 116]⟩ : ByteArray)])).bind fun q2 => castBool q2.1 fun b3 => some (.bool b3, q2.2)) := by
  kernel_rfl

/-! loop.example/smithy/impl.LexName: function 103 -/
noncomputable def impl_LexName.L0 (k : Nat) : Nat → List T → Heap → Option (Ex × List T × Heap) := hloop (hx (G.env n_impl_LexName k) k 28 (subc (bodyOf Try.f103) [1, 0, 1, 0, 0]) 0) 28 (G.msk n_impl_LexName 0).1 (G.msk n_impl_LexName 0).2
noncomputable def impl_LexName.A0 (k : Nat) : Ex × List T × Heap → Option (V × Heap) := fun r => aft (G.env n_impl_LexName k) k 28 (bodyOf Try.f103) [1, 0, 1, 0] 0 (ck G.P Try.f103) r.1 (unpick 28 (G.msk n_impl_LexName 0).2 r.2.1) r.2.2
theorem impl_LexName.eq (k : Nat) (s1 : ByteArray) (σ : Heap) : hcall G (k + 1) n_impl_LexName [.str s1] σ = ((impl_LexName.L0 k k [.v (.str s1), .v (.int .i64 (s1.size : Int)), .v (.int .i64 0)] σ).bind (impl_LexName.A0 k)) := by
  kernel_rfl
theorem impl_LexName.L0_step (k m : Nat) (s1 : ByteArray) (n2 : Int) (n3 : Int) (σ : Heap) : impl_LexName.L0 k (m + 1) [.v (.str s1), .v (.int .i64 n2), .v (.int .i64 n3)] σ = (bif decide (n3 < n2) then ((sbyte s1 n3).bind fun n4 => bif decide (n4 < 97) then (some (.ret, [.v (.str s1), .v (.bool false)], σ)) else ((sbyte s1 n3).bind fun n5 => bif decide (122 < n5) then (some (.ret, [.v (.str s1), .v (.bool false)], σ)) else (impl_LexName.L0 k m [.v (.str s1), .v (.int .i64 n2), .v (.int .i64 (IntKind.wrap .i64 (n3 + 1)))] σ))) else (some (.exit 0, [.v (.str s1), .bot], σ))) := by
  kernel_rfl
theorem impl_LexName.A0_x0 (k : Nat) (s1 : ByteArray) (t2 : T) (σ : Heap) : impl_LexName.A0 k (.exit 0, [.v (.str s1), t2], σ) = ((hcall G k n_impl_inRange [.int .i64 (s1.size : Int), .int .i64 1, .int .i64 8] σ).bind fun q3 => castBool q3.1 fun b4 => bif b4 then ((hcall G k n_impl_isOwn [.str s1] q3.2).bind fun q5 => castBool q5.1 fun b6 => some (.bool (!b6), q5.2)) else (some (.bool false, q3.2))) := by
  kernel_rfl
theorem impl_LexName.A0_ret (k : Nat) (t1 : T) (b2 : Bool) (σ : Heap) : impl_LexName.A0 k (.ret, [t1, .v (.bool b2)], σ) = (some (.bool b2, σ)) := by
  kernel_rfl

/-! slices.IndexFunc[[]int,int]: function 179 -/
noncomputable def slices_IndexFunc_int_int.L0 (k : Nat) : Nat → List T → Heap → Option (Ex × List T × Heap) := hloop (hx (G.env n_slices_IndexFunc_int_int k) k 19 (subc (bodyOf Try.f179) [1, 0, 1, 0, 0]) 0) 19 (G.msk n_slices_IndexFunc_int_int 0).1 (G.msk n_slices_IndexFunc_int_int 0).2
noncomputable def slices_IndexFunc_int_int.A0 (k : Nat) : Ex × List T × Heap → Option (V × Heap) := fun r => aft (G.env n_slices_IndexFunc_int_int k) k 19 (bodyOf Try.f179) [1, 0, 1, 0] 0 (ck G.P Try.f179) r.1 (unpick 19 (G.msk n_slices_IndexFunc_int_int 0).2 r.2.1) r.2.2
theorem slices_IndexFunc_int_int.eq (k : Nat) (a1 : V) (a2 : V) (σ : Heap) : hcall G (k + 1) n_slices_IndexFunc_int_int [a1, a2] σ = ((vlen a1).bind fun k3 => (slices_IndexFunc_int_int.L0 k k [.v a1, .v a2, .v (.int .i64 (k3 : Int)), .v (.int .i64 0)] σ).bind (slices_IndexFunc_int_int.A0 k)) := by
  kernel_rfl
theorem slices_IndexFunc_int_int.L0_step (k m : Nat) (a1 : V) (a2 : V) (n3 : Int) (n4 : Int) (σ : Heap) : slices_IndexFunc_int_int.L0 k (m + 1) [.v a1, .v a2, .v (.int .i64 n3), .v (.int .i64 n4)] σ = (bif decide (n4 < n3) then ((vidx 1 a1 n4).bind fun p5 => (rdc σ p5.1 p5.2 1).bind fun l6 => uncons l6 fun c7 l8 => castInt .i64 c7 fun n9 => isNil l8 <| castFn a2 fun f11 l12 => (hcall G k f11 ([.int .i64 n9] ++ l12) σ).bind fun q10 => castBool q10.1 fun b13 => bif b13 then (some (.ret, [.v (.int .i64 n4)], q10.2)) else (slices_IndexFunc_int_int.L0 k m [.v a1, .v a2, .v (.int .i64 n3), .v (.int .i64 (IntKind.wrap .i64 (n4 + 1)))] q10.2)) else (some (.exit 0, [.bot], σ))) := by
  kernel_rfl
theorem slices_IndexFunc_int_int.A0_x0 (k : Nat) (t1 : T) (σ : Heap) : slices_IndexFunc_int_int.A0 k (.exit 0, [t1], σ) = (some (.int .i64 (-1), σ)) := by
  kernel_rfl
theorem slices_IndexFunc_int_int.A0_ret (k : Nat) (n1 : Int) (σ : Heap) : slices_IndexFunc_int_int.A0 k (.ret, [.v (.int .i64 n1)], σ) = (some (.int .i64 n1, σ)) := by
  kernel_rfl

/-! slices.ContainsFunc[[]int,int]: function 176 -/
theorem slices_ContainsFunc_int_int.eq (k : Nat) (a1 : V) (a2 : V) (σ : Heap) : hcall G (k + 1) n_slices_ContainsFunc_int_int [a1, a2] σ = ((hcall G k n_slices_IndexFunc_int_int [a1, a2] σ).bind fun q3 => castInt .i64 q3.1 fun n4 => some (.bool (decide (0 ≤ n4)), q3.2)) := by
  kernel_rfl

/-! loop.example/smithy/impl.isType: function 166 -/
theorem impl_isType.eq (k : Nat) (n1 : Int) (σ : Heap) : hcall G (k + 1) n_impl_isType [.int .i64 n1] σ = ((hcall G k n_impl_inRange [.int .i64 n1, .int .i64 1, .int .i64 3] σ).bind fun q2 => castBool q2.1 fun b3 => some (.bool b3, q2.2)) := by
  kernel_rfl

/-! loop.example/smithy/impl.areTypes$1: function 177 -/
theorem impl_areTypes_1.eq (k : Nat) (n1 : Int) (σ : Heap) : hcall G (k + 1) n_impl_areTypes_1 [.int .i64 n1] σ = ((hcall G k n_impl_isType [.int .i64 n1] σ).bind fun q2 => castBool q2.1 fun b3 => some (.bool (!b3), q2.2)) := by
  kernel_rfl

/-! loop.example/smithy/impl.areTypes: function 165 -/
theorem impl_areTypes.eq (k : Nat) (a1 : V) (σ : Heap) : hcall G (k + 1) n_impl_areTypes [a1] σ = ((vlen a1).bind fun k2 => bif decide ((k2 : Int) ≤ 4) then ((hcall G k n_slices_ContainsFunc_int_int [a1, .fn n_impl_areTypes_1 []] σ).bind fun q3 => castBool q3.1 fun b4 => some (.bool (!b4), q3.2)) else (some (.bool false, σ))) := by
  kernel_rfl

/-! loop.example/smithy/impl.headOk: function 130 -/
theorem impl_headOk.eq (k : Nat) (s1 : ByteArray) (a2 : V) (n3 : Int) (n4 : Int) (σ : Heap) : hcall G (k + 1) n_impl_headOk [.str s1, a2, .int .i64 n3, .int .i64 n4] σ = ((hcall G k n_impl_LexName [.str s1] σ).bind fun q5 => castBool q5.1 fun b6 => bif b6 then ((hcall G k n_impl_areTypes [a2] q5.2).bind fun q7 => castBool q7.1 fun b8 => bif b8 then ((hcall G k n_impl_isType [.int .i64 n3] q7.2).bind fun q9 => castBool q9.1 fun b10 => bif b10 then ((hcall G k n_impl_inRange [.int .i64 n4, .int .i64 0, .int .i64 1000] q9.2).bind fun q11 => castBool q11.1 fun b12 => some (.bool b12, q11.2)) else (some (.bool false, q9.2))) else (some (.bool false, q7.2))) else (bif decide (s1 = (⟨#[109, 97, 105, 110]⟩ : ByteArray)) then ((hcall G k n_impl_areTypes [a2] q5.2).bind fun q13 => castBool q13.1 fun b14 => bif b14 then ((hcall G k n_impl_isType [.int .i64 n3] q13.2).bind fun q15 => castBool q15.1 fun b16 => bif b16 then ((hcall G k n_impl_inRange [.int .i64 n4, .int .i64 0, .int .i64 1000] q15.2).bind fun q17 => castBool q17.1 fun b18 => some (.bool b18, q17.2)) else (some (.bool false, q15.2))) else (some (.bool false, q13.2))) else (some (.bool false, q5.2)))) := by
  kernel_rfl

/-! loop.example/smithy/impl.isShort: function 167 -/
theorem impl_isShort.eq (k : Nat) (n1 : Int) (σ : Heap) : hcall G (k + 1) n_impl_isShort [.int .i64 n1] σ = ((hcall G k n_impl_inRange [.int .i64 n1, .int .i64 (-99999999999999999), .int .i64 99999999999999999] σ).bind fun q2 => castBool q2.1 fun b3 => some (.bool b3, q2.2)) := by
  kernel_rfl

/-! loop.example/smithy/impl.insOk: function 132 -/
theorem impl_insOk.eq (k : Nat) (n1 : Int) (n2 : Int) (σ : Heap) : hcall G (k + 1) n_impl_insOk [.agg [.int .i64 n1, .int .i64 n2]] σ = (bif decide (n1 = 1) then ((hcall G k n_impl_isShort [.int .i64 n2] σ).bind fun q3 => castBool q3.1 fun b4 => some (.bool b4, q3.2)) else (bif decide (n1 = 2) then ((hcall G k n_impl_inRange [.int .i64 n2, .int .i64 0, .int .i64 1] σ).bind fun q5 => castBool q5.1 fun b6 => some (.bool b6, q5.2)) else (bif decide (n1 = 9) then (some (.bool (decide (n2 = 0)), σ)) else ((hcall G k n_impl_inRange [.int .i64 n1, .int .i64 1, .int .i64 10] σ).bind fun q7 => castBool q7.1 fun b8 => bif b8 then ((hcall G k n_impl_inRange [.int .i64 n2, .int .i64 0, .int .i64 1000] q7.2).bind fun q9 => castBool q9.1 fun b10 => some (.bool b10, q9.2)) else (some (.bool false, q7.2)))))) := by
  kernel_rfl

/-! loop.example/smithy/impl.ObjOk$1: function 131 -/
theorem impl_ObjOk_1.eq (k : Nat) (n1 : Int) (n2 : Int) (σ : Heap) : hcall G (k + 1) n_impl_ObjOk_1 [.agg [.int .i64 n1, .int .i64 n2]] σ = ((hcall G k n_impl_insOk [.agg [.int .i64 n1, .int .i64 n2]] σ).bind fun q3 => castBool q3.1 fun b4 => some (.bool (!b4), q3.2)) := by
  kernel_rfl

/-! slices.IndexFunc[[]loop.example/smithy/impl.CodeRef,loop.example/smithy/impl.CodeRef]: function 168 -/
noncomputable def slices_IndexFunc_impl_CodeRef_impl_CodeRef.L0 (k : Nat) : Nat → List T → Heap → Option (Ex × List T × Heap) := hloop (hx (G.env n_slices_IndexFunc_impl_CodeRef_impl_CodeRef k) k 19 (subc (bodyOf Try.f168) [1, 0, 1, 0, 0]) 0) 19 (G.msk n_slices_IndexFunc_impl_CodeRef_impl_CodeRef 0).1 (G.msk n_slices_IndexFunc_impl_CodeRef_impl_CodeRef 0).2
noncomputable def slices_IndexFunc_impl_CodeRef_impl_CodeRef.A0 (k : Nat) : Ex × List T × Heap → Option (V × Heap) := fun r => aft (G.env n_slices_IndexFunc_impl_CodeRef_impl_CodeRef k) k 19 (bodyOf Try.f168) [1, 0, 1, 0] 0 (ck G.P Try.f168) r.1 (unpick 19 (G.msk n_slices_IndexFunc_impl_CodeRef_impl_CodeRef 0).2 r.2.1) r.2.2
theorem slices_IndexFunc_impl_CodeRef_impl_CodeRef.eq (k : Nat) (a1 : V) (a2 : V) (σ : Heap) : hcall G (k + 1) n_slices_IndexFunc_impl_CodeRef_impl_CodeRef [a1, a2] σ = ((vlen a1).bind fun k3 => (slices_IndexFunc_impl_CodeRef_impl_CodeRef.L0 k k [.v a1, .v a2, .v (.int .i64 (k3 : Int)), .v (.int .i64 0)] σ).bind (slices_IndexFunc_impl_CodeRef_impl_CodeRef.A0 k)) := by
  kernel_rfl
theorem slices_IndexFunc_impl_CodeRef_impl_CodeRef.L0_step (k m : Nat) (a1 : V) (a2 : V) (n3 : Int) (n4 : Int) (σ : Heap) : slices_IndexFunc_impl_CodeRef_impl_CodeRef.L0 k (m + 1) [.v a1, .v a2, .v (.int .i64 n3), .v (.int .i64 n4)] σ = (bif decide (n4 < n3) then ((vidx 2 a1 n4).bind fun p5 => (rdc σ p5.1 p5.2 2).bind fun l6 => uncons l6 fun c7 l8 => castStr c7 fun s9 => uncons l8 fun c10 l11 => castStr c10 fun s12 => isNil l11 <| castFn a2 fun f14 l15 => (hcall G k f14 ([.agg [.str s9, .str s12]] ++ l15) σ).bind fun q13 => castBool q13.1 fun b16 => bif b16 then (some (.ret, [.v (.int .i64 n4)], q13.2)) else (slices_IndexFunc_impl_CodeRef_impl_CodeRef.L0 k m [.v a1, .v a2, .v (.int .i64 n3), .v (.int .i64 (IntKind.wrap .i64 (n4 + 1)))] q13.2)) else (some (.exit 0, [.bot], σ))) := by
  kernel_rfl
theorem slices_IndexFunc_impl_CodeRef_impl_CodeRef.A0_x0 (k : Nat) (t1 : T) (σ : Heap) : slices_IndexFunc_impl_CodeRef_impl_CodeRef.A0 k (.exit 0, [t1], σ) = (some (.int .i64 (-1), σ)) := by
  kernel_rfl
theorem slices_IndexFunc_impl_CodeRef_impl_CodeRef.A0_ret (k : Nat) (n1 : Int) (σ : Heap) : slices_IndexFunc_impl_CodeRef_impl_CodeRef.A0 k (.ret, [.v (.int .i64 n1)], σ) = (some (.int .i64 n1, σ)) := by
  kernel_rfl

/-! slices.ContainsFunc[[]loop.example/smithy/impl.CodeRef,loop.example/smithy/impl.CodeRef]: function 133 -/
theorem slices_ContainsFunc_impl_CodeRef_impl_CodeRef.eq (k : Nat) (a1 : V) (a2 : V) (σ : Heap) : hcall G (k + 1) n_slices_ContainsFunc_impl_CodeRef_impl_CodeRef [a1, a2] σ = ((hcall G k n_slices_IndexFunc_impl_CodeRef_impl_CodeRef [a1, a2] σ).bind fun q3 => castInt .i64 q3.1 fun n4 => some (.bool (decide (0 ≤ n4)), q3.2)) := by
  kernel_rfl

/-! loop.example/smithy/impl.ObjOk$2: function 134 -/
theorem impl_ObjOk_2.eq (k : Nat) (s1 : ByteArray) (s2 : ByteArray) (σ : Heap) : hcall G (k + 1) n_impl_ObjOk_2 [.agg [.str s1, .str s2]] σ = ((hcall G k n_impl_LexName [.str s2] σ).bind fun q3 => castBool q3.1 fun b4 => bif !b4 then (some (.bool true, q3.2)) else (bif !decide (s1 = (⟨#[]⟩ : ByteArray)) then ((hcall G k n_impl_LexName [.str s1] q3.2).bind fun q5 => castBool q5.1 fun b6 => some (.bool (!b6), q5.2)) else (some (.bool false, q3.2)))) := by
  kernel_rfl

/-! loop.example/smithy/impl.ObjOk: function 102 -/
noncomputable def impl_ObjOk.L0 (k : Nat) : Nat → List T → Heap → Option (Ex × List T × Heap) := hloop (hx (G.env n_impl_ObjOk k) k 54 (subc (bodyOf Try.f102) [1, 1, 0, 1, 0, 0]) 0) 54 (G.msk n_impl_ObjOk 0).1 (G.msk n_impl_ObjOk 0).2
noncomputable def impl_ObjOk.A0 (k : Nat) : Ex × List T × Heap → Option (V × Heap) := fun r => aft (G.env n_impl_ObjOk k) k 54 (bodyOf Try.f102) [1, 1, 0, 1, 0] 0 (ck G.P Try.f102) r.1 (unpick 54 (G.msk n_impl_ObjOk 0).2 r.2.1) r.2.2
theorem impl_ObjOk.eq (k : Nat) (a1 : V) (a2 : V) (σ : Heap) : hcall G (k + 1) n_impl_ObjOk [.agg [a1, a2]] σ = ((vlen a2).bind fun k3 => (impl_ObjOk.L0 k k [.box [a1, a2], .v (.int .i64 0), .v a2, .v (.int .i64 (k3 : Int)), .v (.int .i64 0)] σ).bind (impl_ObjOk.A0 k)) := by
  kernel_rfl
theorem impl_ObjOk.L0_step (k m : Nat) (a1 : V) (a2 : V) (n3 : Int) (a4 : V) (n5 : Int) (n6 : Int) (σ : Heap) : impl_ObjOk.L0 k (m + 1) [.box [a1, a2], .v (.int .i64 n3), .v a4, .v (.int .i64 n5), .v (.int .i64 n6)] σ = (bif decide (n6 < n5) then ((vidx 6 a4 n6).bind fun p7 => (rdc σ p7.1 p7.2 6).bind fun l8 => uncons l8 fun c9 l10 => castStr c9 fun s11 => uncons l10 fun c12 l13 => castBool c12 fun b14 => uncons l13 fun c15 l16 => uncons l16 fun c17 l18 => castInt .i64 c17 fun n19 => uncons l18 fun c20 l21 => castInt .i64 c20 fun n22 => uncons l21 fun c23 l24 => isNil l24 <| (vlen c23).bind fun k25 => (hcall G k n_impl_headOk [.str s11, c15, .int .i64 n19, .int .i64 n22] σ).bind fun q26 => castBool q26.1 fun b27 => bif !b27 then (some (.ret, [.box [a1, a2], .v (.bool false), .v (.int .i64 (IntKind.wrap .i64 (n3 + (k25 : Int))))], q26.2)) else ((hcall G k n_slices_ContainsFunc_impl_CodeIns_impl_CodeIns [c23, .fn n_impl_ObjOk_1 []] q26.2).bind fun q28 => castBool q28.1 fun b29 => bif b29 then (some (.ret, [.box [a1, a2], .v (.bool false), .v (.int .i64 (IntKind.wrap .i64 (n3 + (k25 : Int))))], q28.2)) else (impl_ObjOk.L0 k m [.box [a1, a2], .v (.int .i64 (IntKind.wrap .i64 (n3 + (k25 : Int)))), .v a4, .v (.int .i64 n5), .v (.int .i64 (IntKind.wrap .i64 (n6 + 1)))] q28.2))) else (some (.exit 0, [.box [a1, a2], .bot, .v (.int .i64 n3)], σ))) := by
  kernel_rfl
theorem impl_ObjOk.A0_x0 (k : Nat) (a1 : V) (a2 : V) (t3 : T) (n4 : Int) (σ : Heap) : impl_ObjOk.A0 k (.exit 0, [.box [a1, a2], t3, .v (.int .i64 n4)], σ) = ((vlen a1).bind fun k5 => bif decide ((k5 : Int) ≤ 40) then ((vlen a2).bind fun k6 => bif decide ((k6 : Int) ≤ 9) then (bif decide (n4 ≤ 460) then ((hcall G k n_slices_ContainsFunc_impl_CodeRef_impl_CodeRef [a1, .fn n_impl_ObjOk_2 []] σ).bind fun q7 => castBool q7.1 fun b8 => some (.bool (!b8), q7.2)) else (some (.bool false, σ))) else (some (.bool false, σ))) else (some (.bool false, σ))) := by
  kernel_rfl
theorem impl_ObjOk.A0_ret (k : Nat) (t1 : T) (b2 : Bool) (t3 : T) (σ : Heap) : impl_ObjOk.A0 k (.ret, [t1, .v (.bool b2), t3], σ) = (some (.bool b2, σ)) := by
  kernel_rfl

/-! slices.IndexFunc[[]loop.example/smithy/impl.LinkPart,loop.example/smithy/impl.LinkPart]: function 137 -/
noncomputable def slices_IndexFunc_impl_LinkPart_impl_LinkPart.L0 (k : Nat) : Nat → List T → Heap → Option (Ex × List T × Heap) := hloop (hx (G.env n_slices_IndexFunc_impl_LinkPart_impl_LinkPart k) k 19 (subc (bodyOf Try.f137) [1, 0, 1, 0, 0]) 0) 19 (G.msk n_slices_IndexFunc_impl_LinkPart_impl_LinkPart 0).1 (G.msk n_slices_IndexFunc_impl_LinkPart_impl_LinkPart 0).2
noncomputable def slices_IndexFunc_impl_LinkPart_impl_LinkPart.A0 (k : Nat) : Ex × List T × Heap → Option (V × Heap) := fun r => aft (G.env n_slices_IndexFunc_impl_LinkPart_impl_LinkPart k) k 19 (bodyOf Try.f137) [1, 0, 1, 0] 0 (ck G.P Try.f137) r.1 (unpick 19 (G.msk n_slices_IndexFunc_impl_LinkPart_impl_LinkPart 0).2 r.2.1) r.2.2
theorem slices_IndexFunc_impl_LinkPart_impl_LinkPart.eq (k : Nat) (a1 : V) (a2 : V) (σ : Heap) : hcall G (k + 1) n_slices_IndexFunc_impl_LinkPart_impl_LinkPart [a1, a2] σ = ((vlen a1).bind fun k3 => (slices_IndexFunc_impl_LinkPart_impl_LinkPart.L0 k k [.v a1, .v a2, .v (.int .i64 (k3 : Int)), .v (.int .i64 0)] σ).bind (slices_IndexFunc_impl_LinkPart_impl_LinkPart.A0 k)) := by
  kernel_rfl
theorem slices_IndexFunc_impl_LinkPart_impl_LinkPart.L0_step (k m : Nat) (a1 : V) (a2 : V) (n3 : Int) (n4 : Int) (σ : Heap) : slices_IndexFunc_impl_LinkPart_impl_LinkPart.L0 k (m + 1) [.v a1, .v a2, .v (.int .i64 n3), .v (.int .i64 n4)] σ = (bif decide (n4 < n3) then ((vidx 3 a1 n4).bind fun p5 => (rdc σ p5.1 p5.2 3).bind fun l6 => uncons l6 fun c7 l8 => castStr c7 fun s9 => uncons l8 fun c10 l11 => uncons l11 fun c12 l13 => isNil l13 <| castFn a2 fun f15 l16 => (hcall G k f15 ([.agg [.str s9, c10, c12]] ++ l16) σ).bind fun q14 => castBool q14.1 fun b17 => bif b17 then (some (.ret, [.v (.int .i64 n4)], q14.2)) else (slices_IndexFunc_impl_LinkPart_impl_LinkPart.L0 k m [.v a1, .v a2, .v (.int .i64 n3), .v (.int .i64 (IntKind.wrap .i64 (n4 + 1)))] q14.2)) else (some (.exit 0, [.bot], σ))) := by
  kernel_rfl
theorem slices_IndexFunc_impl_LinkPart_impl_LinkPart.A0_x0 (k : Nat) (t1 : T) (σ : Heap) : slices_IndexFunc_impl_LinkPart_impl_LinkPart.A0 k (.exit 0, [t1], σ) = (some (.int .i64 (-1), σ)) := by
  kernel_rfl
theorem slices_IndexFunc_impl_LinkPart_impl_LinkPart.A0_ret (k : Nat) (n1 : Int) (σ : Heap) : slices_IndexFunc_impl_LinkPart_impl_LinkPart.A0 k (.ret, [.v (.int .i64 n1)], σ) = (some (.int .i64 n1, σ)) := by
  kernel_rfl

/-! loop.example/smithy/impl.partAt$1: function 138 -/
theorem impl_partAt_1.eq (k : Nat) (s1 : ByteArray) (a2 : V) (a3 : V) (a4 : V) (σ : Heap) : hcall G (k + 1) n_impl_partAt_1 [.agg [.str s1, a2, a3], a4] σ = (castPtr a4 fun r5 o6 => (rdc σ r5 o6 1).bind fun l7 => uncons l7 fun c8 l9 => castStr c8 fun s10 => isNil l9 <| some (.bool (decide (s1 = s10)), σ)) := by
  kernel_rfl

/-! loop.example/smithy/impl.partAt: function 104 -/
theorem impl_partAt.eq (k : Nat) (a1 : V) (s2 : ByteArray) (σ : Heap) : hcall G (k + 1) n_impl_partAt [a1, .str s2] σ = ((hcall G k n_slices_IndexFunc_impl_LinkPart_impl_LinkPart [a1, .fn n_impl_partAt_1 [.ptr σ.length 0]] (hnew σ 1 [.str s2])).bind fun q3 => castInt .i64 q3.1 fun n4 => some (.int .i64 n4, q3.2)) := by
  kernel_rfl

/-! slices.IndexFunc[[]loop.example/smithy/impl.CodeFun,loop.example/smithy/impl.CodeFun]: function 139 -/
noncomputable def slices_IndexFunc_impl_CodeFun_impl_CodeFun.L0 (k : Nat) : Nat → List T → Heap → Option (Ex × List T × Heap) := hloop (hx (G.env n_slices_IndexFunc_impl_CodeFun_impl_CodeFun k) k 19 (subc (bodyOf Try.f139) [1, 0, 1, 0, 0]) 0) 19 (G.msk n_slices_IndexFunc_impl_CodeFun_impl_CodeFun 0).1 (G.msk n_slices_IndexFunc_impl_CodeFun_impl_CodeFun 0).2
noncomputable def slices_IndexFunc_impl_CodeFun_impl_CodeFun.A0 (k : Nat) : Ex × List T × Heap → Option (V × Heap) := fun r => aft (G.env n_slices_IndexFunc_impl_CodeFun_impl_CodeFun k) k 19 (bodyOf Try.f139) [1, 0, 1, 0] 0 (ck G.P Try.f139) r.1 (unpick 19 (G.msk n_slices_IndexFunc_impl_CodeFun_impl_CodeFun 0).2 r.2.1) r.2.2
theorem slices_IndexFunc_impl_CodeFun_impl_CodeFun.eq (k : Nat) (a1 : V) (a2 : V) (σ : Heap) : hcall G (k + 1) n_slices_IndexFunc_impl_CodeFun_impl_CodeFun [a1, a2] σ = ((vlen a1).bind fun k3 => (slices_IndexFunc_impl_CodeFun_impl_CodeFun.L0 k k [.v a1, .v a2, .v (.int .i64 (k3 : Int)), .v (.int .i64 0)] σ).bind (slices_IndexFunc_impl_CodeFun_impl_CodeFun.A0 k)) := by
  kernel_rfl
theorem slices_IndexFunc_impl_CodeFun_impl_CodeFun.L0_step (k m : Nat) (a1 : V) (a2 : V) (n3 : Int) (n4 : Int) (σ : Heap) : slices_IndexFunc_impl_CodeFun_impl_CodeFun.L0 k (m + 1) [.v a1, .v a2, .v (.int .i64 n3), .v (.int .i64 n4)] σ = (bif decide (n4 < n3) then ((vidx 6 a1 n4).bind fun p5 => (rdc σ p5.1 p5.2 6).bind fun l6 => uncons l6 fun c7 l8 => castStr c7 fun s9 => uncons l8 fun c10 l11 => castBool c10 fun b12 => uncons l11 fun c13 l14 => uncons l14 fun c15 l16 => castInt .i64 c15 fun n17 => uncons l16 fun c18 l19 => castInt .i64 c18 fun n20 => uncons l19 fun c21 l22 => isNil l22 <| castFn a2 fun f24 l25 => (hcall G k f24 ([.agg [.str s9, .bool b12, c13, .int .i64 n17, .int .i64 n20, c21]] ++ l25) σ).bind fun q23 => castBool q23.1 fun b26 => bif b26 then (some (.ret, [.v (.int .i64 n4)], q23.2)) else (slices_IndexFunc_impl_CodeFun_impl_CodeFun.L0 k m [.v a1, .v a2, .v (.int .i64 n3), .v (.int .i64 (IntKind.wrap .i64 (n4 + 1)))] q23.2)) else (some (.exit 0, [.bot], σ))) := by
  kernel_rfl
theorem slices_IndexFunc_impl_CodeFun_impl_CodeFun.A0_x0 (k : Nat) (t1 : T) (σ : Heap) : slices_IndexFunc_impl_CodeFun_impl_CodeFun.A0 k (.exit 0, [t1], σ) = (some (.int .i64 (-1), σ)) := by
  kernel_rfl
theorem slices_IndexFunc_impl_CodeFun_impl_CodeFun.A0_ret (k : Nat) (n1 : Int) (σ : Heap) : slices_IndexFunc_impl_CodeFun_impl_CodeFun.A0 k (.ret, [.v (.int .i64 n1)], σ) = (some (.int .i64 n1, σ)) := by
  kernel_rfl

/-! loop.example/smithy/impl.funIn$1: function 140 -/
theorem impl_funIn_1.eq (k : Nat) (s1 : ByteArray) (b2 : Bool) (a3 : V) (n4 : Int) (n5 : Int) (a6 : V) (a7 : V) (σ : Heap) : hcall G (k + 1) n_impl_funIn_1 [.agg [.str s1, .bool b2, a3, .int .i64 n4, .int .i64 n5, a6], a7] σ = (castPtr a7 fun r8 o9 => (rdc σ r8 o9 1).bind fun l10 => uncons l10 fun c11 l12 => castStr c11 fun s13 => isNil l12 <| some (.bool (decide (s1 = s13)), σ)) := by
  kernel_rfl

/-! loop.example/smithy/impl.funIn: function 105 -/
theorem impl_funIn.eq (k : Nat) (a1 : V) (a2 : V) (s3 : ByteArray) (σ : Heap) : hcall G (k + 1) n_impl_funIn [.agg [a1, a2], .str s3] σ = ((hcall G k n_slices_IndexFunc_impl_CodeFun_impl_CodeFun [a2, .fn n_impl_funIn_1 [.ptr σ.length 0]] (hnew σ 1 [.str s3])).bind fun q4 => castInt .i64 q4.1 fun n5 => some (.int .i64 n5, q4.2)) := by
  kernel_rfl

/-! loop.example/smithy/impl.checkPart: function 72 -/
noncomputable def impl_checkPart.L0 (k : Nat) : Nat → List T → Heap → Option (Ex × List T × Heap) := hloop (hx (G.env n_impl_checkPart k) k 55 (subc (bodyOf Try.f72) [1, 1, 1, 0, 1, 0, 0]) 1) 55 (G.msk n_impl_checkPart 1).1 (G.msk n_impl_checkPart 1).2
noncomputable def impl_checkPart.A0 (k : Nat) : Ex × List T × Heap → Option (V × Heap) := fun r => aft (G.env n_impl_checkPart k) k 55 (bodyOf Try.f72) [1, 1, 1, 0, 1, 0] 0 (ck G.P Try.f72) r.1 (unpick 55 (G.msk n_impl_checkPart 1).2 r.2.1) r.2.2
theorem impl_checkPart.eq (k : Nat) (a1 : V) (n2 : Int) (σ : Heap) : hcall G (k + 1) n_impl_checkPart [a1, .int .i64 n2] σ = ((vidx 3 a1 n2).bind fun p3 => (rdc σ p3.1 p3.2 3).bind fun l4 => uncons l4 fun c5 l6 => castStr c5 fun s7 => uncons l6 fun c8 l9 => uncons l9 fun c10 l11 => isNil l11 <| (hcall G k n_impl_ObjOk [.agg [c8, c10]] σ).bind fun q12 => castBool q12.1 fun b13 => bif !b13 then (some (.agg [.int .i64 2, .int .i64 n2, .int .i64 0], q12.2)) else ((hcall G k n_impl_LexName [.str s7] q12.2).bind fun q14 => castBool q14.1 fun b15 => bif !b15 then (some (.agg [.int .i64 2, .int .i64 n2, .int .i64 0], q14.2)) else ((hcall G k n_impl_partAt [a1, .str s7] q14.2).bind fun q16 => castInt .i64 q16.1 fun n17 => bif decide (n17 < n2) then (some (.agg [.int .i64 3, .int .i64 n2, .int .i64 0], q16.2)) else ((vlen c10).bind fun k18 => (impl_checkPart.L0 k k [.v (.int .i64 n2), .box [.int .i64 0, .int .i64 0, .int .i64 0], .box [.str s7, c8, c10], .v c10, .v (.int .i64 (k18 : Int)), .v (.int .i64 0)] q16.2).bind (impl_checkPart.A0 k))))) := by
  kernel_rfl
theorem impl_checkPart.L0_step (k m : Nat) (n1 : Int) (n2 : Int) (n3 : Int) (n4 : Int) (s5 : ByteArray) (a6 : V) (a7 : V) (a8 : V) (n9 : Int) (n10 : Int) (σ : Heap) : impl_checkPart.L0 k (m + 1) [.v (.int .i64 n1), .box [.int .i64 n2, .int .i64 n3, .int .i64 n4], .box [.str s5, a6, a7], .v a8, .v (.int .i64 n9), .v (.int .i64 n10)] σ = (bif decide (n10 < n9) then ((vidx 6 a8 n10).bind fun p11 => (rdc σ p11.1 p11.2 6).bind fun l12 => uncons l12 fun c13 l14 => castStr c13 fun s15 => uncons l14 fun c16 l17 => castBool c16 fun b18 => uncons l17 fun c19 l20 => uncons l20 fun c21 l22 => castInt .i64 c21 fun n23 => uncons l22 fun c24 l25 => castInt .i64 c24 fun n26 => uncons l25 fun c27 l28 => isNil l28 <| (hcall G k n_impl_funIn [.agg [a6, a7], .str s15] σ).bind fun q29 => castInt .i64 q29.1 fun n30 => bif decide (n30 < n10) then (some (.ret, [.box [.int .i64 3, .int .i64 n1, .int .i64 n10]], q29.2)) else (impl_checkPart.L0 k m [.v (.int .i64 n1), .box [.int .i64 n2, .int .i64 n3, .int .i64 n4], .box [.str s5, a6, a7], .v a8, .v (.int .i64 n9), .v (.int .i64 (IntKind.wrap .i64 (n10 + 1)))] q29.2)) else (some (.exit 1, [.box [.int .i64 n2, .int .i64 n3, .int .i64 n4]], σ))) := by
  kernel_rfl
theorem impl_checkPart.A0_x1 (k : Nat) (n1 : Int) (n2 : Int) (n3 : Int) (σ : Heap) : impl_checkPart.A0 k (.exit 1, [.box [.int .i64 n1, .int .i64 n2, .int .i64 n3]], σ) = (some (.agg [.int .i64 0, .int .i64 0, .int .i64 0], σ)) := by
  kernel_rfl
theorem impl_checkPart.A0_ret (k : Nat) (n1 : Int) (n2 : Int) (n3 : Int) (σ : Heap) : impl_checkPart.A0 k (.ret, [.box [.int .i64 n1, .int .i64 n2, .int .i64 n3]], σ) = (some (.agg [.int .i64 n1, .int .i64 n2, .int .i64 n3], σ)) := by
  kernel_rfl

/-! loop.example/smithy/impl.checkRefs$1: function 107 -/
theorem impl_checkRefs_1.eq (k : Nat) (n1 : Int) (n2 : Int) (a3 : V) (σ : Heap) : hcall G (k + 1) n_impl_checkRefs_1 [.agg [.int .i64 n1, .int .i64 n2], a3] σ = (bif decide (n1 = 8) then (castPtr a3 fun r4 o5 => (rdc σ r4 (o5 + 1 + 0) 1).bind fun l6 => uncons l6 fun c7 l8 => isNil l8 <| (vlen c7).bind fun k9 => some (.bool (decide ((k9 : Int) ≤ n2)), σ)) else (some (.bool false, σ))) := by
  kernel_rfl

/-! loop.example/smithy/impl.checkRefs: function 73 -/
noncomputable def impl_checkRefs.L1 (k : Nat) : Nat → List T → Heap → Option (Ex × List T × Heap) := hloop (hx (G.env n_impl_checkRefs k) k 91 (subc (bodyOf Try.f73) [1, 1, 1, 0, 1, 0, 0]) 3) 91 (G.msk n_impl_checkRefs 3).1 (G.msk n_impl_checkRefs 3).2
noncomputable def impl_checkRefs.L0 (k : Nat) : Nat → List T → Heap → Option (Ex × List T × Heap) := hloop (hx (G.env n_impl_checkRefs k) k 91 (subc (bodyOf Try.f73) [1, 1, 0, 1, 0, 0]) 0) 91 (G.msk n_impl_checkRefs 0).1 (G.msk n_impl_checkRefs 0).2
noncomputable def impl_checkRefs.A0 (k : Nat) : Ex × List T × Heap → Option (V × Heap) := fun r => aft (G.env n_impl_checkRefs k) k 91 (bodyOf Try.f73) [1, 1, 0, 1, 0] 0 (ck G.P Try.f73) r.1 (unpick 91 (G.msk n_impl_checkRefs 0).2 r.2.1) r.2.2
noncomputable def impl_checkRefs.A1 (k : Nat) : Ex × List T × Heap → Option (V × Heap) := fun r => aft (G.env n_impl_checkRefs k) k 91 (bodyOf Try.f73) [1, 1, 1, 0, 1, 0] 0 (ck G.P Try.f73) r.1 (unpick 91 (G.msk n_impl_checkRefs 3).2 r.2.1) r.2.2
theorem impl_checkRefs.eq (k : Nat) (a1 : V) (n2 : Int) (σ : Heap) : hcall G (k + 1) n_impl_checkRefs [a1, .int .i64 n2] σ = ((vidx 3 a1 n2).bind fun p3 => (rdc σ p3.1 p3.2 3).bind fun l4 => uncons l4 fun c5 l6 => castStr c5 fun s7 => uncons l6 fun c8 l9 => uncons l9 fun c10 l11 => isNil l11 <| (wrc (hnew σ 3 [.str (⟨#[]⟩ : ByteArray), .nils, .nils]) σ.length 0 [.str s7, c8, c10]).bind fun h12 => (rdc h12 σ.length (0 + 1 + 0) 1).bind fun l13 => uncons l13 fun c14 l15 => isNil l15 <| (vlen c14).bind fun k16 => (impl_checkRefs.L0 k k [.v a1, .v (.int .i64 n2), .box [.int .i64 0, .int .i64 0, .int .i64 0], .v (.ptr σ.length 0), .v c14, .v (.int .i64 (k16 : Int)), .v (.int .i64 0)] h12).bind (impl_checkRefs.A0 k)) := by
  kernel_rfl
theorem impl_checkRefs.L0_step (k m : Nat) (a1 : V) (n2 : Int) (n3 : Int) (n4 : Int) (n5 : Int) (a6 : V) (a7 : V) (n8 : Int) (n9 : Int) (σ : Heap) : impl_checkRefs.L0 k (m + 1) [.v a1, .v (.int .i64 n2), .box [.int .i64 n3, .int .i64 n4, .int .i64 n5], .v a6, .v a7, .v (.int .i64 n8), .v (.int .i64 n9)] σ = (bif decide (n9 < n8) then ((vidx 2 a7 n9).bind fun p10 => (rdc σ p10.1 p10.2 2).bind fun l11 => uncons l11 fun c12 l13 => castStr c12 fun s14 => uncons l13 fun c15 l16 => castStr c15 fun s17 => isNil l16 <| bif !decide (s14 = (⟨#[]⟩ : ByteArray)) then ((hcall G k n_impl_partAt [a1, .str s14] σ).bind fun q18 => castInt .i64 q18.1 fun n19 => bif decide (n19 < 0) then (some (.ret, [.v (.int .i64 n2), .box [.int .i64 4, .int .i64 n2, .int .i64 n9], .v a6], q18.2)) else ((vidx 3 a1 n19).bind fun p20 => (rdc q18.2 p20.1 (p20.2 + 1) 2).bind fun l21 => uncons l21 fun c22 l23 => uncons l23 fun c24 l25 => isNil l25 <| (hcall G k n_impl_funIn [.agg [c22, c24], .str s17] q18.2).bind fun q26 => castInt .i64 q26.1 fun n27 => bif decide (n27 < 0) then (some (.ret, [.v (.int .i64 n2), .box [.int .i64 4, .int .i64 n2, .int .i64 n9], .v a6], q26.2)) else (bif !decide (s14 = (⟨#[]⟩ : ByteArray)) then ((vidx 3 a1 n19).bind fun p28 => (rdc q26.2 p28.1 (p28.2 + 1 + 1) 1).bind fun l29 => uncons l29 fun c30 l31 => isNil l31 <| (vidx 6 c30 n27).bind fun p32 => (rdc q26.2 p32.1 (p32.2 + 1) 1).bind fun l33 => uncons l33 fun c34 l35 => castBool c34 fun b36 => isNil l35 <| bif !b36 then (some (.ret, [.v (.int .i64 n2), .box [.int .i64 5, .int .i64 n2, .int .i64 n9], .v a6], q26.2)) else (impl_checkRefs.L0 k m [.v a1, .v (.int .i64 n2), .box [.int .i64 n3, .int .i64 n4, .int .i64 n5], .v a6, .v a7, .v (.int .i64 n8), .v (.int .i64 (IntKind.wrap .i64 (n9 + 1)))] q26.2)) else (impl_checkRefs.L0 k m [.v a1, .v (.int .i64 n2), .box [.int .i64 n3, .int .i64 n4, .int .i64 n5], .v a6, .v a7, .v (.int .i64 n8), .v (.int .i64 (IntKind.wrap .i64 (n9 + 1)))] q26.2)))) else (bif decide (n2 < 0) then (some (.ret, [.v (.int .i64 n2), .box [.int .i64 4, .int .i64 n2, .int .i64 n9], .v a6], σ)) else ((vidx 3 a1 n2).bind fun p37 => (rdc σ p37.1 (p37.2 + 1) 2).bind fun l38 => uncons l38 fun c39 l40 => uncons l40 fun c41 l42 => isNil l42 <| (hcall G k n_impl_funIn [.agg [c39, c41], .str s17] σ).bind fun q43 => castInt .i64 q43.1 fun n44 => bif decide (n44 < 0) then (some (.ret, [.v (.int .i64 n2), .box [.int .i64 4, .int .i64 n2, .int .i64 n9], .v a6], q43.2)) else (bif !decide (s14 = (⟨#[]⟩ : ByteArray)) then ((vidx 3 a1 n2).bind fun p45 => (rdc q43.2 p45.1 (p45.2 + 1 + 1) 1).bind fun l46 => uncons l46 fun c47 l48 => isNil l48 <| (vidx 6 c47 n44).bind fun p49 => (rdc q43.2 p49.1 (p49.2 + 1) 1).bind fun l50 => uncons l50 fun c51 l52 => castBool c51 fun b53 => isNil l52 <| bif !b53 then (some (.ret, [.v (.int .i64 n2), .box [.int .i64 5, .int .i64 n2, .int .i64 n9], .v a6], q43.2)) else (impl_checkRefs.L0 k m [.v a1, .v (.int .i64 n2), .box [.int .i64 n3, .int .i64 n4, .int .i64 n5], .v a6, .v a7, .v (.int .i64 n8), .v (.int .i64 (IntKind.wrap .i64 (n9 + 1)))] q43.2)) else (impl_checkRefs.L0 k m [.v a1, .v (.int .i64 n2), .box [.int .i64 n3, .int .i64 n4, .int .i64 n5], .v a6, .v a7, .v (.int .i64 n8), .v (.int .i64 (IntKind.wrap .i64 (n9 + 1)))] q43.2))))) else (some (.exit 0, [.v (.int .i64 n2), .box [.int .i64 n3, .int .i64 n4, .int .i64 n5], .v a6], σ))) := by
  kernel_rfl
theorem impl_checkRefs.A0_x0 (k : Nat) (n1 : Int) (n2 : Int) (n3 : Int) (n4 : Int) (a5 : V) (σ : Heap) : impl_checkRefs.A0 k (.exit 0, [.v (.int .i64 n1), .box [.int .i64 n2, .int .i64 n3, .int .i64 n4], .v a5], σ) = (castPtr a5 fun r6 o7 => (rdc σ r6 (o7 + 1 + 1) 1).bind fun l8 => uncons l8 fun c9 l10 => isNil l10 <| (vlen c9).bind fun k11 => (impl_checkRefs.L1 k k [.v (.int .i64 n1), .box [.int .i64 n2, .int .i64 n3, .int .i64 n4], .v a5, .v c9, .v (.int .i64 (k11 : Int)), .v (.int .i64 0)] σ).bind (impl_checkRefs.A1 k)) := by
  kernel_rfl
theorem impl_checkRefs.A0_ret (k : Nat) (t1 : T) (n2 : Int) (n3 : Int) (n4 : Int) (t5 : T) (σ : Heap) : impl_checkRefs.A0 k (.ret, [t1, .box [.int .i64 n2, .int .i64 n3, .int .i64 n4], t5], σ) = (some (.agg [.int .i64 n2, .int .i64 n3, .int .i64 n4], σ)) := by
  kernel_rfl
theorem impl_checkRefs.L1_step (k m : Nat) (n1 : Int) (n2 : Int) (n3 : Int) (n4 : Int) (a5 : V) (a6 : V) (n7 : Int) (n8 : Int) (σ : Heap) : impl_checkRefs.L1 k (m + 1) [.v (.int .i64 n1), .box [.int .i64 n2, .int .i64 n3, .int .i64 n4], .v a5, .v a6, .v (.int .i64 n7), .v (.int .i64 n8)] σ = (bif decide (n8 < n7) then ((vidx 6 a6 n8).bind fun p9 => (rdc σ p9.1 p9.2 6).bind fun l10 => uncons l10 fun c11 l12 => castStr c11 fun s13 => uncons l12 fun c14 l15 => castBool c14 fun b16 => uncons l15 fun c17 l18 => uncons l18 fun c19 l20 => castInt .i64 c19 fun n21 => uncons l20 fun c22 l23 => castInt .i64 c22 fun n24 => uncons l23 fun c25 l26 => isNil l26 <| (hcall G k n_slices_ContainsFunc_impl_CodeIns_impl_CodeIns [c25, .fn n_impl_checkRefs_1 [a5]] σ).bind fun q27 => castBool q27.1 fun b28 => bif b28 then (some (.ret, [.box [.int .i64 6, .int .i64 n1, .int .i64 n8]], q27.2)) else (impl_checkRefs.L1 k m [.v (.int .i64 n1), .box [.int .i64 n2, .int .i64 n3, .int .i64 n4], .v a5, .v a6, .v (.int .i64 n7), .v (.int .i64 (IntKind.wrap .i64 (n8 + 1)))] q27.2)) else (some (.exit 3, [.box [.int .i64 n2, .int .i64 n3, .int .i64 n4]], σ))) := by
  kernel_rfl
theorem impl_checkRefs.A1_x3 (k : Nat) (n1 : Int) (n2 : Int) (n3 : Int) (σ : Heap) : impl_checkRefs.A1 k (.exit 3, [.box [.int .i64 n1, .int .i64 n2, .int .i64 n3]], σ) = (some (.agg [.int .i64 0, .int .i64 0, .int .i64 0], σ)) := by
  kernel_rfl
theorem impl_checkRefs.A1_ret (k : Nat) (n1 : Int) (n2 : Int) (n3 : Int) (σ : Heap) : impl_checkRefs.A1 k (.ret, [.box [.int .i64 n1, .int .i64 n2, .int .i64 n3]], σ) = (some (.agg [.int .i64 n1, .int .i64 n2, .int .i64 n3], σ)) := by
  kernel_rfl

/-! loop.example/smithy/impl.LinkCheck: function 35 -/
noncomputable def impl_LinkCheck.L1 (k : Nat) : Nat → List T → Heap → Option (Ex × List T × Heap) := hloop (hx (G.env n_impl_LinkCheck k) k 31 (subc (bodyOf Try.f35) [1, 1, 0, 1, 0, 0, 1, 1, 0, 0, 1, 1, 0, 0]) 2) 31 (G.msk n_impl_LinkCheck 2).1 (G.msk n_impl_LinkCheck 2).2
noncomputable def impl_LinkCheck.L0 (k : Nat) : Nat → List T → Heap → Option (Ex × List T × Heap) := hloop (hx (G.env n_impl_LinkCheck k) k 31 (subc (bodyOf Try.f35) [1, 1, 0, 1, 0, 0]) 0) 31 (G.msk n_impl_LinkCheck 0).1 (G.msk n_impl_LinkCheck 0).2
noncomputable def impl_LinkCheck.A0 (k : Nat) : Ex × List T × Heap → Option (V × Heap) := fun r => aft (G.env n_impl_LinkCheck k) k 31 (bodyOf Try.f35) [1, 1, 0, 1, 0] 0 (ck G.P Try.f35) r.1 (unpick 31 (G.msk n_impl_LinkCheck 0).2 r.2.1) r.2.2
noncomputable def impl_LinkCheck.A1 (k m : Nat) : Ex × List T × Heap → Option (Ex × List T × Heap) := fun r => aft (G.env n_impl_LinkCheck k) k 31 (subc (bodyOf Try.f35) [1, 1, 0, 1, 0, 0]) [1, 1, 0, 0, 1, 1, 0] 0 (lk (impl_LinkCheck.L0 k m) (G.msk n_impl_LinkCheck 0).1 (G.msk n_impl_LinkCheck 0).2) r.1 (unpick 31 (G.msk n_impl_LinkCheck 2).2 r.2.1) r.2.2
theorem impl_LinkCheck.eq (k : Nat) (a1 : V) (σ : Heap) : hcall G (k + 1) n_impl_LinkCheck [a1] σ = ((vlen a1).bind fun k2 => bif decide (8 < (k2 : Int)) then (some (.agg [.int .i64 1, .int .i64 0, .int .i64 0], σ)) else ((impl_LinkCheck.L0 k k [.v a1, .box [.int .i64 0, .int .i64 0, .int .i64 0], .v (.agg [.fn n_impl_checkPart [], .fn n_impl_checkRefs []]), .v (.int .i64 0)] σ).bind (impl_LinkCheck.A0 k))) := by
  kernel_rfl
theorem impl_LinkCheck.L0_step (k m : Nat) (a1 : V) (n2 : Int) (n3 : Int) (n4 : Int) (a5 : V) (a6 : V) (n7 : Int) (σ : Heap) : impl_LinkCheck.L0 k (m + 1) [.v a1, .box [.int .i64 n2, .int .i64 n3, .int .i64 n4], .v (.agg [a5, a6]), .v (.int .i64 n7)] σ = (bif decide (n7 < 2) then ((aidx 2 [a5, a6] n7).bind fun a9 => (vlen a1).bind fun k10 => (impl_LinkCheck.L1 k k [.v a1, .box [.int .i64 n2, .int .i64 n3, .int .i64 n4], .v a9, .v (.agg [a5, a6]), .v (.int .i64 n7), .v (.int .i64 (k10 : Int)), .v (.int .i64 0)] σ).bind (impl_LinkCheck.A1 k m)) else (some (.exit 0, [.box [.int .i64 n2, .int .i64 n3, .int .i64 n4]], σ))) := by
  kernel_rfl
theorem impl_LinkCheck.A0_x0 (k : Nat) (n1 : Int) (n2 : Int) (n3 : Int) (σ : Heap) : impl_LinkCheck.A0 k (.exit 0, [.box [.int .i64 n1, .int .i64 n2, .int .i64 n3]], σ) = (some (.agg [.int .i64 0, .int .i64 0, .int .i64 0], σ)) := by
  kernel_rfl
theorem impl_LinkCheck.A0_ret (k : Nat) (n1 : Int) (n2 : Int) (n3 : Int) (σ : Heap) : impl_LinkCheck.A0 k (.ret, [.box [.int .i64 n1, .int .i64 n2, .int .i64 n3]], σ) = (some (.agg [.int .i64 n1, .int .i64 n2, .int .i64 n3], σ)) := by
  kernel_rfl
theorem impl_LinkCheck.L1_step (k m : Nat) (a1 : V) (n2 : Int) (n3 : Int) (n4 : Int) (a5 : V) (a6 : V) (a7 : V) (n8 : Int) (n9 : Int) (n10 : Int) (σ : Heap) : impl_LinkCheck.L1 k (m + 1) [.v a1, .box [.int .i64 n2, .int .i64 n3, .int .i64 n4], .v a5, .v (.agg [a6, a7]), .v (.int .i64 n8), .v (.int .i64 n9), .v (.int .i64 n10)] σ = (bif decide (n10 < n9) then (castFn a5 fun f12 l13 => (hcall G k f12 ([a1, .int .i64 n10] ++ l13) σ).bind fun q11 => castAgg q11.1 fun l14 => uncons l14 fun c15 l16 => castInt .i64 c15 fun n17 => uncons l16 fun c18 l19 => castInt .i64 c18 fun n20 => uncons l19 fun c21 l22 => castInt .i64 c21 fun n23 => isNil l22 <| bif !(decide (n17 = 0) && (decide (n20 = 0) && (decide (n23 = 0) && true))) then (some (.ret, [.v a1, .box [.int .i64 n17, .int .i64 n20, .int .i64 n23], .v (.agg [a6, a7]), .v (.int .i64 n8)], q11.2)) else (impl_LinkCheck.L1 k m [.v a1, .box [.int .i64 n2, .int .i64 n3, .int .i64 n4], .v a5, .v (.agg [a6, a7]), .v (.int .i64 n8), .v (.int .i64 n9), .v (.int .i64 (IntKind.wrap .i64 (n10 + 1)))] q11.2)) else (some (.exit 2, [.v a1, .box [.int .i64 n2, .int .i64 n3, .int .i64 n4], .v (.agg [a6, a7]), .v (.int .i64 n8)], σ))) := by
  kernel_rfl
theorem impl_LinkCheck.A1_x2 (k m : Nat) (a1 : V) (n2 : Int) (n3 : Int) (n4 : Int) (a5 : V) (a6 : V) (n7 : Int) (σ : Heap) : impl_LinkCheck.A1 k m (.exit 2, [.v a1, .box [.int .i64 n2, .int .i64 n3, .int .i64 n4], .v (.agg [a5, a6]), .v (.int .i64 n7)], σ) = (impl_LinkCheck.L0 k m [.v a1, .box [.int .i64 n2, .int .i64 n3, .int .i64 n4], .v (.agg [a5, a6]), .v (.int .i64 (IntKind.wrap .i64 (n7 + 1)))] σ) := by
  kernel_rfl
theorem impl_LinkCheck.A1_ret (k m : Nat) (t1 : T) (n2 : Int) (n3 : Int) (n4 : Int) (t5 : T) (t6 : T) (σ : Heap) : impl_LinkCheck.A1 k m (.ret, [t1, .box [.int .i64 n2, .int .i64 n3, .int .i64 n4], t5, t6], σ) = (some (.ret, [.box [.int .i64 n2, .int .i64 n3, .int .i64 n4]], σ)) := by
  kernel_rfl

/-! slices.Clone[[]int,int]: function 36 -/
theorem slices_Clone_int_int.eq (k : Nat) (a1 : V) (σ : Heap) : hcall G (k + 1) n_slices_Clone_int_int [a1] σ = ((nilS a1).bind fun b2 => bif b2 then (some (.nils, σ)) else ((vcells (hnew σ 1 []) 1 a1).bind fun p4 => (vappend 1 8 (hnew σ 1 []) (.sl σ.length 0 0 true) p4.1 p4.2).bind fun q3 => some (q3.1, q3.2))) := by
  kernel_rfl

/-! slices.Clone[[]loop.example/smithy/impl.CodeIns,loop.example/smithy/impl.CodeIns]: function 74 -/
theorem slices_Clone_impl_CodeIns_impl_CodeIns.eq (k : Nat) (a1 : V) (σ : Heap) : hcall G (k + 1) n_slices_Clone_impl_CodeIns_impl_CodeIns [a1] σ = ((nilS a1).bind fun b2 => bif b2 then (some (.nils, σ)) else ((vcells (hnew σ 2 []) 2 a1).bind fun p4 => (vappend 2 16 (hnew σ 2 []) (.sl σ.length 0 0 true) p4.1 p4.2).bind fun q3 => some (q3.1, q3.2))) := by
  kernel_rfl

/-! loop.example/smithy/impl.firstFun: function 108 -/
noncomputable def impl_firstFun.L0 (k : Nat) : Nat → List T → Heap → Option (Ex × List T × Heap) := hloop (hx (G.env n_impl_firstFun k) k 24 (subc (bodyOf Try.f108) [1, 1, 0, 1, 0, 0]) 0) 24 (G.msk n_impl_firstFun 0).1 (G.msk n_impl_firstFun 0).2
noncomputable def impl_firstFun.A0 (k : Nat) : Ex × List T × Heap → Option (V × Heap) := fun r => aft (G.env n_impl_firstFun k) k 24 (bodyOf Try.f108) [1, 1, 0, 1, 0] 0 (ck G.P Try.f108) r.1 (unpick 24 (G.msk n_impl_firstFun 0).2 r.2.1) r.2.2
theorem impl_firstFun.eq (k : Nat) (a1 : V) (n2 : Int) (σ : Heap) : hcall G (k + 1) n_impl_firstFun [a1, .int .i64 n2] σ = ((vslice 3 a1 none (some n2)).bind fun a3 => (vlen a3).bind fun k4 => (impl_firstFun.L0 k k [.v (.int .i64 0), .v a3, .v (.int .i64 (k4 : Int)), .v (.int .i64 0)] σ).bind (impl_firstFun.A0 k)) := by
  kernel_rfl
theorem impl_firstFun.L0_step (k m : Nat) (n1 : Int) (a2 : V) (n3 : Int) (n4 : Int) (σ : Heap) : impl_firstFun.L0 k (m + 1) [.v (.int .i64 n1), .v a2, .v (.int .i64 n3), .v (.int .i64 n4)] σ = (bif decide (n4 < n3) then ((vidx 3 a2 n4).bind fun p5 => (rdc σ p5.1 p5.2 3).bind fun l6 => uncons l6 fun c7 l8 => castStr c7 fun s9 => uncons l8 fun c10 l11 => uncons l11 fun c12 l13 => isNil l13 <| (vlen c12).bind fun k14 => impl_firstFun.L0 k m [.v (.int .i64 (IntKind.wrap .i64 (n1 + (k14 : Int)))), .v a2, .v (.int .i64 n3), .v (.int .i64 (IntKind.wrap .i64 (n4 + 1)))] σ) else (some (.exit 0, [.bot, .v (.int .i64 n1)], σ))) := by
  kernel_rfl
theorem impl_firstFun.A0_x0 (k : Nat) (t1 : T) (n2 : Int) (σ : Heap) : impl_firstFun.A0 k (.exit 0, [t1, .v (.int .i64 n2)], σ) = (some (.int .i64 n2, σ)) := by
  kernel_rfl

/-! loop.example/smithy/impl.LinkFind: function 75 -/
theorem impl_LinkFind.eq (k : Nat) (a1 : V) (s2 : ByteArray) (s3 : ByteArray) (σ : Heap) : hcall G (k + 1) n_impl_LinkFind [a1, .str s2, .str s3] σ = ((hcall G k n_impl_partAt [a1, .str s2] σ).bind fun q4 => castInt .i64 q4.1 fun n5 => (vlen a1).bind fun k6 => bif decide (8 < (k6 : Int)) then (some (.tuple [.int .i64 0, .bool false], q4.2)) else (bif decide (n5 < 0) then (some (.tuple [.int .i64 0, .bool false], q4.2)) else ((vidx 3 a1 n5).bind fun p7 => (rdc q4.2 p7.1 (p7.2 + 1) 2).bind fun l8 => uncons l8 fun c9 l10 => uncons l10 fun c11 l12 => isNil l12 <| (hcall G k n_impl_funIn [.agg [c9, c11], .str s3] q4.2).bind fun q13 => castInt .i64 q13.1 fun n14 => bif decide (n14 < 0) then (some (.tuple [.int .i64 0, .bool false], q13.2)) else ((hcall G k n_impl_firstFun [a1, .int .i64 n5] q13.2).bind fun q15 => castInt .i64 q15.1 fun n16 => some (.tuple [.int .i64 (IntKind.wrap .i64 (n16 + n14)), .bool true], q15.2))))) := by
  kernel_rfl

/-! loop.example/smithy/impl.linked: function 37 -/
noncomputable def impl_linked.L0 (k : Nat) : Nat → List T → Heap → Option (Ex × List T × Heap) := hloop (hx (G.env n_impl_linked k) k 51 (subc (bodyOf Try.f37) [1, 1, 0, 1, 0, 0]) 0) 51 (G.msk n_impl_linked 0).1 (G.msk n_impl_linked 0).2
noncomputable def impl_linked.A0 (k : Nat) : Ex × List T × Heap → Option (V × Heap) := fun r => aft (G.env n_impl_linked k) k 51 (bodyOf Try.f37) [1, 1, 0, 1, 0] 0 (ck G.P Try.f37) r.1 (unpick 51 (G.msk n_impl_linked 0).2 r.2.1) r.2.2
theorem impl_linked.eq (k : Nat) (a1 : V) (s2 : ByteArray) (a3 : V) (a4 : V) (a5 : V) (σ : Heap) : hcall G (k + 1) n_impl_linked [a1, .agg [.str s2, a3, a4], a5] σ = ((hcall G k n_slices_Clone_impl_CodeIns_impl_CodeIns [a5] σ).bind fun q6 => (vlen q6.1).bind fun k7 => (impl_linked.L0 k k [.v a1, .box [.str s2, a3, a4], .v q6.1, .v q6.1, .v (.int .i64 (k7 : Int)), .v (.int .i64 0)] q6.2).bind (impl_linked.A0 k)) := by
  kernel_rfl
theorem impl_linked.L0_step (k m : Nat) (a1 : V) (s2 : ByteArray) (a3 : V) (a4 : V) (a5 : V) (a6 : V) (n7 : Int) (n8 : Int) (σ : Heap) : impl_linked.L0 k (m + 1) [.v a1, .box [.str s2, a3, a4], .v a5, .v a6, .v (.int .i64 n7), .v (.int .i64 n8)] σ = (bif decide (n8 < n7) then ((vidx 2 a6 n8).bind fun p9 => (rdc σ p9.1 p9.2 2).bind fun l10 => uncons l10 fun c11 l12 => castInt .i64 c11 fun n13 => uncons l12 fun c14 l15 => castInt .i64 c14 fun n16 => isNil l15 <| bif !decide (n13 = 8) then (impl_linked.L0 k m [.v a1, .box [.str s2, a3, a4], .v a5, .v a6, .v (.int .i64 n7), .v (.int .i64 (IntKind.wrap .i64 (n8 + 1)))] σ) else ((vidx 2 a3 n16).bind fun p17 => (rdc σ p17.1 p17.2 2).bind fun l18 => uncons l18 fun c19 l20 => castStr c19 fun s21 => uncons l20 fun c22 l23 => castStr c22 fun s24 => isNil l23 <| bif decide (s21 = (⟨#[]⟩ : ByteArray)) then ((hcall G k n_impl_LinkFind [a1, .str s2, .str s24] σ).bind fun q25 => castTuple q25.1 fun l26 => uncons l26 fun c27 l28 => castInt .i64 c27 fun n29 => uncons l28 fun c30 l31 => castBool c30 fun b32 => isNil l31 <| (vidx 2 a5 n8).bind fun p33 => (wrc q25.2 p33.1 (p33.2 + 1) [.int .i64 n29]).bind fun h34 => impl_linked.L0 k m [.v a1, .box [.str s2, a3, a4], .v a5, .v a6, .v (.int .i64 n7), .v (.int .i64 (IntKind.wrap .i64 (n8 + 1)))] h34) else ((hcall G k n_impl_LinkFind [a1, .str s21, .str s24] σ).bind fun q35 => castTuple q35.1 fun l36 => uncons l36 fun c37 l38 => castInt .i64 c37 fun n39 => uncons l38 fun c40 l41 => castBool c40 fun b42 => isNil l41 <| (vidx 2 a5 n8).bind fun p43 => (wrc q35.2 p43.1 (p43.2 + 1) [.int .i64 n39]).bind fun h44 => impl_linked.L0 k m [.v a1, .box [.str s2, a3, a4], .v a5, .v a6, .v (.int .i64 n7), .v (.int .i64 (IntKind.wrap .i64 (n8 + 1)))] h44))) else (some (.exit 0, [.bot, .v a5], σ))) := by
  kernel_rfl
theorem impl_linked.A0_x0 (k : Nat) (t1 : T) (a2 : V) (σ : Heap) : impl_linked.A0 k (.exit 0, [t1, .v a2], σ) = (some (a2, σ)) := by
  kernel_rfl
end Go.B
