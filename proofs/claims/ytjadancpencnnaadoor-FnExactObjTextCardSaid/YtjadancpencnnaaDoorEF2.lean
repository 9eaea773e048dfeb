/- The functions' equations. -/
import Derived.Test.YtjadancpencnnaaDoorEG
namespace Go.D
open Go.HM Go.Proofs
set_option linter.unusedVariables false
set_option maxRecDepth 1000000
set_option maxHeartbeats 4000000

/-! loop.example/smithy/laws.toStringS: function 47 -/
noncomputable def laws_toStringS.L0 (k : Nat) : Nat → List T → Heap → Option (Ex × List T × Heap) := hloop (hx (G.env n_laws_toStringS k) k 22 (subc (bodyOf Tryd.f47) [1, 1, 0, 1, 0, 0]) 0) 22 (G.msk n_laws_toStringS 0).1 (G.msk n_laws_toStringS 0).2
noncomputable def laws_toStringS.A0 (k : Nat) : Ex × List T × Heap → Option (V × Heap) := fun r => aft (G.env n_laws_toStringS k) k 22 (bodyOf Tryd.f47) [1, 1, 0, 1, 0] 0 (ck G.P Tryd.f47) r.1 (unpick 22 (G.msk n_laws_toStringS 0).2 r.2.1) r.2.2
theorem laws_toStringS.eq (k : Nat) (a1 : V) (σ : Heap) : hcall G (k + 1) n_laws_toStringS [a1] σ = ((vlen a1).bind fun k2 => if 0 ≤ (k2 : Int) ∧ (k2 : Int) * 16 ≤ 2 ^ 46 ∧ (k2 : Int) ≤ 2 ^ 46 then ((laws_toStringS.L0 k k [.v a1, .v (.sl σ.length 0 ((k2 : Int) : Int).toNat true), .v (.int .i64 0)] (hnew σ 1 (List.replicate ((k2 : Int) : Int).toNat [.str (⟨#[]⟩ : ByteArray)]).flatten)).bind (laws_toStringS.A0 k)) else none) := by
  kernel_rfl
theorem laws_toStringS.L0_step (k m : Nat) (a1 : V) (a2 : V) (n3 : Int) (σ : Heap) : laws_toStringS.L0 k (m + 1) [.v a1, .v a2, .v (.int .i64 n3)] σ = ((vlen a1).bind fun k4 => bif decide (n3 < (k4 : Int)) then ((vidx 1 a1 n3).bind fun p5 => (rdc σ p5.1 p5.2 1).bind fun l6 => uncons l6 fun c7 l8 => castStr c7 fun s9 => isNil l8 <| (vidx 1 a2 n3).bind fun p10 => (wrc σ p10.1 p10.2 [.str s9]).bind fun h11 => laws_toStringS.L0 k m [.v a1, .v a2, .v (.int .i64 (IntKind.wrap .i64 (n3 + 1)))] h11) else (some (.exit 0, [.bot, .v a2], σ))) := by
  kernel_rfl
theorem laws_toStringS.A0_x0 (k : Nat) (t1 : T) (a2 : V) (σ : Heap) : laws_toStringS.A0 k (.exit 0, [t1, .v a2], σ) = (some (a2, σ)) := by
  kernel_rfl

/-! loop.example/smithy/laws.toTreeExprS: function 49 -/
noncomputable def laws_toTreeExprS.L0 (k : Nat) : Nat → List T → Heap → Option (Ex × List T × Heap) := hloop (hx (G.env n_laws_toTreeExprS k) k 23 (subc (bodyOf Tryd.f49) [1, 1, 0, 1, 0, 0]) 0) 23 (G.msk n_laws_toTreeExprS 0).1 (G.msk n_laws_toTreeExprS 0).2
noncomputable def laws_toTreeExprS.A0 (k : Nat) : Ex × List T × Heap → Option (V × Heap) := fun r => aft (G.env n_laws_toTreeExprS k) k 23 (bodyOf Tryd.f49) [1, 1, 0, 1, 0] 0 (ck G.P Tryd.f49) r.1 (unpick 23 (G.msk n_laws_toTreeExprS 0).2 r.2.1) r.2.2
theorem laws_toTreeExprS.eq (k : Nat) (a1 : V) (σ : Heap) : hcall G (k + 1) n_laws_toTreeExprS [a1] σ = ((vlen a1).bind fun k2 => if 0 ≤ (k2 : Int) ∧ (k2 : Int) * 72 ≤ 2 ^ 46 ∧ (k2 : Int) ≤ 2 ^ 46 then ((laws_toTreeExprS.L0 k k [.v a1, .v (.sl σ.length 0 ((k2 : Int) : Int).toNat true), .v (.int .i64 0)] (hnew σ 5 (List.replicate ((k2 : Int) : Int).toNat [.int .i64 0, .int .i64 0, .str (⟨#[]⟩ : ByteArray), .str (⟨#[]⟩ : ByteArray), .nils]).flatten)).bind (laws_toTreeExprS.A0 k)) else none) := by
  kernel_rfl
theorem laws_toTreeExprS.L0_step (k m : Nat) (a1 : V) (a2 : V) (n3 : Int) (σ : Heap) : laws_toTreeExprS.L0 k (m + 1) [.v a1, .v a2, .v (.int .i64 n3)] σ = ((vlen a1).bind fun k4 => bif decide (n3 < (k4 : Int)) then ((vidx 5 a1 n3).bind fun p5 => (rdc σ p5.1 p5.2 5).bind fun l6 => uncons l6 fun c7 l8 => castInt .i64 c7 fun n9 => uncons l8 fun c10 l11 => castInt .i64 c10 fun n12 => uncons l11 fun c13 l14 => castStr c13 fun s15 => uncons l14 fun c16 l17 => castStr c16 fun s18 => uncons l17 fun c19 l20 => isNil l20 <| (hcall G k n_laws_toTreeExpr [.agg [.int .i64 n9, .int .i64 n12, .str s15, .str s18, c19]] σ).bind fun q21 => castAgg q21.1 fun l22 => uncons l22 fun c23 l24 => castInt .i64 c23 fun n25 => uncons l24 fun c26 l27 => castInt .i64 c26 fun n28 => uncons l27 fun c29 l30 => castStr c29 fun s31 => uncons l30 fun c32 l33 => castStr c32 fun s34 => uncons l33 fun c35 l36 => isNil l36 <| (vidx 5 a2 n3).bind fun p37 => (wrc q21.2 p37.1 p37.2 [.int .i64 n25, .int .i64 n28, .str s31, .str s34, c35]).bind fun h38 => laws_toTreeExprS.L0 k m [.v a1, .v a2, .v (.int .i64 (IntKind.wrap .i64 (n3 + 1)))] h38) else (some (.exit 0, [.bot, .v a2], σ))) := by
  kernel_rfl
theorem laws_toTreeExprS.A0_x0 (k : Nat) (t1 : T) (a2 : V) (σ : Heap) : laws_toTreeExprS.A0 k (.exit 0, [t1, .v a2], σ) = (some (a2, σ)) := by
  kernel_rfl

/-! loop.example/smithy/laws.toTreeExpr: function 88 -/
theorem laws_toTreeExpr.eq (k : Nat) (n1 : Int) (n2 : Int) (s3 : ByteArray) (s4 : ByteArray) (a5 : V) (σ : Heap) : hcall G (k + 1) n_laws_toTreeExpr [.agg [.int .i64 n1, .int .i64 n2, .str s3, .str s4, a5]] σ = ((hcall G k n_laws_toTreeExprS [a5] σ).bind fun q6 => one q6.1 <| some (.agg [.int .i64 n1, .int .i64 n2, .str s3, .str s4, q6.1], q6.2)) := by
  kernel_rfl

/-! loop.example/smithy/laws.toTreeArg: function 153 -/
theorem laws_toTreeArg.eq (k : Nat) (s1 : ByteArray) (n2 : Int) (σ : Heap) : hcall G (k + 1) n_laws_toTreeArg [.agg [.str s1, .int .i64 n2]] σ = (some (.agg [.str s1, .int .i64 n2], σ)) := by
  kernel_rfl

/-! loop.example/smithy/laws.toTreeArgS: function 127 -/
noncomputable def laws_toTreeArgS.L0 (k : Nat) : Nat → List T → Heap → Option (Ex × List T × Heap) := hloop (hx (G.env n_laws_toTreeArgS k) k 23 (subc (bodyOf Tryd.f127) [1, 1, 0, 1, 0, 0]) 0) 23 (G.msk n_laws_toTreeArgS 0).1 (G.msk n_laws_toTreeArgS 0).2
noncomputable def laws_toTreeArgS.A0 (k : Nat) : Ex × List T × Heap → Option (V × Heap) := fun r => aft (G.env n_laws_toTreeArgS k) k 23 (bodyOf Tryd.f127) [1, 1, 0, 1, 0] 0 (ck G.P Tryd.f127) r.1 (unpick 23 (G.msk n_laws_toTreeArgS 0).2 r.2.1) r.2.2
theorem laws_toTreeArgS.eq (k : Nat) (a1 : V) (σ : Heap) : hcall G (k + 1) n_laws_toTreeArgS [a1] σ = ((vlen a1).bind fun k2 => if 0 ≤ (k2 : Int) ∧ (k2 : Int) * 24 ≤ 2 ^ 46 ∧ (k2 : Int) ≤ 2 ^ 46 then ((laws_toTreeArgS.L0 k k [.v a1, .v (.sl σ.length 0 ((k2 : Int) : Int).toNat true), .v (.int .i64 0)] (hnew σ 2 (List.replicate ((k2 : Int) : Int).toNat [.str (⟨#[]⟩ : ByteArray), .int .i64 0]).flatten)).bind (laws_toTreeArgS.A0 k)) else none) := by
  kernel_rfl
theorem laws_toTreeArgS.L0_step (k m : Nat) (a1 : V) (a2 : V) (n3 : Int) (σ : Heap) : laws_toTreeArgS.L0 k (m + 1) [.v a1, .v a2, .v (.int .i64 n3)] σ = ((vlen a1).bind fun k4 => bif decide (n3 < (k4 : Int)) then ((vidx 2 a1 n3).bind fun p5 => (rdc σ p5.1 p5.2 2).bind fun l6 => uncons l6 fun c7 l8 => castStr c7 fun s9 => uncons l8 fun c10 l11 => castInt .i64 c10 fun n12 => isNil l11 <| (hcall G k n_laws_toTreeArg [.agg [.str s9, .int .i64 n12]] σ).bind fun q13 => castAgg q13.1 fun l14 => uncons l14 fun c15 l16 => castStr c15 fun s17 => uncons l16 fun c18 l19 => castInt .i64 c18 fun n20 => isNil l19 <| (vidx 2 a2 n3).bind fun p21 => (wrc q13.2 p21.1 p21.2 [.str s17, .int .i64 n20]).bind fun h22 => laws_toTreeArgS.L0 k m [.v a1, .v a2, .v (.int .i64 (IntKind.wrap .i64 (n3 + 1)))] h22) else (some (.exit 0, [.bot, .v a2], σ))) := by
  kernel_rfl
theorem laws_toTreeArgS.A0_x0 (k : Nat) (t1 : T) (a2 : V) (σ : Heap) : laws_toTreeArgS.A0 k (.exit 0, [t1, .v a2], σ) = (some (a2, σ)) := by
  kernel_rfl

/-! loop.example/smithy/laws.toTreeFun: function 87 -/
theorem laws_toTreeFun.eq (k : Nat) (s1 : ByteArray) (b2 : Bool) (a3 : V) (n4 : Int) (n5 : Int) (n6 : Int) (s7 : ByteArray) (s8 : ByteArray) (a9 : V) (σ : Heap) : hcall G (k + 1) n_laws_toTreeFun [.agg [.str s1, .bool b2, a3, .int .i64 n4, .int .i64 n5, .int .i64 n6, .str s7, .str s8, a9]] σ = ((hcall G k n_laws_toTreeArgS [a3] σ).bind fun q10 => one q10.1 <| (hcall G k n_laws_toTreeExpr [.agg [.int .i64 n5, .int .i64 n6, .str s7, .str s8, a9]] q10.2).bind fun q11 => castAgg q11.1 fun l12 => uncons l12 fun c13 l14 => castInt .i64 c13 fun n15 => uncons l14 fun c16 l17 => castInt .i64 c16 fun n18 => uncons l17 fun c19 l20 => castStr c19 fun s21 => uncons l20 fun c22 l23 => castStr c22 fun s24 => uncons l23 fun c25 l26 => isNil l26 <| some (.agg [.str s1, .bool b2, q10.1, .int .i64 n4, .int .i64 n15, .int .i64 n18, .str s21, .str s24, c25], q11.2)) := by
  kernel_rfl

/-! loop.example/smithy/laws.toTreeFunS: function 48 -/
noncomputable def laws_toTreeFunS.L0 (k : Nat) : Nat → List T → Heap → Option (Ex × List T × Heap) := hloop (hx (G.env n_laws_toTreeFunS k) k 23 (subc (bodyOf Tryd.f48) [1, 1, 0, 1, 0, 0]) 0) 23 (G.msk n_laws_toTreeFunS 0).1 (G.msk n_laws_toTreeFunS 0).2
noncomputable def laws_toTreeFunS.A0 (k : Nat) : Ex × List T × Heap → Option (V × Heap) := fun r => aft (G.env n_laws_toTreeFunS k) k 23 (bodyOf Tryd.f48) [1, 1, 0, 1, 0] 0 (ck G.P Tryd.f48) r.1 (unpick 23 (G.msk n_laws_toTreeFunS 0).2 r.2.1) r.2.2
theorem laws_toTreeFunS.eq (k : Nat) (a1 : V) (σ : Heap) : hcall G (k + 1) n_laws_toTreeFunS [a1] σ = ((vlen a1).bind fun k2 => if 0 ≤ (k2 : Int) ∧ (k2 : Int) * 128 ≤ 2 ^ 46 ∧ (k2 : Int) ≤ 2 ^ 46 then ((laws_toTreeFunS.L0 k k [.v a1, .v (.sl σ.length 0 ((k2 : Int) : Int).toNat true), .v (.int .i64 0)] (hnew σ 9 (List.replicate ((k2 : Int) : Int).toNat [.str (⟨#[]⟩ : ByteArray), .bool false, .nils, .int .i64 0, .int .i64 0, .int .i64 0, .str (⟨#[]⟩ : ByteArray), .str (⟨#[]⟩ : ByteArray), .nils]).flatten)).bind (laws_toTreeFunS.A0 k)) else none) := by
  kernel_rfl
theorem laws_toTreeFunS.L0_step (k m : Nat) (a1 : V) (a2 : V) (n3 : Int) (σ : Heap) : laws_toTreeFunS.L0 k (m + 1) [.v a1, .v a2, .v (.int .i64 n3)] σ = ((vlen a1).bind fun k4 => bif decide (n3 < (k4 : Int)) then ((vidx 9 a1 n3).bind fun p5 => (rdc σ p5.1 p5.2 9).bind fun l6 => uncons l6 fun c7 l8 => castStr c7 fun s9 => uncons l8 fun c10 l11 => castBool c10 fun b12 => uncons l11 fun c13 l14 => uncons l14 fun c15 l16 => castInt .i64 c15 fun n17 => uncons l16 fun c18 l19 => castInt .i64 c18 fun n20 => uncons l19 fun c21 l22 => castInt .i64 c21 fun n23 => uncons l22 fun c24 l25 => castStr c24 fun s26 => uncons l25 fun c27 l28 => castStr c27 fun s29 => uncons l28 fun c30 l31 => isNil l31 <| (hcall G k n_laws_toTreeFun [.agg [.str s9, .bool b12, c13, .int .i64 n17, .int .i64 n20, .int .i64 n23, .str s26, .str s29, c30]] σ).bind fun q32 => castAgg q32.1 fun l33 => uncons l33 fun c34 l35 => castStr c34 fun s36 => uncons l35 fun c37 l38 => castBool c37 fun b39 => uncons l38 fun c40 l41 => uncons l41 fun c42 l43 => castInt .i64 c42 fun n44 => uncons l43 fun c45 l46 => castInt .i64 c45 fun n47 => uncons l46 fun c48 l49 => castInt .i64 c48 fun n50 => uncons l49 fun c51 l52 => castStr c51 fun s53 => uncons l52 fun c54 l55 => castStr c54 fun s56 => uncons l55 fun c57 l58 => isNil l58 <| (vidx 9 a2 n3).bind fun p59 => (wrc q32.2 p59.1 p59.2 [.str s36, .bool b39, c40, .int .i64 n44, .int .i64 n47, .int .i64 n50, .str s53, .str s56, c57]).bind fun h60 => laws_toTreeFunS.L0 k m [.v a1, .v a2, .v (.int .i64 (IntKind.wrap .i64 (n3 + 1)))] h60) else (some (.exit 0, [.bot, .v a2], σ))) := by
  kernel_rfl
theorem laws_toTreeFunS.A0_x0 (k : Nat) (t1 : T) (a2 : V) (σ : Heap) : laws_toTreeFunS.A0 k (.exit 0, [t1, .v a2], σ) = (some (a2, σ)) := by
  kernel_rfl

/-! loop.example/smithy/laws.toTreeMod: function 19 -/
theorem laws_toTreeMod.eq (k : Nat) (a1 : V) (a2 : V) (a3 : V) (σ : Heap) : hcall G (k + 1) n_laws_toTreeMod [.agg [a1, a2, a3]] σ = ((hcall G k n_laws_toStringS [a1] σ).bind fun q4 => one q4.1 <| (hcall G k n_laws_toTreeFunS [a2] q4.2).bind fun q5 => one q5.1 <| (hcall G k n_laws_toTreeExprS [a3] q5.2).bind fun q6 => one q6.1 <| some (.agg [q4.1, q5.1, q6.1], q6.2)) := by
  kernel_rfl

/-! loop.example/smithy/laws.eqStringS: function 53 -/
noncomputable def laws_eqStringS.L0 (k : Nat) : Nat → List T → Heap → Option (Ex × List T × Heap) := hloop (hx (G.env n_laws_eqStringS k) k 26 (subc (bodyOf Tryd.f53) [1, 1, 0, 1, 0, 0]) 0) 26 (G.msk n_laws_eqStringS 0).1 (G.msk n_laws_eqStringS 0).2
noncomputable def laws_eqStringS.A0 (k : Nat) : Ex × List T × Heap → Option (V × Heap) := fun r => aft (G.env n_laws_eqStringS k) k 26 (bodyOf Tryd.f53) [1, 1, 0, 1, 0] 0 (ck G.P Tryd.f53) r.1 (unpick 26 (G.msk n_laws_eqStringS 0).2 r.2.1) r.2.2
theorem laws_eqStringS.eq (k : Nat) (a1 : V) (a2 : V) (σ : Heap) : hcall G (k + 1) n_laws_eqStringS [a1, a2] σ = ((vlen a1).bind fun k3 => (vlen a2).bind fun k4 => bif !decide ((k3 : Int) = (k4 : Int)) then (some (.bool false, σ)) else ((laws_eqStringS.L0 k k [.v a1, .v a2, .v (.int .i64 0)] σ).bind (laws_eqStringS.A0 k))) := by
  kernel_rfl
theorem laws_eqStringS.L0_step (k m : Nat) (a1 : V) (a2 : V) (n3 : Int) (σ : Heap) : laws_eqStringS.L0 k (m + 1) [.v a1, .v a2, .v (.int .i64 n3)] σ = ((vlen a1).bind fun k4 => bif decide (n3 < (k4 : Int)) then ((vidx 1 a1 n3).bind fun p5 => (rdc σ p5.1 p5.2 1).bind fun l6 => uncons l6 fun c7 l8 => castStr c7 fun s9 => isNil l8 <| (vidx 1 a2 n3).bind fun p10 => (rdc σ p10.1 p10.2 1).bind fun l11 => uncons l11 fun c12 l13 => castStr c12 fun s14 => isNil l13 <| bif !decide (s9 = s14) then (some (.ret, [.v (.bool false)], σ)) else (laws_eqStringS.L0 k m [.v a1, .v a2, .v (.int .i64 (IntKind.wrap .i64 (n3 + 1)))] σ)) else (some (.exit 0, [.bot], σ))) := by
  kernel_rfl
theorem laws_eqStringS.A0_x0 (k : Nat) (t1 : T) (σ : Heap) : laws_eqStringS.A0 k (.exit 0, [t1], σ) = (some (.bool true, σ)) := by
  kernel_rfl
theorem laws_eqStringS.A0_ret (k : Nat) (b1 : Bool) (σ : Heap) : laws_eqStringS.A0 k (.ret, [.v (.bool b1)], σ) = (some (.bool b1, σ)) := by
  kernel_rfl

/-! loop.example/smithy/laws.eqTreeExprS: function 55 -/
noncomputable def laws_eqTreeExprS.L0 (k : Nat) : Nat → List T → Heap → Option (Ex × List T × Heap) := hloop (hx (G.env n_laws_eqTreeExprS k) k 27 (subc (bodyOf Tryd.f55) [1, 1, 0, 1, 0, 0]) 0) 27 (G.msk n_laws_eqTreeExprS 0).1 (G.msk n_laws_eqTreeExprS 0).2
noncomputable def laws_eqTreeExprS.A0 (k : Nat) : Ex × List T × Heap → Option (V × Heap) := fun r => aft (G.env n_laws_eqTreeExprS k) k 27 (bodyOf Tryd.f55) [1, 1, 0, 1, 0] 0 (ck G.P Tryd.f55) r.1 (unpick 27 (G.msk n_laws_eqTreeExprS 0).2 r.2.1) r.2.2
theorem laws_eqTreeExprS.eq (k : Nat) (a1 : V) (a2 : V) (σ : Heap) : hcall G (k + 1) n_laws_eqTreeExprS [a1, a2] σ = ((vlen a1).bind fun k3 => (vlen a2).bind fun k4 => bif !decide ((k3 : Int) = (k4 : Int)) then (some (.bool false, σ)) else ((laws_eqTreeExprS.L0 k k [.v a1, .v a2, .v (.int .i64 0)] σ).bind (laws_eqTreeExprS.A0 k))) := by
  kernel_rfl
theorem laws_eqTreeExprS.L0_step (k m : Nat) (a1 : V) (a2 : V) (n3 : Int) (σ : Heap) : laws_eqTreeExprS.L0 k (m + 1) [.v a1, .v a2, .v (.int .i64 n3)] σ = ((vlen a1).bind fun k4 => bif decide (n3 < (k4 : Int)) then ((vidx 5 a1 n3).bind fun p5 => (rdc σ p5.1 p5.2 5).bind fun l6 => uncons l6 fun c7 l8 => castInt .i64 c7 fun n9 => uncons l8 fun c10 l11 => castInt .i64 c10 fun n12 => uncons l11 fun c13 l14 => castStr c13 fun s15 => uncons l14 fun c16 l17 => castStr c16 fun s18 => uncons l17 fun c19 l20 => isNil l20 <| (vidx 5 a2 n3).bind fun p21 => (rdc σ p21.1 p21.2 5).bind fun l22 => uncons l22 fun c23 l24 => castInt .i64 c23 fun n25 => uncons l24 fun c26 l27 => castInt .i64 c26 fun n28 => uncons l27 fun c29 l30 => castStr c29 fun s31 => uncons l30 fun c32 l33 => castStr c32 fun s34 => uncons l33 fun c35 l36 => isNil l36 <| (hcall G k n_laws_eqTreeExpr [.agg [.int .i64 n9, .int .i64 n12, .str s15, .str s18, c19], .agg [.int .i64 n25, .int .i64 n28, .str s31, .str s34, c35]] σ).bind fun q37 => castBool q37.1 fun b38 => bif !b38 then (some (.ret, [.v (.bool false)], q37.2)) else (laws_eqTreeExprS.L0 k m [.v a1, .v a2, .v (.int .i64 (IntKind.wrap .i64 (n3 + 1)))] q37.2)) else (some (.exit 0, [.bot], σ))) := by
  kernel_rfl
theorem laws_eqTreeExprS.A0_x0 (k : Nat) (t1 : T) (σ : Heap) : laws_eqTreeExprS.A0 k (.exit 0, [t1], σ) = (some (.bool true, σ)) := by
  kernel_rfl
theorem laws_eqTreeExprS.A0_ret (k : Nat) (b1 : Bool) (σ : Heap) : laws_eqTreeExprS.A0 k (.ret, [.v (.bool b1)], σ) = (some (.bool b1, σ)) := by
  kernel_rfl

/-! loop.example/smithy/laws.eqTreeExpr: function 101 -/
theorem laws_eqTreeExpr.eq (k : Nat) (n1 : Int) (n2 : Int) (s3 : ByteArray) (s4 : ByteArray) (a5 : V) (n6 : Int) (n7 : Int) (s8 : ByteArray) (s9 : ByteArray) (a10 : V) (σ : Heap) : hcall G (k + 1) n_laws_eqTreeExpr [.agg [.int .i64 n1, .int .i64 n2, .str s3, .str s4, a5], .agg [.int .i64 n6, .int .i64 n7, .str s8, .str s9, a10]] σ = (bif !decide (n1 = n6) then (some (.bool false, σ)) else (bif !decide (n2 = n7) then (some (.bool false, σ)) else (bif !decide (s3 = s8) then (some (.bool false, σ)) else (bif !decide (s4 = s9) then (some (.bool false, σ)) else ((hcall G k n_laws_eqTreeExprS [a5, a10] σ).bind fun q11 => castBool q11.1 fun b12 => bif !b12 then (some (.bool false, q11.2)) else (some (.bool true, q11.2))))))) := by
  kernel_rfl

/-! loop.example/smithy/laws.eqTreeArg: function 159 -/
theorem laws_eqTreeArg.eq (k : Nat) (s1 : ByteArray) (n2 : Int) (s3 : ByteArray) (n4 : Int) (σ : Heap) : hcall G (k + 1) n_laws_eqTreeArg [.agg [.str s1, .int .i64 n2], .agg [.str s3, .int .i64 n4]] σ = (bif !decide (s1 = s3) then (some (.bool false, σ)) else (bif !decide (n2 = n4) then (some (.bool false, σ)) else (some (.bool true, σ)))) := by
  kernel_rfl

/-! loop.example/smithy/laws.eqTreeArgS: function 133 -/
noncomputable def laws_eqTreeArgS.L0 (k : Nat) : Nat → List T → Heap → Option (Ex × List T × Heap) := hloop (hx (G.env n_laws_eqTreeArgS k) k 27 (subc (bodyOf Tryd.f133) [1, 1, 0, 1, 0, 0]) 0) 27 (G.msk n_laws_eqTreeArgS 0).1 (G.msk n_laws_eqTreeArgS 0).2
noncomputable def laws_eqTreeArgS.A0 (k : Nat) : Ex × List T × Heap → Option (V × Heap) := fun r => aft (G.env n_laws_eqTreeArgS k) k 27 (bodyOf Tryd.f133) [1, 1, 0, 1, 0] 0 (ck G.P Tryd.f133) r.1 (unpick 27 (G.msk n_laws_eqTreeArgS 0).2 r.2.1) r.2.2
theorem laws_eqTreeArgS.eq (k : Nat) (a1 : V) (a2 : V) (σ : Heap) : hcall G (k + 1) n_laws_eqTreeArgS [a1, a2] σ = ((vlen a1).bind fun k3 => (vlen a2).bind fun k4 => bif !decide ((k3 : Int) = (k4 : Int)) then (some (.bool false, σ)) else ((laws_eqTreeArgS.L0 k k [.v a1, .v a2, .v (.int .i64 0)] σ).bind (laws_eqTreeArgS.A0 k))) := by
  kernel_rfl
theorem laws_eqTreeArgS.L0_step (k m : Nat) (a1 : V) (a2 : V) (n3 : Int) (σ : Heap) : laws_eqTreeArgS.L0 k (m + 1) [.v a1, .v a2, .v (.int .i64 n3)] σ = ((vlen a1).bind fun k4 => bif decide (n3 < (k4 : Int)) then ((vidx 2 a1 n3).bind fun p5 => (rdc σ p5.1 p5.2 2).bind fun l6 => uncons l6 fun c7 l8 => castStr c7 fun s9 => uncons l8 fun c10 l11 => castInt .i64 c10 fun n12 => isNil l11 <| (vidx 2 a2 n3).bind fun p13 => (rdc σ p13.1 p13.2 2).bind fun l14 => uncons l14 fun c15 l16 => castStr c15 fun s17 => uncons l16 fun c18 l19 => castInt .i64 c18 fun n20 => isNil l19 <| (hcall G k n_laws_eqTreeArg [.agg [.str s9, .int .i64 n12], .agg [.str s17, .int .i64 n20]] σ).bind fun q21 => castBool q21.1 fun b22 => bif !b22 then (some (.ret, [.v (.bool false)], q21.2)) else (laws_eqTreeArgS.L0 k m [.v a1, .v a2, .v (.int .i64 (IntKind.wrap .i64 (n3 + 1)))] q21.2)) else (some (.exit 0, [.bot], σ))) := by
  kernel_rfl
theorem laws_eqTreeArgS.A0_x0 (k : Nat) (t1 : T) (σ : Heap) : laws_eqTreeArgS.A0 k (.exit 0, [t1], σ) = (some (.bool true, σ)) := by
  kernel_rfl
theorem laws_eqTreeArgS.A0_ret (k : Nat) (b1 : Bool) (σ : Heap) : laws_eqTreeArgS.A0 k (.ret, [.v (.bool b1)], σ) = (some (.bool b1, σ)) := by
  kernel_rfl

/-! loop.example/smithy/laws.eqTreeFun: function 100 -/
theorem laws_eqTreeFun.eq (k : Nat) (s1 : ByteArray) (b2 : Bool) (a3 : V) (n4 : Int) (n5 : Int) (n6 : Int) (s7 : ByteArray) (s8 : ByteArray) (a9 : V) (s10 : ByteArray) (b11 : Bool) (a12 : V) (n13 : Int) (n14 : Int) (n15 : Int) (s16 : ByteArray) (s17 : ByteArray) (a18 : V) (σ : Heap) : hcall G (k + 1) n_laws_eqTreeFun [.agg [.str s1, .bool b2, a3, .int .i64 n4, .int .i64 n5, .int .i64 n6, .str s7, .str s8, a9], .agg [.str s10, .bool b11, a12, .int .i64 n13, .int .i64 n14, .int .i64 n15, .str s16, .str s17, a18]] σ = (bif !decide (s1 = s10) then (some (.bool false, σ)) else (bif !(b2 == b11) then (some (.bool false, σ)) else ((hcall G k n_laws_eqTreeArgS [a3, a12] σ).bind fun q19 => castBool q19.1 fun b20 => bif !b20 then (some (.bool false, q19.2)) else (bif !decide (n4 = n13) then (some (.bool false, q19.2)) else ((hcall G k n_laws_eqTreeExpr [.agg [.int .i64 n5, .int .i64 n6, .str s7, .str s8, a9], .agg [.int .i64 n14, .int .i64 n15, .str s16, .str s17, a18]] q19.2).bind fun q21 => castBool q21.1 fun b22 => bif !b22 then (some (.bool false, q21.2)) else (some (.bool true, q21.2))))))) := by
  kernel_rfl

/-! loop.example/smithy/laws.eqTreeFunS: function 54 -/
noncomputable def laws_eqTreeFunS.L0 (k : Nat) : Nat → List T → Heap → Option (Ex × List T × Heap) := hloop (hx (G.env n_laws_eqTreeFunS k) k 27 (subc (bodyOf Tryd.f54) [1, 1, 0, 1, 0, 0]) 0) 27 (G.msk n_laws_eqTreeFunS 0).1 (G.msk n_laws_eqTreeFunS 0).2
noncomputable def laws_eqTreeFunS.A0 (k : Nat) : Ex × List T × Heap → Option (V × Heap) := fun r => aft (G.env n_laws_eqTreeFunS k) k 27 (bodyOf Tryd.f54) [1, 1, 0, 1, 0] 0 (ck G.P Tryd.f54) r.1 (unpick 27 (G.msk n_laws_eqTreeFunS 0).2 r.2.1) r.2.2
theorem laws_eqTreeFunS.eq (k : Nat) (a1 : V) (a2 : V) (σ : Heap) : hcall G (k + 1) n_laws_eqTreeFunS [a1, a2] σ = ((vlen a1).bind fun k3 => (vlen a2).bind fun k4 => bif !decide ((k3 : Int) = (k4 : Int)) then (some (.bool false, σ)) else ((laws_eqTreeFunS.L0 k k [.v a1, .v a2, .v (.int .i64 0)] σ).bind (laws_eqTreeFunS.A0 k))) := by
  kernel_rfl
theorem laws_eqTreeFunS.L0_step (k m : Nat) (a1 : V) (a2 : V) (n3 : Int) (σ : Heap) : laws_eqTreeFunS.L0 k (m + 1) [.v a1, .v a2, .v (.int .i64 n3)] σ = ((vlen a1).bind fun k4 => bif decide (n3 < (k4 : Int)) then ((vidx 9 a1 n3).bind fun p5 => (rdc σ p5.1 p5.2 9).bind fun l6 => uncons l6 fun c7 l8 => castStr c7 fun s9 => uncons l8 fun c10 l11 => castBool c10 fun b12 => uncons l11 fun c13 l14 => uncons l14 fun c15 l16 => castInt .i64 c15 fun n17 => uncons l16 fun c18 l19 => castInt .i64 c18 fun n20 => uncons l19 fun c21 l22 => castInt .i64 c21 fun n23 => uncons l22 fun c24 l25 => castStr c24 fun s26 => uncons l25 fun c27 l28 => castStr c27 fun s29 => uncons l28 fun c30 l31 => isNil l31 <| (vidx 9 a2 n3).bind fun p32 => (rdc σ p32.1 p32.2 9).bind fun l33 => uncons l33 fun c34 l35 => castStr c34 fun s36 => uncons l35 fun c37 l38 => castBool c37 fun b39 => uncons l38 fun c40 l41 => uncons l41 fun c42 l43 => castInt .i64 c42 fun n44 => uncons l43 fun c45 l46 => castInt .i64 c45 fun n47 => uncons l46 fun c48 l49 => castInt .i64 c48 fun n50 => uncons l49 fun c51 l52 => castStr c51 fun s53 => uncons l52 fun c54 l55 => castStr c54 fun s56 => uncons l55 fun c57 l58 => isNil l58 <| (hcall G k n_laws_eqTreeFun [.agg [.str s9, .bool b12, c13, .int .i64 n17, .int .i64 n20, .int .i64 n23, .str s26, .str s29, c30], .agg [.str s36, .bool b39, c40, .int .i64 n44, .int .i64 n47, .int .i64 n50, .str s53, .str s56, c57]] σ).bind fun q59 => castBool q59.1 fun b60 => bif !b60 then (some (.ret, [.v (.bool false)], q59.2)) else (laws_eqTreeFunS.L0 k m [.v a1, .v a2, .v (.int .i64 (IntKind.wrap .i64 (n3 + 1)))] q59.2)) else (some (.exit 0, [.bot], σ))) := by
  kernel_rfl
theorem laws_eqTreeFunS.A0_x0 (k : Nat) (t1 : T) (σ : Heap) : laws_eqTreeFunS.A0 k (.exit 0, [t1], σ) = (some (.bool true, σ)) := by
  kernel_rfl
theorem laws_eqTreeFunS.A0_ret (k : Nat) (b1 : Bool) (σ : Heap) : laws_eqTreeFunS.A0 k (.ret, [.v (.bool b1)], σ) = (some (.bool b1, σ)) := by
  kernel_rfl

/-! loop.example/smithy/laws.eqTreeMod: function 21 -/
theorem laws_eqTreeMod.eq (k : Nat) (a1 : V) (a2 : V) (a3 : V) (a4 : V) (a5 : V) (a6 : V) (σ : Heap) : hcall G (k + 1) n_laws_eqTreeMod [.agg [a1, a2, a3], .agg [a4, a5, a6]] σ = ((hcall G k n_laws_eqStringS [a1, a4] σ).bind fun q7 => castBool q7.1 fun b8 => bif !b8 then (some (.bool false, q7.2)) else ((hcall G k n_laws_eqTreeFunS [a2, a5] q7.2).bind fun q9 => castBool q9.1 fun b10 => bif !b10 then (some (.bool false, q9.2)) else ((hcall G k n_laws_eqTreeExprS [a3, a6] q9.2).bind fun q11 => castBool q11.1 fun b12 => bif !b12 then (some (.bool false, q11.2)) else (some (.bool true, q11.2))))) := by
  kernel_rfl

/-! loop.example/smithy/spec.l3Sig: function 73 -/
noncomputable def spec_l3Sig.L0 (k : Nat) : Nat → List T → Heap → Option (Ex × List T × Heap) := hloop (hx (G.env n_spec_l3Sig k) k 34 (subc (bodyOf Tryd.f73) [1, 1, 0, 1, 0, 0]) 0) 34 (G.msk n_spec_l3Sig 0).1 (G.msk n_spec_l3Sig 0).2
noncomputable def spec_l3Sig.A0 (k : Nat) : Ex × List T × Heap → Option (V × Heap) := fun r => aft (G.env n_spec_l3Sig k) k 34 (bodyOf Tryd.f73) [1, 1, 0, 1, 0] 0 (ck G.P Tryd.f73) r.1 (unpick 34 (G.msk n_spec_l3Sig 0).2 r.2.1) r.2.2
theorem spec_l3Sig.eq (k : Nat) (s1 : ByteArray) (a2 : V) (n3 : Int) (σ : Heap) : hcall G (k + 1) n_spec_l3Sig [.agg [.str s1, a2, .int .i64 n3]] σ = ((hcall G k n_spec_LexName [.str s1] σ).bind fun q4 => castBool q4.1 fun b5 => bif !b5 then (some (.bool false, q4.2)) else ((vlen a2).bind fun k6 => bif decide (4 < (k6 : Int)) then (some (.bool false, q4.2)) else ((hcall G k n_spec_TreeType [.int .i64 n3] q4.2).bind fun q7 => castStr q7.1 fun s8 => bif decide (s8 = (⟨#[]⟩ : ByteArray)) then (some (.bool false, q7.2)) else ((spec_l3Sig.L0 k k [.box [.str s1, a2, .int .i64 n3], .v (.int .i64 0)] q7.2).bind (spec_l3Sig.A0 k))))) := by
  kernel_rfl
theorem spec_l3Sig.L0_step (k m : Nat) (s1 : ByteArray) (a2 : V) (n3 : Int) (n4 : Int) (σ : Heap) : spec_l3Sig.L0 k (m + 1) [.box [.str s1, a2, .int .i64 n3], .v (.int .i64 n4)] σ = ((vlen a2).bind fun k5 => bif decide (n4 < (k5 : Int)) then ((vidx 1 a2 n4).bind fun p6 => (rdc σ p6.1 p6.2 1).bind fun l7 => uncons l7 fun c8 l9 => castInt .i64 c8 fun n10 => isNil l9 <| (hcall G k n_spec_TreeType [.int .i64 n10] σ).bind fun q11 => castStr q11.1 fun s12 => bif decide (s12 = (⟨#[]⟩ : ByteArray)) then (some (.ret, [.v (.bool false)], q11.2)) else (spec_l3Sig.L0 k m [.box [.str s1, a2, .int .i64 n3], .v (.int .i64 (IntKind.wrap .i64 (n4 + 1)))] q11.2)) else (some (.exit 0, [.bot], σ))) := by
  kernel_rfl
theorem spec_l3Sig.A0_x0 (k : Nat) (t1 : T) (σ : Heap) : spec_l3Sig.A0 k (.exit 0, [t1], σ) = (some (.bool true, σ)) := by
  kernel_rfl
theorem spec_l3Sig.A0_ret (k : Nat) (b1 : Bool) (σ : Heap) : spec_l3Sig.A0 k (.ret, [.v (.bool b1)], σ) = (some (.bool b1, σ)) := by
  kernel_rfl

/-! loop.example/smithy/spec.FaceOk: function 32 -/
noncomputable def spec_FaceOk.L0 (k : Nat) : Nat → List T → Heap → Option (Ex × List T × Heap) := hloop (hx (G.env n_spec_FaceOk k) k 37 (subc (bodyOf Tryd.f32) [1, 1, 0, 1, 0, 0]) 0) 37 (G.msk n_spec_FaceOk 0).1 (G.msk n_spec_FaceOk 0).2
noncomputable def spec_FaceOk.A0 (k : Nat) : Ex × List T × Heap → Option (V × Heap) := fun r => aft (G.env n_spec_FaceOk k) k 37 (bodyOf Tryd.f32) [1, 1, 0, 1, 0] 0 (ck G.P Tryd.f32) r.1 (unpick 37 (G.msk n_spec_FaceOk 0).2 r.2.1) r.2.2
theorem spec_FaceOk.eq (k : Nat) (a1 : V) (σ : Heap) : hcall G (k + 1) n_spec_FaceOk [a1] σ = ((vlen a1).bind fun k2 => bif decide (8 < (k2 : Int)) then (some (.bool false, σ)) else ((spec_FaceOk.L0 k k [.v a1, .v (.int .i64 0)] σ).bind (spec_FaceOk.A0 k))) := by
  kernel_rfl
theorem spec_FaceOk.L0_step (k m : Nat) (a1 : V) (n2 : Int) (σ : Heap) : spec_FaceOk.L0 k (m + 1) [.v a1, .v (.int .i64 n2)] σ = ((vlen a1).bind fun k3 => bif decide (n2 < (k3 : Int)) then ((vidx 3 a1 n2).bind fun p4 => (rdc σ p4.1 p4.2 3).bind fun l5 => uncons l5 fun c6 l7 => castStr c6 fun s8 => uncons l7 fun c9 l10 => uncons l10 fun c11 l12 => castInt .i64 c11 fun n13 => isNil l12 <| (hcall G k n_spec_l3Sig [.agg [.str s8, c9, .int .i64 n13]] σ).bind fun q14 => castBool q14.1 fun b15 => bif !b15 then (some (.ret, [.v (.bool false)], q14.2)) else (bif decide (0 < n2) then ((vidx 3 a1 n2).bind fun p16 => (rdc q14.2 p16.1 (p16.2 + 0) 1).bind fun l17 => uncons l17 fun c18 l19 => castStr c18 fun s20 => isNil l19 <| (vidx 3 a1 (IntKind.wrap .i64 (n2 - 1))).bind fun p21 => (rdc q14.2 p21.1 (p21.2 + 0) 1).bind fun l22 => uncons l22 fun c23 l24 => castStr c23 fun s25 => isNil l24 <| bif !Op.bytesLess s25.toList s20.toList then (some (.ret, [.v (.bool false)], q14.2)) else (spec_FaceOk.L0 k m [.v a1, .v (.int .i64 (IntKind.wrap .i64 (n2 + 1)))] q14.2)) else (spec_FaceOk.L0 k m [.v a1, .v (.int .i64 (IntKind.wrap .i64 (n2 + 1)))] q14.2))) else (some (.exit 0, [.bot], σ))) := by
  kernel_rfl
theorem spec_FaceOk.A0_x0 (k : Nat) (t1 : T) (σ : Heap) : spec_FaceOk.A0 k (.exit 0, [t1], σ) = (some (.bool true, σ)) := by
  kernel_rfl
theorem spec_FaceOk.A0_ret (k : Nat) (b1 : Bool) (σ : Heap) : spec_FaceOk.A0 k (.ret, [.v (.bool b1)], σ) = (some (.bool b1, σ)) := by
  kernel_rfl

/-! loop.example/smithy/impl.FaceOk: function 35 -/
noncomputable def impl_FaceOk.L0 (k : Nat) : Nat → List T → Heap → Option (Ex × List T × Heap) := hloop (hx (G.env n_impl_FaceOk k) k 47 (subc (bodyOf Tryd.f35) [1, 0, 1, 0, 0]) 0) 47 (G.msk n_impl_FaceOk 0).1 (G.msk n_impl_FaceOk 0).2
noncomputable def impl_FaceOk.A0 (k : Nat) : Ex × List T × Heap → Option (V × Heap) := fun r => aft (G.env n_impl_FaceOk k) k 47 (bodyOf Tryd.f35) [1, 0, 1, 0] 0 (ck G.P Tryd.f35) r.1 (unpick 47 (G.msk n_impl_FaceOk 0).2 r.2.1) r.2.2
theorem impl_FaceOk.eq (k : Nat) (a1 : V) (σ : Heap) : hcall G (k + 1) n_impl_FaceOk [a1] σ = ((vlen a1).bind fun k2 => (impl_FaceOk.L0 k k [.v a1, .v a1, .v (.int .i64 (k2 : Int)), .v (.int .i64 0)] σ).bind (impl_FaceOk.A0 k)) := by
  kernel_rfl
theorem impl_FaceOk.L0_step (k m : Nat) (a1 : V) (a2 : V) (n3 : Int) (n4 : Int) (σ : Heap) : impl_FaceOk.L0 k (m + 1) [.v a1, .v a2, .v (.int .i64 n3), .v (.int .i64 n4)] σ = (bif decide (n4 < n3) then ((vidx 3 a2 n4).bind fun p5 => (rdc σ p5.1 p5.2 3).bind fun l6 => uncons l6 fun c7 l8 => castStr c7 fun s9 => uncons l8 fun c10 l11 => uncons l11 fun c12 l13 => castInt .i64 c12 fun n14 => isNil l13 <| (hcall G k n_impl_LexName [.str s9] σ).bind fun q15 => castBool q15.1 fun b16 => bif !b16 then (some (.ret, [.v a1, .v (.bool false)], q15.2)) else (bif decide (0 < n4) then ((vidx 3 a1 (IntKind.wrap .i64 (n4 - 1))).bind fun p17 => (rdc q15.2 p17.1 (p17.2 + 0) 1).bind fun l18 => uncons l18 fun c19 l20 => castStr c19 fun s21 => isNil l20 <| bif !Op.bytesLess s21.toList s9.toList then (some (.ret, [.v a1, .v (.bool false)], q15.2)) else ((hcall G k n_impl_areTypes [c10] (prot [p17.1] q15.2)).bind fun q22 => castBool q22.1 fun b23 => bif !b23 then (some (.ret, [.v a1, .v (.bool false)], unprot [p17.1] q15.2 q22.2)) else ((hcall G k n_impl_isType [.int .i64 n14] (prot [p17.1] (unprot [p17.1] q15.2 q22.2))).bind fun q24 => castBool q24.1 fun b25 => bif !b25 then (some (.ret, [.v a1, .v (.bool false)], unprot [p17.1] (unprot [p17.1] q15.2 q22.2) q24.2)) else (impl_FaceOk.L0 k m [.v a1, .v a2, .v (.int .i64 n3), .v (.int .i64 (IntKind.wrap .i64 (n4 + 1)))] (unprot [p17.1] (unprot [p17.1] q15.2 q22.2) q24.2))))) else ((hcall G k n_impl_areTypes [c10] q15.2).bind fun q26 => castBool q26.1 fun b27 => bif !b27 then (some (.ret, [.v a1, .v (.bool false)], q26.2)) else ((hcall G k n_impl_isType [.int .i64 n14] q26.2).bind fun q28 => castBool q28.1 fun b29 => bif !b29 then (some (.ret, [.v a1, .v (.bool false)], q28.2)) else (impl_FaceOk.L0 k m [.v a1, .v a2, .v (.int .i64 n3), .v (.int .i64 (IntKind.wrap .i64 (n4 + 1)))] q28.2))))) else (some (.exit 0, [.v a1, .bot], σ))) := by
  kernel_rfl
theorem impl_FaceOk.A0_x0 (k : Nat) (a1 : V) (t2 : T) (σ : Heap) : impl_FaceOk.A0 k (.exit 0, [.v a1, t2], σ) = ((vlen a1).bind fun k3 => some (.bool (decide ((k3 : Int) ≤ 8)), σ)) := by
  kernel_rfl
theorem impl_FaceOk.A0_ret (k : Nat) (t1 : T) (b2 : Bool) (σ : Heap) : impl_FaceOk.A0 k (.ret, [t1, .v (.bool b2)], σ) = (some (.bool b2, σ)) := by
  kernel_rfl

/-! (*strings.Builder).WriteByte: function 99 -/
theorem pstrings_Builder_WriteByte.eq (k : Nat) (a1 : V) (n2 : Int) (σ : Heap) : hcall G (k + 1) n_pstrings_Builder_WriteByte [a1, .int .u8 n2] σ = ((hcall G k n_pstrings_Builder_copyCheck [a1] σ).bind fun q3 => castTuple q3.1 fun l4 => isNil l4 <| castPtr a1 fun r5 o6 => (rdc q3.2 r5 (o6 + 1) 1).bind fun l7 => uncons l7 fun c8 l9 => isNil l9 <| (vappendT 6 1 1 q3.2 c8 1 [.int .u8 n2]).bind fun q10 => castPtr a1 fun r11 o12 => one q10.1 <| (wrc q10.2 r11 (o12 + 1) [q10.1]).bind fun h13 => some (.nili, h13)) := by
  kernel_rfl
end Go.D
