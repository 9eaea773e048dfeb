/- The functions' equations. -/
import Derived.Test.YtoakhfnojbmhgaaGreatEG
namespace Go.G
open Go.HM Go.Proofs
set_option linter.unusedVariables false
set_option maxRecDepth 1000000
set_option maxHeartbeats 4000000

/-! loop.example/smithy/laws.szStringS: function 22 -/
noncomputable def laws_szStringS.L0 (k : Nat) : Nat → List T → Heap → Option (Ex × List T × Heap) := hloop (hx (G.env n_laws_szStringS k) k 28 (subc (bodyOf Tryz.f22) [1, 1, 1, 0, 1, 0, 0]) 0) 28 (G.msk n_laws_szStringS 0).1 (G.msk n_laws_szStringS 0).2
noncomputable def laws_szStringS.A0 (k : Nat) : Ex × List T × Heap → Option (V × Heap) := fun r => aft (G.env n_laws_szStringS k) k 28 (bodyOf Tryz.f22) [1, 1, 1, 0, 1, 0] 0 (ck G.P Tryz.f22) r.1 (unpick 28 (G.msk n_laws_szStringS 0).2 r.2.1) r.2.2
theorem laws_szStringS.eq (k : Nat) (a1 : V) (n2 : Int) (σ : Heap) : hcall G (k + 1) n_laws_szStringS [a1, .int .i64 n2] σ = ((vlen a1).bind fun k3 => bif decide (IntKind.wrap .i64 (n2 - (k3 : Int)) < 0) then (some (.int .i64 (-1), σ)) else ((laws_szStringS.L0 k k [.v a1, .v (.int .i64 (IntKind.wrap .i64 (n2 - (k3 : Int)))), .v (.int .i64 0)] σ).bind (laws_szStringS.A0 k))) := by
  kernel_rfl
theorem laws_szStringS.L0_step (k m : Nat) (a1 : V) (n2 : Int) (n3 : Int) (σ : Heap) : laws_szStringS.L0 k (m + 1) [.v a1, .v (.int .i64 n2), .v (.int .i64 n3)] σ = ((vlen a1).bind fun k4 => bif decide (n3 < (k4 : Int)) then ((vidx 1 a1 n3).bind fun p5 => (rdc σ p5.1 p5.2 1).bind fun l6 => uncons l6 fun c7 l8 => castStr c7 fun s9 => isNil l8 <| bif decide (IntKind.wrap .i64 (n2 - (s9.size : Int)) < 0) then (some (.ret, [.v (.int .i64 (IntKind.wrap .i64 (n2 - (s9.size : Int)))), .v (.int .i64 (-1))], σ)) else (laws_szStringS.L0 k m [.v a1, .v (.int .i64 (IntKind.wrap .i64 (n2 - (s9.size : Int)))), .v (.int .i64 (IntKind.wrap .i64 (n3 + 1)))] σ)) else (some (.exit 0, [.v (.int .i64 n2), .bot], σ))) := by
  kernel_rfl
theorem laws_szStringS.A0_x0 (k : Nat) (n1 : Int) (t2 : T) (σ : Heap) : laws_szStringS.A0 k (.exit 0, [.v (.int .i64 n1), t2], σ) = (some (.int .i64 n1, σ)) := by
  kernel_rfl
theorem laws_szStringS.A0_ret (k : Nat) (t1 : T) (n2 : Int) (σ : Heap) : laws_szStringS.A0 k (.ret, [t1, .v (.int .i64 n2)], σ) = (some (.int .i64 n2, σ)) := by
  kernel_rfl

/-! loop.example/smithy/laws.szTreeArg: function 26 -/
theorem laws_szTreeArg.eq (k : Nat) (s1 : ByteArray) (n2 : Int) (n3 : Int) (σ : Heap) : hcall G (k + 1) n_laws_szTreeArg [.agg [.str s1, .int .i64 n2], .int .i64 n3] σ = (bif decide (IntKind.wrap .i64 (n3 - (s1.size : Int)) < 0) then (some (.int .i64 (-1), σ)) else (some (.int .i64 (IntKind.wrap .i64 (n3 - (s1.size : Int))), σ))) := by
  kernel_rfl

/-! loop.example/smithy/laws.szTreeArgS: function 7 -/
noncomputable def laws_szTreeArgS.L0 (k : Nat) : Nat → List T → Heap → Option (Ex × List T × Heap) := hloop (hx (G.env n_laws_szTreeArgS k) k 27 (subc (bodyOf Tryz.f7) [1, 1, 1, 0, 1, 0, 0]) 0) 27 (G.msk n_laws_szTreeArgS 0).1 (G.msk n_laws_szTreeArgS 0).2
noncomputable def laws_szTreeArgS.A0 (k : Nat) : Ex × List T × Heap → Option (V × Heap) := fun r => aft (G.env n_laws_szTreeArgS k) k 27 (bodyOf Tryz.f7) [1, 1, 1, 0, 1, 0] 0 (ck G.P Tryz.f7) r.1 (unpick 27 (G.msk n_laws_szTreeArgS 0).2 r.2.1) r.2.2
theorem laws_szTreeArgS.eq (k : Nat) (a1 : V) (n2 : Int) (σ : Heap) : hcall G (k + 1) n_laws_szTreeArgS [a1, .int .i64 n2] σ = ((vlen a1).bind fun k3 => bif decide (IntKind.wrap .i64 (n2 - (k3 : Int)) < 0) then (some (.int .i64 (-1), σ)) else ((laws_szTreeArgS.L0 k k [.v a1, .v (.int .i64 (IntKind.wrap .i64 (n2 - (k3 : Int)))), .v (.int .i64 0)] σ).bind (laws_szTreeArgS.A0 k))) := by
  kernel_rfl
theorem laws_szTreeArgS.L0_step (k m : Nat) (a1 : V) (n2 : Int) (n3 : Int) (σ : Heap) : laws_szTreeArgS.L0 k (m + 1) [.v a1, .v (.int .i64 n2), .v (.int .i64 n3)] σ = ((vlen a1).bind fun k4 => bif decide (n3 < (k4 : Int)) then ((vidx 2 a1 n3).bind fun p5 => (rdc σ p5.1 p5.2 2).bind fun l6 => uncons l6 fun c7 l8 => castStr c7 fun s9 => uncons l8 fun c10 l11 => castInt .i64 c10 fun n12 => isNil l11 <| (hcall G k n_laws_szTreeArg [.agg [.str s9, .int .i64 n12], .int .i64 n2] σ).bind fun q13 => castInt .i64 q13.1 fun n14 => bif decide (n14 < 0) then (some (.ret, [.v (.int .i64 n14), .v (.int .i64 (-1))], q13.2)) else (laws_szTreeArgS.L0 k m [.v a1, .v (.int .i64 n14), .v (.int .i64 (IntKind.wrap .i64 (n3 + 1)))] q13.2)) else (some (.exit 0, [.v (.int .i64 n2), .bot], σ))) := by
  kernel_rfl
theorem laws_szTreeArgS.A0_x0 (k : Nat) (n1 : Int) (t2 : T) (σ : Heap) : laws_szTreeArgS.A0 k (.exit 0, [.v (.int .i64 n1), t2], σ) = (some (.int .i64 n1, σ)) := by
  kernel_rfl
theorem laws_szTreeArgS.A0_ret (k : Nat) (t1 : T) (n2 : Int) (σ : Heap) : laws_szTreeArgS.A0 k (.ret, [t1, .v (.int .i64 n2)], σ) = (some (.int .i64 n2, σ)) := by
  kernel_rfl

/-! loop.example/smithy/laws.szTreeExprS: function 24 -/
noncomputable def laws_szTreeExprS.L0 (k : Nat) : Nat → List T → Heap → Option (Ex × List T × Heap) := hloop (hx (G.env n_laws_szTreeExprS k) k 27 (subc (bodyOf Tryz.f24) [1, 1, 1, 0, 1, 0, 0]) 0) 27 (G.msk n_laws_szTreeExprS 0).1 (G.msk n_laws_szTreeExprS 0).2
noncomputable def laws_szTreeExprS.A0 (k : Nat) : Ex × List T × Heap → Option (V × Heap) := fun r => aft (G.env n_laws_szTreeExprS k) k 27 (bodyOf Tryz.f24) [1, 1, 1, 0, 1, 0] 0 (ck G.P Tryz.f24) r.1 (unpick 27 (G.msk n_laws_szTreeExprS 0).2 r.2.1) r.2.2
theorem laws_szTreeExprS.eq (k : Nat) (a1 : V) (n2 : Int) (σ : Heap) : hcall G (k + 1) n_laws_szTreeExprS [a1, .int .i64 n2] σ = ((vlen a1).bind fun k3 => bif decide (IntKind.wrap .i64 (n2 - (k3 : Int)) < 0) then (some (.int .i64 (-1), σ)) else ((laws_szTreeExprS.L0 k k [.v a1, .v (.int .i64 (IntKind.wrap .i64 (n2 - (k3 : Int)))), .v (.int .i64 0)] σ).bind (laws_szTreeExprS.A0 k))) := by
  kernel_rfl
theorem laws_szTreeExprS.L0_step (k m : Nat) (a1 : V) (n2 : Int) (n3 : Int) (σ : Heap) : laws_szTreeExprS.L0 k (m + 1) [.v a1, .v (.int .i64 n2), .v (.int .i64 n3)] σ = ((vlen a1).bind fun k4 => bif decide (n3 < (k4 : Int)) then ((vidx 5 a1 n3).bind fun p5 => (rdc σ p5.1 p5.2 5).bind fun l6 => uncons l6 fun c7 l8 => castInt .i64 c7 fun n9 => uncons l8 fun c10 l11 => castInt .i64 c10 fun n12 => uncons l11 fun c13 l14 => castStr c13 fun s15 => uncons l14 fun c16 l17 => castStr c16 fun s18 => uncons l17 fun c19 l20 => isNil l20 <| (hcall G k n_laws_szTreeExpr [.agg [.int .i64 n9, .int .i64 n12, .str s15, .str s18, c19], .int .i64 n2] σ).bind fun q21 => castInt .i64 q21.1 fun n22 => bif decide (n22 < 0) then (some (.ret, [.v (.int .i64 n22), .v (.int .i64 (-1))], q21.2)) else (laws_szTreeExprS.L0 k m [.v a1, .v (.int .i64 n22), .v (.int .i64 (IntKind.wrap .i64 (n3 + 1)))] q21.2)) else (some (.exit 0, [.v (.int .i64 n2), .bot], σ))) := by
  kernel_rfl
theorem laws_szTreeExprS.A0_x0 (k : Nat) (n1 : Int) (t2 : T) (σ : Heap) : laws_szTreeExprS.A0 k (.exit 0, [.v (.int .i64 n1), t2], σ) = (some (.int .i64 n1, σ)) := by
  kernel_rfl
theorem laws_szTreeExprS.A0_ret (k : Nat) (t1 : T) (n2 : Int) (σ : Heap) : laws_szTreeExprS.A0 k (.ret, [t1, .v (.int .i64 n2)], σ) = (some (.int .i64 n2, σ)) := by
  kernel_rfl

/-! loop.example/smithy/laws.szTreeExpr: function 8 -/
theorem laws_szTreeExpr.eq (k : Nat) (n1 : Int) (n2 : Int) (s3 : ByteArray) (s4 : ByteArray) (a5 : V) (n6 : Int) (σ : Heap) : hcall G (k + 1) n_laws_szTreeExpr [.agg [.int .i64 n1, .int .i64 n2, .str s3, .str s4, a5], .int .i64 n6] σ = (bif decide (IntKind.wrap .i64 (n6 - (s3.size : Int)) < 0) then (some (.int .i64 (-1), σ)) else (bif decide (IntKind.wrap .i64 ((IntKind.wrap .i64 (n6 - (s3.size : Int))) - (s4.size : Int)) < 0) then (some (.int .i64 (-1), σ)) else ((hcall G k n_laws_szTreeExprS [a5, .int .i64 (IntKind.wrap .i64 ((IntKind.wrap .i64 (n6 - (s3.size : Int))) - (s4.size : Int)))] σ).bind fun q7 => castInt .i64 q7.1 fun n8 => bif decide (n8 < 0) then (some (.int .i64 (-1), q7.2)) else (some (.int .i64 n8, q7.2))))) := by
  kernel_rfl

/-! loop.example/smithy/laws.szTreeFun: function 46 -/
theorem laws_szTreeFun.eq (k : Nat) (s1 : ByteArray) (b2 : Bool) (a3 : V) (n4 : Int) (n5 : Int) (n6 : Int) (s7 : ByteArray) (s8 : ByteArray) (a9 : V) (n10 : Int) (σ : Heap) : hcall G (k + 1) n_laws_szTreeFun [.agg [.str s1, .bool b2, a3, .int .i64 n4, .int .i64 n5, .int .i64 n6, .str s7, .str s8, a9], .int .i64 n10] σ = (bif decide (IntKind.wrap .i64 (n10 - (s1.size : Int)) < 0) then (some (.int .i64 (-1), σ)) else ((hcall G k n_laws_szTreeArgS [a3, .int .i64 (IntKind.wrap .i64 (n10 - (s1.size : Int)))] σ).bind fun q11 => castInt .i64 q11.1 fun n12 => bif decide (n12 < 0) then (some (.int .i64 (-1), q11.2)) else ((hcall G k n_laws_szTreeExpr [.agg [.int .i64 n5, .int .i64 n6, .str s7, .str s8, a9], .int .i64 n12] q11.2).bind fun q13 => castInt .i64 q13.1 fun n14 => bif decide (n14 < 0) then (some (.int .i64 (-1), q13.2)) else (some (.int .i64 n14, q13.2))))) := by
  kernel_rfl

/-! loop.example/smithy/laws.szTreeFunS: function 23 -/
noncomputable def laws_szTreeFunS.L0 (k : Nat) : Nat → List T → Heap → Option (Ex × List T × Heap) := hloop (hx (G.env n_laws_szTreeFunS k) k 27 (subc (bodyOf Tryz.f23) [1, 1, 1, 0, 1, 0, 0]) 0) 27 (G.msk n_laws_szTreeFunS 0).1 (G.msk n_laws_szTreeFunS 0).2
noncomputable def laws_szTreeFunS.A0 (k : Nat) : Ex × List T × Heap → Option (V × Heap) := fun r => aft (G.env n_laws_szTreeFunS k) k 27 (bodyOf Tryz.f23) [1, 1, 1, 0, 1, 0] 0 (ck G.P Tryz.f23) r.1 (unpick 27 (G.msk n_laws_szTreeFunS 0).2 r.2.1) r.2.2
theorem laws_szTreeFunS.eq (k : Nat) (a1 : V) (n2 : Int) (σ : Heap) : hcall G (k + 1) n_laws_szTreeFunS [a1, .int .i64 n2] σ = ((vlen a1).bind fun k3 => bif decide (IntKind.wrap .i64 (n2 - (k3 : Int)) < 0) then (some (.int .i64 (-1), σ)) else ((laws_szTreeFunS.L0 k k [.v a1, .v (.int .i64 (IntKind.wrap .i64 (n2 - (k3 : Int)))), .v (.int .i64 0)] σ).bind (laws_szTreeFunS.A0 k))) := by
  kernel_rfl
theorem laws_szTreeFunS.L0_step (k m : Nat) (a1 : V) (n2 : Int) (n3 : Int) (σ : Heap) : laws_szTreeFunS.L0 k (m + 1) [.v a1, .v (.int .i64 n2), .v (.int .i64 n3)] σ = ((vlen a1).bind fun k4 => bif decide (n3 < (k4 : Int)) then ((vidx 9 a1 n3).bind fun p5 => (rdc σ p5.1 p5.2 9).bind fun l6 => uncons l6 fun c7 l8 => castStr c7 fun s9 => uncons l8 fun c10 l11 => castBool c10 fun b12 => uncons l11 fun c13 l14 => uncons l14 fun c15 l16 => castInt .i64 c15 fun n17 => uncons l16 fun c18 l19 => castInt .i64 c18 fun n20 => uncons l19 fun c21 l22 => castInt .i64 c21 fun n23 => uncons l22 fun c24 l25 => castStr c24 fun s26 => uncons l25 fun c27 l28 => castStr c27 fun s29 => uncons l28 fun c30 l31 => isNil l31 <| (hcall G k n_laws_szTreeFun [.agg [.str s9, .bool b12, c13, .int .i64 n17, .int .i64 n20, .int .i64 n23, .str s26, .str s29, c30], .int .i64 n2] σ).bind fun q32 => castInt .i64 q32.1 fun n33 => bif decide (n33 < 0) then (some (.ret, [.v (.int .i64 n33), .v (.int .i64 (-1))], q32.2)) else (laws_szTreeFunS.L0 k m [.v a1, .v (.int .i64 n33), .v (.int .i64 (IntKind.wrap .i64 (n3 + 1)))] q32.2)) else (some (.exit 0, [.v (.int .i64 n2), .bot], σ))) := by
  kernel_rfl
theorem laws_szTreeFunS.A0_x0 (k : Nat) (n1 : Int) (t2 : T) (σ : Heap) : laws_szTreeFunS.A0 k (.exit 0, [.v (.int .i64 n1), t2], σ) = (some (.int .i64 n1, σ)) := by
  kernel_rfl
theorem laws_szTreeFunS.A0_ret (k : Nat) (t1 : T) (n2 : Int) (σ : Heap) : laws_szTreeFunS.A0 k (.ret, [t1, .v (.int .i64 n2)], σ) = (some (.int .i64 n2, σ)) := by
  kernel_rfl

/-! loop.example/smithy/laws.szTreeMod: function 5 -/
theorem laws_szTreeMod.eq (k : Nat) (a1 : V) (a2 : V) (a3 : V) (n4 : Int) (σ : Heap) : hcall G (k + 1) n_laws_szTreeMod [.agg [a1, a2, a3], .int .i64 n4] σ = ((hcall G k n_laws_szStringS [a1, .int .i64 n4] σ).bind fun q5 => castInt .i64 q5.1 fun n6 => bif decide (n6 < 0) then (some (.int .i64 (-1), q5.2)) else ((hcall G k n_laws_szTreeFunS [a2, .int .i64 n6] q5.2).bind fun q7 => castInt .i64 q7.1 fun n8 => bif decide (n8 < 0) then (some (.int .i64 (-1), q7.2)) else ((hcall G k n_laws_szTreeExprS [a3, .int .i64 n8] q7.2).bind fun q9 => castInt .i64 q9.1 fun n10 => bif decide (n10 < 0) then (some (.int .i64 (-1), q9.2)) else (some (.int .i64 n10, q9.2))))) := by
  kernel_rfl

/-! loop.example/smithy/laws.szIntS: function 108 -/
theorem laws_szIntS.eq (k : Nat) (a1 : V) (n2 : Int) (σ : Heap) : hcall G (k + 1) n_laws_szIntS [a1, .int .i64 n2] σ = ((vlen a1).bind fun k3 => bif decide (IntKind.wrap .i64 (n2 - (k3 : Int)) < 0) then (some (.int .i64 (-1), σ)) else (some (.int .i64 (IntKind.wrap .i64 (n2 - (k3 : Int))), σ))) := by
  kernel_rfl

/-! loop.example/smithy/laws.szFaceSig: function 81 -/
theorem laws_szFaceSig.eq (k : Nat) (s1 : ByteArray) (a2 : V) (n3 : Int) (n4 : Int) (σ : Heap) : hcall G (k + 1) n_laws_szFaceSig [.agg [.str s1, a2, .int .i64 n3], .int .i64 n4] σ = (bif decide (IntKind.wrap .i64 (n4 - (s1.size : Int)) < 0) then (some (.int .i64 (-1), σ)) else ((hcall G k n_laws_szIntS [a2, .int .i64 (IntKind.wrap .i64 (n4 - (s1.size : Int)))] σ).bind fun q5 => castInt .i64 q5.1 fun n6 => bif decide (n6 < 0) then (some (.int .i64 (-1), q5.2)) else (some (.int .i64 n6, q5.2)))) := by
  kernel_rfl

/-! loop.example/smithy/laws.szFaceSigS: function 47 -/
noncomputable def laws_szFaceSigS.L0 (k : Nat) : Nat → List T → Heap → Option (Ex × List T × Heap) := hloop (hx (G.env n_laws_szFaceSigS k) k 27 (subc (bodyOf Tryz.f47) [1, 1, 1, 0, 1, 0, 0]) 0) 27 (G.msk n_laws_szFaceSigS 0).1 (G.msk n_laws_szFaceSigS 0).2
noncomputable def laws_szFaceSigS.A0 (k : Nat) : Ex × List T × Heap → Option (V × Heap) := fun r => aft (G.env n_laws_szFaceSigS k) k 27 (bodyOf Tryz.f47) [1, 1, 1, 0, 1, 0] 0 (ck G.P Tryz.f47) r.1 (unpick 27 (G.msk n_laws_szFaceSigS 0).2 r.2.1) r.2.2
theorem laws_szFaceSigS.eq (k : Nat) (a1 : V) (n2 : Int) (σ : Heap) : hcall G (k + 1) n_laws_szFaceSigS [a1, .int .i64 n2] σ = ((vlen a1).bind fun k3 => bif decide (IntKind.wrap .i64 (n2 - (k3 : Int)) < 0) then (some (.int .i64 (-1), σ)) else ((laws_szFaceSigS.L0 k k [.v a1, .v (.int .i64 (IntKind.wrap .i64 (n2 - (k3 : Int)))), .v (.int .i64 0)] σ).bind (laws_szFaceSigS.A0 k))) := by
  kernel_rfl
theorem laws_szFaceSigS.L0_step (k m : Nat) (a1 : V) (n2 : Int) (n3 : Int) (σ : Heap) : laws_szFaceSigS.L0 k (m + 1) [.v a1, .v (.int .i64 n2), .v (.int .i64 n3)] σ = ((vlen a1).bind fun k4 => bif decide (n3 < (k4 : Int)) then ((vidx 3 a1 n3).bind fun p5 => (rdc σ p5.1 p5.2 3).bind fun l6 => uncons l6 fun c7 l8 => castStr c7 fun s9 => uncons l8 fun c10 l11 => uncons l11 fun c12 l13 => castInt .i64 c12 fun n14 => isNil l13 <| (hcall G k n_laws_szFaceSig [.agg [.str s9, c10, .int .i64 n14], .int .i64 n2] σ).bind fun q15 => castInt .i64 q15.1 fun n16 => bif decide (n16 < 0) then (some (.ret, [.v (.int .i64 n16), .v (.int .i64 (-1))], q15.2)) else (laws_szFaceSigS.L0 k m [.v a1, .v (.int .i64 n16), .v (.int .i64 (IntKind.wrap .i64 (n3 + 1)))] q15.2)) else (some (.exit 0, [.v (.int .i64 n2), .bot], σ))) := by
  kernel_rfl
theorem laws_szFaceSigS.A0_x0 (k : Nat) (n1 : Int) (t2 : T) (σ : Heap) : laws_szFaceSigS.A0 k (.exit 0, [.v (.int .i64 n1), t2], σ) = (some (.int .i64 n1, σ)) := by
  kernel_rfl
theorem laws_szFaceSigS.A0_ret (k : Nat) (t1 : T) (n2 : Int) (σ : Heap) : laws_szFaceSigS.A0 k (.ret, [t1, .v (.int .i64 n2)], σ) = (some (.int .i64 n2, σ)) := by
  kernel_rfl

/-! loop.example/smithy/laws.szTypeFace: function 25 -/
theorem laws_szTypeFace.eq (k : Nat) (s1 : ByteArray) (a2 : V) (n3 : Int) (σ : Heap) : hcall G (k + 1) n_laws_szTypeFace [.agg [.str s1, a2], .int .i64 n3] σ = (bif decide (IntKind.wrap .i64 (n3 - (s1.size : Int)) < 0) then (some (.int .i64 (-1), σ)) else ((hcall G k n_laws_szFaceSigS [a2, .int .i64 (IntKind.wrap .i64 (n3 - (s1.size : Int)))] σ).bind fun q4 => castInt .i64 q4.1 fun n5 => bif decide (n5 < 0) then (some (.int .i64 (-1), q4.2)) else (some (.int .i64 n5, q4.2)))) := by
  kernel_rfl

/-! loop.example/smithy/laws.szTypeFaceS: function 6 -/
noncomputable def laws_szTypeFaceS.L0 (k : Nat) : Nat → List T → Heap → Option (Ex × List T × Heap) := hloop (hx (G.env n_laws_szTypeFaceS k) k 27 (subc (bodyOf Tryz.f6) [1, 1, 1, 0, 1, 0, 0]) 0) 27 (G.msk n_laws_szTypeFaceS 0).1 (G.msk n_laws_szTypeFaceS 0).2
noncomputable def laws_szTypeFaceS.A0 (k : Nat) : Ex × List T × Heap → Option (V × Heap) := fun r => aft (G.env n_laws_szTypeFaceS k) k 27 (bodyOf Tryz.f6) [1, 1, 1, 0, 1, 0] 0 (ck G.P Tryz.f6) r.1 (unpick 27 (G.msk n_laws_szTypeFaceS 0).2 r.2.1) r.2.2
theorem laws_szTypeFaceS.eq (k : Nat) (a1 : V) (n2 : Int) (σ : Heap) : hcall G (k + 1) n_laws_szTypeFaceS [a1, .int .i64 n2] σ = ((vlen a1).bind fun k3 => bif decide (IntKind.wrap .i64 (n2 - (k3 : Int)) < 0) then (some (.int .i64 (-1), σ)) else ((laws_szTypeFaceS.L0 k k [.v a1, .v (.int .i64 (IntKind.wrap .i64 (n2 - (k3 : Int)))), .v (.int .i64 0)] σ).bind (laws_szTypeFaceS.A0 k))) := by
  kernel_rfl
theorem laws_szTypeFaceS.L0_step (k m : Nat) (a1 : V) (n2 : Int) (n3 : Int) (σ : Heap) : laws_szTypeFaceS.L0 k (m + 1) [.v a1, .v (.int .i64 n2), .v (.int .i64 n3)] σ = ((vlen a1).bind fun k4 => bif decide (n3 < (k4 : Int)) then ((vidx 2 a1 n3).bind fun p5 => (rdc σ p5.1 p5.2 2).bind fun l6 => uncons l6 fun c7 l8 => castStr c7 fun s9 => uncons l8 fun c10 l11 => isNil l11 <| (hcall G k n_laws_szTypeFace [.agg [.str s9, c10], .int .i64 n2] σ).bind fun q12 => castInt .i64 q12.1 fun n13 => bif decide (n13 < 0) then (some (.ret, [.v (.int .i64 n13), .v (.int .i64 (-1))], q12.2)) else (laws_szTypeFaceS.L0 k m [.v a1, .v (.int .i64 n13), .v (.int .i64 (IntKind.wrap .i64 (n3 + 1)))] q12.2)) else (some (.exit 0, [.v (.int .i64 n2), .bot], σ))) := by
  kernel_rfl
theorem laws_szTypeFaceS.A0_x0 (k : Nat) (n1 : Int) (t2 : T) (σ : Heap) : laws_szTypeFaceS.A0 k (.exit 0, [.v (.int .i64 n1), t2], σ) = (some (.int .i64 n1, σ)) := by
  kernel_rfl
theorem laws_szTypeFaceS.A0_ret (k : Nat) (t1 : T) (n2 : Int) (σ : Heap) : laws_szTypeFaceS.A0 k (.ret, [t1, .v (.int .i64 n2)], σ) = (some (.int .i64 n2, σ)) := by
  kernel_rfl

/-! loop.example/smithy/laws.toStringS: function 30 -/
noncomputable def laws_toStringS.L0 (k : Nat) : Nat → List T → Heap → Option (Ex × List T × Heap) := hloop (hx (G.env n_laws_toStringS k) k 22 (subc (bodyOf Tryz.f30) [1, 1, 0, 1, 0, 0]) 0) 22 (G.msk n_laws_toStringS 0).1 (G.msk n_laws_toStringS 0).2
noncomputable def laws_toStringS.A0 (k : Nat) : Ex × List T × Heap → Option (V × Heap) := fun r => aft (G.env n_laws_toStringS k) k 22 (bodyOf Tryz.f30) [1, 1, 0, 1, 0] 0 (ck G.P Tryz.f30) r.1 (unpick 22 (G.msk n_laws_toStringS 0).2 r.2.1) r.2.2
theorem laws_toStringS.eq (k : Nat) (a1 : V) (σ : Heap) : hcall G (k + 1) n_laws_toStringS [a1] σ = ((vlen a1).bind fun k2 => if 0 ≤ (k2 : Int) ∧ (k2 : Int) * 16 ≤ 2 ^ 46 ∧ (k2 : Int) ≤ 2 ^ 46 then ((laws_toStringS.L0 k k [.v a1, .v (.sl σ.length 0 ((k2 : Int) : Int).toNat true), .v (.int .i64 0)] (hnew σ 1 (List.replicate ((k2 : Int) : Int).toNat [.str (⟨#[]⟩ : ByteArray)]).flatten)).bind (laws_toStringS.A0 k)) else none) := by
  kernel_rfl
theorem laws_toStringS.L0_step (k m : Nat) (a1 : V) (a2 : V) (n3 : Int) (σ : Heap) : laws_toStringS.L0 k (m + 1) [.v a1, .v a2, .v (.int .i64 n3)] σ = ((vlen a1).bind fun k4 => bif decide (n3 < (k4 : Int)) then ((vidx 1 a1 n3).bind fun p5 => (rdc σ p5.1 p5.2 1).bind fun l6 => uncons l6 fun c7 l8 => castStr c7 fun s9 => isNil l8 <| (vidx 1 a2 n3).bind fun p10 => (wrc σ p10.1 p10.2 [.str s9]).bind fun h11 => laws_toStringS.L0 k m [.v a1, .v a2, .v (.int .i64 (IntKind.wrap .i64 (n3 + 1)))] h11) else (some (.exit 0, [.bot, .v a2], σ))) := by
  kernel_rfl
theorem laws_toStringS.A0_x0 (k : Nat) (t1 : T) (a2 : V) (σ : Heap) : laws_toStringS.A0 k (.exit 0, [t1, .v a2], σ) = (some (a2, σ)) := by
  kernel_rfl

/-! loop.example/smithy/laws.toTreeArg: function 34 -/
theorem laws_toTreeArg.eq (k : Nat) (s1 : ByteArray) (n2 : Int) (σ : Heap) : hcall G (k + 1) n_laws_toTreeArg [.agg [.str s1, .int .i64 n2]] σ = (some (.agg [.str s1, .int .i64 n2], σ)) := by
  kernel_rfl

/-! loop.example/smithy/laws.toTreeArgS: function 12 -/
noncomputable def laws_toTreeArgS.L0 (k : Nat) : Nat → List T → Heap → Option (Ex × List T × Heap) := hloop (hx (G.env n_laws_toTreeArgS k) k 23 (subc (bodyOf Tryz.f12) [1, 1, 0, 1, 0, 0]) 0) 23 (G.msk n_laws_toTreeArgS 0).1 (G.msk n_laws_toTreeArgS 0).2
noncomputable def laws_toTreeArgS.A0 (k : Nat) : Ex × List T × Heap → Option (V × Heap) := fun r => aft (G.env n_laws_toTreeArgS k) k 23 (bodyOf Tryz.f12) [1, 1, 0, 1, 0] 0 (ck G.P Tryz.f12) r.1 (unpick 23 (G.msk n_laws_toTreeArgS 0).2 r.2.1) r.2.2
theorem laws_toTreeArgS.eq (k : Nat) (a1 : V) (σ : Heap) : hcall G (k + 1) n_laws_toTreeArgS [a1] σ = ((vlen a1).bind fun k2 => if 0 ≤ (k2 : Int) ∧ (k2 : Int) * 24 ≤ 2 ^ 46 ∧ (k2 : Int) ≤ 2 ^ 46 then ((laws_toTreeArgS.L0 k k [.v a1, .v (.sl σ.length 0 ((k2 : Int) : Int).toNat true), .v (.int .i64 0)] (hnew σ 2 (List.replicate ((k2 : Int) : Int).toNat [.str (⟨#[]⟩ : ByteArray), .int .i64 0]).flatten)).bind (laws_toTreeArgS.A0 k)) else none) := by
  kernel_rfl
theorem laws_toTreeArgS.L0_step (k m : Nat) (a1 : V) (a2 : V) (n3 : Int) (σ : Heap) : laws_toTreeArgS.L0 k (m + 1) [.v a1, .v a2, .v (.int .i64 n3)] σ = ((vlen a1).bind fun k4 => bif decide (n3 < (k4 : Int)) then ((vidx 2 a1 n3).bind fun p5 => (rdc σ p5.1 p5.2 2).bind fun l6 => uncons l6 fun c7 l8 => castStr c7 fun s9 => uncons l8 fun c10 l11 => castInt .i64 c10 fun n12 => isNil l11 <| (hcall G k n_laws_toTreeArg [.agg [.str s9, .int .i64 n12]] σ).bind fun q13 => castAgg q13.1 fun l14 => uncons l14 fun c15 l16 => castStr c15 fun s17 => uncons l16 fun c18 l19 => castInt .i64 c18 fun n20 => isNil l19 <| (vidx 2 a2 n3).bind fun p21 => (wrc q13.2 p21.1 p21.2 [.str s17, .int .i64 n20]).bind fun h22 => laws_toTreeArgS.L0 k m [.v a1, .v a2, .v (.int .i64 (IntKind.wrap .i64 (n3 + 1)))] h22) else (some (.exit 0, [.bot, .v a2], σ))) := by
  kernel_rfl
theorem laws_toTreeArgS.A0_x0 (k : Nat) (t1 : T) (a2 : V) (σ : Heap) : laws_toTreeArgS.A0 k (.exit 0, [t1, .v a2], σ) = (some (a2, σ)) := by
  kernel_rfl

/-! loop.example/smithy/laws.toTreeExprS: function 32 -/
noncomputable def laws_toTreeExprS.L0 (k : Nat) : Nat → List T → Heap → Option (Ex × List T × Heap) := hloop (hx (G.env n_laws_toTreeExprS k) k 23 (subc (bodyOf Tryz.f32) [1, 1, 0, 1, 0, 0]) 0) 23 (G.msk n_laws_toTreeExprS 0).1 (G.msk n_laws_toTreeExprS 0).2
noncomputable def laws_toTreeExprS.A0 (k : Nat) : Ex × List T × Heap → Option (V × Heap) := fun r => aft (G.env n_laws_toTreeExprS k) k 23 (bodyOf Tryz.f32) [1, 1, 0, 1, 0] 0 (ck G.P Tryz.f32) r.1 (unpick 23 (G.msk n_laws_toTreeExprS 0).2 r.2.1) r.2.2
theorem laws_toTreeExprS.eq (k : Nat) (a1 : V) (σ : Heap) : hcall G (k + 1) n_laws_toTreeExprS [a1] σ = ((vlen a1).bind fun k2 => if 0 ≤ (k2 : Int) ∧ (k2 : Int) * 72 ≤ 2 ^ 46 ∧ (k2 : Int) ≤ 2 ^ 46 then ((laws_toTreeExprS.L0 k k [.v a1, .v (.sl σ.length 0 ((k2 : Int) : Int).toNat true), .v (.int .i64 0)] (hnew σ 5 (List.replicate ((k2 : Int) : Int).toNat [.int .i64 0, .int .i64 0, .str (⟨#[]⟩ : ByteArray), .str (⟨#[]⟩ : ByteArray), .nils]).flatten)).bind (laws_toTreeExprS.A0 k)) else none) := by
  kernel_rfl
theorem laws_toTreeExprS.L0_step (k m : Nat) (a1 : V) (a2 : V) (n3 : Int) (σ : Heap) : laws_toTreeExprS.L0 k (m + 1) [.v a1, .v a2, .v (.int .i64 n3)] σ = ((vlen a1).bind fun k4 => bif decide (n3 < (k4 : Int)) then ((vidx 5 a1 n3).bind fun p5 => (rdc σ p5.1 p5.2 5).bind fun l6 => uncons l6 fun c7 l8 => castInt .i64 c7 fun n9 => uncons l8 fun c10 l11 => castInt .i64 c10 fun n12 => uncons l11 fun c13 l14 => castStr c13 fun s15 => uncons l14 fun c16 l17 => castStr c16 fun s18 => uncons l17 fun c19 l20 => isNil l20 <| (hcall G k n_laws_toTreeExpr [.agg [.int .i64 n9, .int .i64 n12, .str s15, .str s18, c19]] σ).bind fun q21 => castAgg q21.1 fun l22 => uncons l22 fun c23 l24 => castInt .i64 c23 fun n25 => uncons l24 fun c26 l27 => castInt .i64 c26 fun n28 => uncons l27 fun c29 l30 => castStr c29 fun s31 => uncons l30 fun c32 l33 => castStr c32 fun s34 => uncons l33 fun c35 l36 => isNil l36 <| (vidx 5 a2 n3).bind fun p37 => (wrc q21.2 p37.1 p37.2 [.int .i64 n25, .int .i64 n28, .str s31, .str s34, c35]).bind fun h38 => laws_toTreeExprS.L0 k m [.v a1, .v a2, .v (.int .i64 (IntKind.wrap .i64 (n3 + 1)))] h38) else (some (.exit 0, [.bot, .v a2], σ))) := by
  kernel_rfl
theorem laws_toTreeExprS.A0_x0 (k : Nat) (t1 : T) (a2 : V) (σ : Heap) : laws_toTreeExprS.A0 k (.exit 0, [t1, .v a2], σ) = (some (a2, σ)) := by
  kernel_rfl

/-! loop.example/smithy/laws.toTreeExpr: function 13 -/
theorem laws_toTreeExpr.eq (k : Nat) (n1 : Int) (n2 : Int) (s3 : ByteArray) (s4 : ByteArray) (a5 : V) (σ : Heap) : hcall G (k + 1) n_laws_toTreeExpr [.agg [.int .i64 n1, .int .i64 n2, .str s3, .str s4, a5]] σ = ((hcall G k n_laws_toTreeExprS [a5] σ).bind fun q6 => one q6.1 <| some (.agg [.int .i64 n1, .int .i64 n2, .str s3, .str s4, q6.1], q6.2)) := by
  kernel_rfl

/-! loop.example/smithy/laws.toTreeFun: function 60 -/
theorem laws_toTreeFun.eq (k : Nat) (s1 : ByteArray) (b2 : Bool) (a3 : V) (n4 : Int) (n5 : Int) (n6 : Int) (s7 : ByteArray) (s8 : ByteArray) (a9 : V) (σ : Heap) : hcall G (k + 1) n_laws_toTreeFun [.agg [.str s1, .bool b2, a3, .int .i64 n4, .int .i64 n5, .int .i64 n6, .str s7, .str s8, a9]] σ = ((hcall G k n_laws_toTreeArgS [a3] σ).bind fun q10 => one q10.1 <| (hcall G k n_laws_toTreeExpr [.agg [.int .i64 n5, .int .i64 n6, .str s7, .str s8, a9]] q10.2).bind fun q11 => castAgg q11.1 fun l12 => uncons l12 fun c13 l14 => castInt .i64 c13 fun n15 => uncons l14 fun c16 l17 => castInt .i64 c16 fun n18 => uncons l17 fun c19 l20 => castStr c19 fun s21 => uncons l20 fun c22 l23 => castStr c22 fun s24 => uncons l23 fun c25 l26 => isNil l26 <| some (.agg [.str s1, .bool b2, q10.1, .int .i64 n4, .int .i64 n15, .int .i64 n18, .str s21, .str s24, c25], q11.2)) := by
  kernel_rfl

/-! loop.example/smithy/laws.toTreeFunS: function 31 -/
noncomputable def laws_toTreeFunS.L0 (k : Nat) : Nat → List T → Heap → Option (Ex × List T × Heap) := hloop (hx (G.env n_laws_toTreeFunS k) k 23 (subc (bodyOf Tryz.f31) [1, 1, 0, 1, 0, 0]) 0) 23 (G.msk n_laws_toTreeFunS 0).1 (G.msk n_laws_toTreeFunS 0).2
noncomputable def laws_toTreeFunS.A0 (k : Nat) : Ex × List T × Heap → Option (V × Heap) := fun r => aft (G.env n_laws_toTreeFunS k) k 23 (bodyOf Tryz.f31) [1, 1, 0, 1, 0] 0 (ck G.P Tryz.f31) r.1 (unpick 23 (G.msk n_laws_toTreeFunS 0).2 r.2.1) r.2.2
theorem laws_toTreeFunS.eq (k : Nat) (a1 : V) (σ : Heap) : hcall G (k + 1) n_laws_toTreeFunS [a1] σ = ((vlen a1).bind fun k2 => if 0 ≤ (k2 : Int) ∧ (k2 : Int) * 128 ≤ 2 ^ 46 ∧ (k2 : Int) ≤ 2 ^ 46 then ((laws_toTreeFunS.L0 k k [.v a1, .v (.sl σ.length 0 ((k2 : Int) : Int).toNat true), .v (.int .i64 0)] (hnew σ 9 (List.replicate ((k2 : Int) : Int).toNat [.str (⟨#[]⟩ : ByteArray), .bool false, .nils, .int .i64 0, .int .i64 0, .int .i64 0, .str (⟨#[]⟩ : ByteArray), .str (⟨#[]⟩ : ByteArray), .nils]).flatten)).bind (laws_toTreeFunS.A0 k)) else none) := by
  kernel_rfl
theorem laws_toTreeFunS.L0_step (k m : Nat) (a1 : V) (a2 : V) (n3 : Int) (σ : Heap) : laws_toTreeFunS.L0 k (m + 1) [.v a1, .v a2, .v (.int .i64 n3)] σ = ((vlen a1).bind fun k4 => bif decide (n3 < (k4 : Int)) then ((vidx 9 a1 n3).bind fun p5 => (rdc σ p5.1 p5.2 9).bind fun l6 => uncons l6 fun c7 l8 => castStr c7 fun s9 => uncons l8 fun c10 l11 => castBool c10 fun b12 => uncons l11 fun c13 l14 => uncons l14 fun c15 l16 => castInt .i64 c15 fun n17 => uncons l16 fun c18 l19 => castInt .i64 c18 fun n20 => uncons l19 fun c21 l22 => castInt .i64 c21 fun n23 => uncons l22 fun c24 l25 => castStr c24 fun s26 => uncons l25 fun c27 l28 => castStr c27 fun s29 => uncons l28 fun c30 l31 => isNil l31 <| (hcall G k n_laws_toTreeFun [.agg [.str s9, .bool b12, c13, .int .i64 n17, .int .i64 n20, .int .i64 n23, .str s26, .str s29, c30]] σ).bind fun q32 => castAgg q32.1 fun l33 => uncons l33 fun c34 l35 => castStr c34 fun s36 => uncons l35 fun c37 l38 => castBool c37 fun b39 => uncons l38 fun c40 l41 => uncons l41 fun c42 l43 => castInt .i64 c42 fun n44 => uncons l43 fun c45 l46 => castInt .i64 c45 fun n47 => uncons l46 fun c48 l49 => castInt .i64 c48 fun n50 => uncons l49 fun c51 l52 => castStr c51 fun s53 => uncons l52 fun c54 l55 => castStr c54 fun s56 => uncons l55 fun c57 l58 => isNil l58 <| (vidx 9 a2 n3).bind fun p59 => (wrc q32.2 p59.1 p59.2 [.str s36, .bool b39, c40, .int .i64 n44, .int .i64 n47, .int .i64 n50, .str s53, .str s56, c57]).bind fun h60 => laws_toTreeFunS.L0 k m [.v a1, .v a2, .v (.int .i64 (IntKind.wrap .i64 (n3 + 1)))] h60) else (some (.exit 0, [.bot, .v a2], σ))) := by
  kernel_rfl
theorem laws_toTreeFunS.A0_x0 (k : Nat) (t1 : T) (a2 : V) (σ : Heap) : laws_toTreeFunS.A0 k (.exit 0, [t1, .v a2], σ) = (some (a2, σ)) := by
  kernel_rfl

/-! loop.example/smithy/laws.toTreeMod: function 10 -/
theorem laws_toTreeMod.eq (k : Nat) (a1 : V) (a2 : V) (a3 : V) (σ : Heap) : hcall G (k + 1) n_laws_toTreeMod [.agg [a1, a2, a3]] σ = ((hcall G k n_laws_toStringS [a1] σ).bind fun q4 => one q4.1 <| (hcall G k n_laws_toTreeFunS [a2] q4.2).bind fun q5 => one q5.1 <| (hcall G k n_laws_toTreeExprS [a3] q5.2).bind fun q6 => one q6.1 <| some (.agg [q4.1, q5.1, q6.1], q6.2)) := by
  kernel_rfl

/-! loop.example/smithy/laws.toIntS: function 113 -/
noncomputable def laws_toIntS.L0 (k : Nat) : Nat → List T → Heap → Option (Ex × List T × Heap) := hloop (hx (G.env n_laws_toIntS k) k 22 (subc (bodyOf Tryz.f113) [1, 1, 0, 1, 0, 0]) 0) 22 (G.msk n_laws_toIntS 0).1 (G.msk n_laws_toIntS 0).2
noncomputable def laws_toIntS.A0 (k : Nat) : Ex × List T × Heap → Option (V × Heap) := fun r => aft (G.env n_laws_toIntS k) k 22 (bodyOf Tryz.f113) [1, 1, 0, 1, 0] 0 (ck G.P Tryz.f113) r.1 (unpick 22 (G.msk n_laws_toIntS 0).2 r.2.1) r.2.2
theorem laws_toIntS.eq (k : Nat) (a1 : V) (σ : Heap) : hcall G (k + 1) n_laws_toIntS [a1] σ = ((vlen a1).bind fun k2 => if 0 ≤ (k2 : Int) ∧ (k2 : Int) * 8 ≤ 2 ^ 46 ∧ (k2 : Int) ≤ 2 ^ 46 then ((laws_toIntS.L0 k k [.v a1, .v (.sl σ.length 0 ((k2 : Int) : Int).toNat true), .v (.int .i64 0)] (hnew σ 1 (List.replicate ((k2 : Int) : Int).toNat [.int .i64 0]).flatten)).bind (laws_toIntS.A0 k)) else none) := by
  kernel_rfl
theorem laws_toIntS.L0_step (k m : Nat) (a1 : V) (a2 : V) (n3 : Int) (σ : Heap) : laws_toIntS.L0 k (m + 1) [.v a1, .v a2, .v (.int .i64 n3)] σ = ((vlen a1).bind fun k4 => bif decide (n3 < (k4 : Int)) then ((vidx 1 a1 n3).bind fun p5 => (rdc σ p5.1 p5.2 1).bind fun l6 => uncons l6 fun c7 l8 => castInt .i64 c7 fun n9 => isNil l8 <| (vidx 1 a2 n3).bind fun p10 => (wrc σ p10.1 p10.2 [.int .i64 n9]).bind fun h11 => laws_toIntS.L0 k m [.v a1, .v a2, .v (.int .i64 (IntKind.wrap .i64 (n3 + 1)))] h11) else (some (.exit 0, [.bot, .v a2], σ))) := by
  kernel_rfl
theorem laws_toIntS.A0_x0 (k : Nat) (t1 : T) (a2 : V) (σ : Heap) : laws_toIntS.A0 k (.exit 0, [t1, .v a2], σ) = (some (a2, σ)) := by
  kernel_rfl

/-! loop.example/smithy/laws.toFaceSig: function 88 -/
theorem laws_toFaceSig.eq (k : Nat) (s1 : ByteArray) (a2 : V) (n3 : Int) (σ : Heap) : hcall G (k + 1) n_laws_toFaceSig [.agg [.str s1, a2, .int .i64 n3]] σ = ((hcall G k n_laws_toIntS [a2] σ).bind fun q4 => one q4.1 <| some (.agg [.str s1, q4.1, .int .i64 n3], q4.2)) := by
  kernel_rfl

/-! loop.example/smithy/laws.toFaceSigS: function 61 -/
noncomputable def laws_toFaceSigS.L0 (k : Nat) : Nat → List T → Heap → Option (Ex × List T × Heap) := hloop (hx (G.env n_laws_toFaceSigS k) k 23 (subc (bodyOf Tryz.f61) [1, 1, 0, 1, 0, 0]) 0) 23 (G.msk n_laws_toFaceSigS 0).1 (G.msk n_laws_toFaceSigS 0).2
noncomputable def laws_toFaceSigS.A0 (k : Nat) : Ex × List T × Heap → Option (V × Heap) := fun r => aft (G.env n_laws_toFaceSigS k) k 23 (bodyOf Tryz.f61) [1, 1, 0, 1, 0] 0 (ck G.P Tryz.f61) r.1 (unpick 23 (G.msk n_laws_toFaceSigS 0).2 r.2.1) r.2.2
theorem laws_toFaceSigS.eq (k : Nat) (a1 : V) (σ : Heap) : hcall G (k + 1) n_laws_toFaceSigS [a1] σ = ((vlen a1).bind fun k2 => if 0 ≤ (k2 : Int) ∧ (k2 : Int) * 48 ≤ 2 ^ 46 ∧ (k2 : Int) ≤ 2 ^ 46 then ((laws_toFaceSigS.L0 k k [.v a1, .v (.sl σ.length 0 ((k2 : Int) : Int).toNat true), .v (.int .i64 0)] (hnew σ 3 (List.replicate ((k2 : Int) : Int).toNat [.str (⟨#[]⟩ : ByteArray), .nils, .int .i64 0]).flatten)).bind (laws_toFaceSigS.A0 k)) else none) := by
  kernel_rfl
theorem laws_toFaceSigS.L0_step (k m : Nat) (a1 : V) (a2 : V) (n3 : Int) (σ : Heap) : laws_toFaceSigS.L0 k (m + 1) [.v a1, .v a2, .v (.int .i64 n3)] σ = ((vlen a1).bind fun k4 => bif decide (n3 < (k4 : Int)) then ((vidx 3 a1 n3).bind fun p5 => (rdc σ p5.1 p5.2 3).bind fun l6 => uncons l6 fun c7 l8 => castStr c7 fun s9 => uncons l8 fun c10 l11 => uncons l11 fun c12 l13 => castInt .i64 c12 fun n14 => isNil l13 <| (hcall G k n_laws_toFaceSig [.agg [.str s9, c10, .int .i64 n14]] σ).bind fun q15 => castAgg q15.1 fun l16 => uncons l16 fun c17 l18 => castStr c17 fun s19 => uncons l18 fun c20 l21 => uncons l21 fun c22 l23 => castInt .i64 c22 fun n24 => isNil l23 <| (vidx 3 a2 n3).bind fun p25 => (wrc q15.2 p25.1 p25.2 [.str s19, c20, .int .i64 n24]).bind fun h26 => laws_toFaceSigS.L0 k m [.v a1, .v a2, .v (.int .i64 (IntKind.wrap .i64 (n3 + 1)))] h26) else (some (.exit 0, [.bot, .v a2], σ))) := by
  kernel_rfl
theorem laws_toFaceSigS.A0_x0 (k : Nat) (t1 : T) (a2 : V) (σ : Heap) : laws_toFaceSigS.A0 k (.exit 0, [t1, .v a2], σ) = (some (a2, σ)) := by
  kernel_rfl

/-! loop.example/smithy/laws.toTypeFace: function 33 -/
theorem laws_toTypeFace.eq (k : Nat) (s1 : ByteArray) (a2 : V) (σ : Heap) : hcall G (k + 1) n_laws_toTypeFace [.agg [.str s1, a2]] σ = ((hcall G k n_laws_toFaceSigS [a2] σ).bind fun q3 => one q3.1 <| some (.agg [.str s1, q3.1], q3.2)) := by
  kernel_rfl

/-! loop.example/smithy/laws.toTypeFaceS: function 11 -/
noncomputable def laws_toTypeFaceS.L0 (k : Nat) : Nat → List T → Heap → Option (Ex × List T × Heap) := hloop (hx (G.env n_laws_toTypeFaceS k) k 23 (subc (bodyOf Tryz.f11) [1, 1, 0, 1, 0, 0]) 0) 23 (G.msk n_laws_toTypeFaceS 0).1 (G.msk n_laws_toTypeFaceS 0).2
noncomputable def laws_toTypeFaceS.A0 (k : Nat) : Ex × List T × Heap → Option (V × Heap) := fun r => aft (G.env n_laws_toTypeFaceS k) k 23 (bodyOf Tryz.f11) [1, 1, 0, 1, 0] 0 (ck G.P Tryz.f11) r.1 (unpick 23 (G.msk n_laws_toTypeFaceS 0).2 r.2.1) r.2.2
theorem laws_toTypeFaceS.eq (k : Nat) (a1 : V) (σ : Heap) : hcall G (k + 1) n_laws_toTypeFaceS [a1] σ = ((vlen a1).bind fun k2 => if 0 ≤ (k2 : Int) ∧ (k2 : Int) * 40 ≤ 2 ^ 46 ∧ (k2 : Int) ≤ 2 ^ 46 then ((laws_toTypeFaceS.L0 k k [.v a1, .v (.sl σ.length 0 ((k2 : Int) : Int).toNat true), .v (.int .i64 0)] (hnew σ 2 (List.replicate ((k2 : Int) : Int).toNat [.str (⟨#[]⟩ : ByteArray), .nils]).flatten)).bind (laws_toTypeFaceS.A0 k)) else none) := by
  kernel_rfl
theorem laws_toTypeFaceS.L0_step (k m : Nat) (a1 : V) (a2 : V) (n3 : Int) (σ : Heap) : laws_toTypeFaceS.L0 k (m + 1) [.v a1, .v a2, .v (.int .i64 n3)] σ = ((vlen a1).bind fun k4 => bif decide (n3 < (k4 : Int)) then ((vidx 2 a1 n3).bind fun p5 => (rdc σ p5.1 p5.2 2).bind fun l6 => uncons l6 fun c7 l8 => castStr c7 fun s9 => uncons l8 fun c10 l11 => isNil l11 <| (hcall G k n_laws_toTypeFace [.agg [.str s9, c10]] σ).bind fun q12 => castAgg q12.1 fun l13 => uncons l13 fun c14 l15 => castStr c14 fun s16 => uncons l15 fun c17 l18 => isNil l18 <| (vidx 2 a2 n3).bind fun p19 => (wrc q12.2 p19.1 p19.2 [.str s16, c17]).bind fun h20 => laws_toTypeFaceS.L0 k m [.v a1, .v a2, .v (.int .i64 (IntKind.wrap .i64 (n3 + 1)))] h20) else (some (.exit 0, [.bot, .v a2], σ))) := by
  kernel_rfl
theorem laws_toTypeFaceS.A0_x0 (k : Nat) (t1 : T) (a2 : V) (σ : Heap) : laws_toTypeFaceS.A0 k (.exit 0, [t1, .v a2], σ) = (some (a2, σ)) := by
  kernel_rfl

/-! loop.example/smithy/laws.eqStringS: function 38 -/
noncomputable def laws_eqStringS.L0 (k : Nat) : Nat → List T → Heap → Option (Ex × List T × Heap) := hloop (hx (G.env n_laws_eqStringS k) k 26 (subc (bodyOf Tryz.f38) [1, 1, 0, 1, 0, 0]) 0) 26 (G.msk n_laws_eqStringS 0).1 (G.msk n_laws_eqStringS 0).2
noncomputable def laws_eqStringS.A0 (k : Nat) : Ex × List T × Heap → Option (V × Heap) := fun r => aft (G.env n_laws_eqStringS k) k 26 (bodyOf Tryz.f38) [1, 1, 0, 1, 0] 0 (ck G.P Tryz.f38) r.1 (unpick 26 (G.msk n_laws_eqStringS 0).2 r.2.1) r.2.2
theorem laws_eqStringS.eq (k : Nat) (a1 : V) (a2 : V) (σ : Heap) : hcall G (k + 1) n_laws_eqStringS [a1, a2] σ = ((vlen a1).bind fun k3 => (vlen a2).bind fun k4 => bif !decide ((k3 : Int) = (k4 : Int)) then (some (.bool false, σ)) else ((laws_eqStringS.L0 k k [.v a1, .v a2, .v (.int .i64 0)] σ).bind (laws_eqStringS.A0 k))) := by
  kernel_rfl
theorem laws_eqStringS.L0_step (k m : Nat) (a1 : V) (a2 : V) (n3 : Int) (σ : Heap) : laws_eqStringS.L0 k (m + 1) [.v a1, .v a2, .v (.int .i64 n3)] σ = ((vlen a1).bind fun k4 => bif decide (n3 < (k4 : Int)) then ((vidx 1 a1 n3).bind fun p5 => (rdc σ p5.1 p5.2 1).bind fun l6 => uncons l6 fun c7 l8 => castStr c7 fun s9 => isNil l8 <| (vidx 1 a2 n3).bind fun p10 => (rdc σ p10.1 p10.2 1).bind fun l11 => uncons l11 fun c12 l13 => castStr c12 fun s14 => isNil l13 <| bif !decide (s9 = s14) then (some (.ret, [.v (.bool false)], σ)) else (laws_eqStringS.L0 k m [.v a1, .v a2, .v (.int .i64 (IntKind.wrap .i64 (n3 + 1)))] σ)) else (some (.exit 0, [.bot], σ))) := by
  kernel_rfl
theorem laws_eqStringS.A0_x0 (k : Nat) (t1 : T) (σ : Heap) : laws_eqStringS.A0 k (.exit 0, [t1], σ) = (some (.bool true, σ)) := by
  kernel_rfl
theorem laws_eqStringS.A0_ret (k : Nat) (b1 : Bool) (σ : Heap) : laws_eqStringS.A0 k (.ret, [.v (.bool b1)], σ) = (some (.bool b1, σ)) := by
  kernel_rfl

/-! loop.example/smithy/laws.eqTreeArg: function 42 -/
theorem laws_eqTreeArg.eq (k : Nat) (s1 : ByteArray) (n2 : Int) (s3 : ByteArray) (n4 : Int) (σ : Heap) : hcall G (k + 1) n_laws_eqTreeArg [.agg [.str s1, .int .i64 n2], .agg [.str s3, .int .i64 n4]] σ = (bif !decide (s1 = s3) then (some (.bool false, σ)) else (bif !decide (n2 = n4) then (some (.bool false, σ)) else (some (.bool true, σ)))) := by
  kernel_rfl

/-! loop.example/smithy/laws.eqTreeArgS: function 17 -/
noncomputable def laws_eqTreeArgS.L0 (k : Nat) : Nat → List T → Heap → Option (Ex × List T × Heap) := hloop (hx (G.env n_laws_eqTreeArgS k) k 27 (subc (bodyOf Tryz.f17) [1, 1, 0, 1, 0, 0]) 0) 27 (G.msk n_laws_eqTreeArgS 0).1 (G.msk n_laws_eqTreeArgS 0).2
noncomputable def laws_eqTreeArgS.A0 (k : Nat) : Ex × List T × Heap → Option (V × Heap) := fun r => aft (G.env n_laws_eqTreeArgS k) k 27 (bodyOf Tryz.f17) [1, 1, 0, 1, 0] 0 (ck G.P Tryz.f17) r.1 (unpick 27 (G.msk n_laws_eqTreeArgS 0).2 r.2.1) r.2.2
theorem laws_eqTreeArgS.eq (k : Nat) (a1 : V) (a2 : V) (σ : Heap) : hcall G (k + 1) n_laws_eqTreeArgS [a1, a2] σ = ((vlen a1).bind fun k3 => (vlen a2).bind fun k4 => bif !decide ((k3 : Int) = (k4 : Int)) then (some (.bool false, σ)) else ((laws_eqTreeArgS.L0 k k [.v a1, .v a2, .v (.int .i64 0)] σ).bind (laws_eqTreeArgS.A0 k))) := by
  kernel_rfl
theorem laws_eqTreeArgS.L0_step (k m : Nat) (a1 : V) (a2 : V) (n3 : Int) (σ : Heap) : laws_eqTreeArgS.L0 k (m + 1) [.v a1, .v a2, .v (.int .i64 n3)] σ = ((vlen a1).bind fun k4 => bif decide (n3 < (k4 : Int)) then ((vidx 2 a1 n3).bind fun p5 => (rdc σ p5.1 p5.2 2).bind fun l6 => uncons l6 fun c7 l8 => castStr c7 fun s9 => uncons l8 fun c10 l11 => castInt .i64 c10 fun n12 => isNil l11 <| (vidx 2 a2 n3).bind fun p13 => (rdc σ p13.1 p13.2 2).bind fun l14 => uncons l14 fun c15 l16 => castStr c15 fun s17 => uncons l16 fun c18 l19 => castInt .i64 c18 fun n20 => isNil l19 <| (hcall G k n_laws_eqTreeArg [.agg [.str s9, .int .i64 n12], .agg [.str s17, .int .i64 n20]] σ).bind fun q21 => castBool q21.1 fun b22 => bif !b22 then (some (.ret, [.v (.bool false)], q21.2)) else (laws_eqTreeArgS.L0 k m [.v a1, .v a2, .v (.int .i64 (IntKind.wrap .i64 (n3 + 1)))] q21.2)) else (some (.exit 0, [.bot], σ))) := by
  kernel_rfl
theorem laws_eqTreeArgS.A0_x0 (k : Nat) (t1 : T) (σ : Heap) : laws_eqTreeArgS.A0 k (.exit 0, [t1], σ) = (some (.bool true, σ)) := by
  kernel_rfl
theorem laws_eqTreeArgS.A0_ret (k : Nat) (b1 : Bool) (σ : Heap) : laws_eqTreeArgS.A0 k (.ret, [.v (.bool b1)], σ) = (some (.bool b1, σ)) := by
  kernel_rfl

/-! loop.example/smithy/laws.eqTreeExprS: function 40 -/
noncomputable def laws_eqTreeExprS.L0 (k : Nat) : Nat → List T → Heap → Option (Ex × List T × Heap) := hloop (hx (G.env n_laws_eqTreeExprS k) k 27 (subc (bodyOf Tryz.f40) [1, 1, 0, 1, 0, 0]) 0) 27 (G.msk n_laws_eqTreeExprS 0).1 (G.msk n_laws_eqTreeExprS 0).2
noncomputable def laws_eqTreeExprS.A0 (k : Nat) : Ex × List T × Heap → Option (V × Heap) := fun r => aft (G.env n_laws_eqTreeExprS k) k 27 (bodyOf Tryz.f40) [1, 1, 0, 1, 0] 0 (ck G.P Tryz.f40) r.1 (unpick 27 (G.msk n_laws_eqTreeExprS 0).2 r.2.1) r.2.2
theorem laws_eqTreeExprS.eq (k : Nat) (a1 : V) (a2 : V) (σ : Heap) : hcall G (k + 1) n_laws_eqTreeExprS [a1, a2] σ = ((vlen a1).bind fun k3 => (vlen a2).bind fun k4 => bif !decide ((k3 : Int) = (k4 : Int)) then (some (.bool false, σ)) else ((laws_eqTreeExprS.L0 k k [.v a1, .v a2, .v (.int .i64 0)] σ).bind (laws_eqTreeExprS.A0 k))) := by
  kernel_rfl
theorem laws_eqTreeExprS.L0_step (k m : Nat) (a1 : V) (a2 : V) (n3 : Int) (σ : Heap) : laws_eqTreeExprS.L0 k (m + 1) [.v a1, .v a2, .v (.int .i64 n3)] σ = ((vlen a1).bind fun k4 => bif decide (n3 < (k4 : Int)) then ((vidx 5 a1 n3).bind fun p5 => (rdc σ p5.1 p5.2 5).bind fun l6 => uncons l6 fun c7 l8 => castInt .i64 c7 fun n9 => uncons l8 fun c10 l11 => castInt .i64 c10 fun n12 => uncons l11 fun c13 l14 => castStr c13 fun s15 => uncons l14 fun c16 l17 => castStr c16 fun s18 => uncons l17 fun c19 l20 => isNil l20 <| (vidx 5 a2 n3).bind fun p21 => (rdc σ p21.1 p21.2 5).bind fun l22 => uncons l22 fun c23 l24 => castInt .i64 c23 fun n25 => uncons l24 fun c26 l27 => castInt .i64 c26 fun n28 => uncons l27 fun c29 l30 => castStr c29 fun s31 => uncons l30 fun c32 l33 => castStr c32 fun s34 => uncons l33 fun c35 l36 => isNil l36 <| (hcall G k n_laws_eqTreeExpr [.agg [.int .i64 n9, .int .i64 n12, .str s15, .str s18, c19], .agg [.int .i64 n25, .int .i64 n28, .str s31, .str s34, c35]] σ).bind fun q37 => castBool q37.1 fun b38 => bif !b38 then (some (.ret, [.v (.bool false)], q37.2)) else (laws_eqTreeExprS.L0 k m [.v a1, .v a2, .v (.int .i64 (IntKind.wrap .i64 (n3 + 1)))] q37.2)) else (some (.exit 0, [.bot], σ))) := by
  kernel_rfl
theorem laws_eqTreeExprS.A0_x0 (k : Nat) (t1 : T) (σ : Heap) : laws_eqTreeExprS.A0 k (.exit 0, [t1], σ) = (some (.bool true, σ)) := by
  kernel_rfl
theorem laws_eqTreeExprS.A0_ret (k : Nat) (b1 : Bool) (σ : Heap) : laws_eqTreeExprS.A0 k (.ret, [.v (.bool b1)], σ) = (some (.bool b1, σ)) := by
  kernel_rfl

/-! loop.example/smithy/laws.eqTreeExpr: function 18 -/
theorem laws_eqTreeExpr.eq (k : Nat) (n1 : Int) (n2 : Int) (s3 : ByteArray) (s4 : ByteArray) (a5 : V) (n6 : Int) (n7 : Int) (s8 : ByteArray) (s9 : ByteArray) (a10 : V) (σ : Heap) : hcall G (k + 1) n_laws_eqTreeExpr [.agg [.int .i64 n1, .int .i64 n2, .str s3, .str s4, a5], .agg [.int .i64 n6, .int .i64 n7, .str s8, .str s9, a10]] σ = (bif !decide (n1 = n6) then (some (.bool false, σ)) else (bif !decide (n2 = n7) then (some (.bool false, σ)) else (bif !decide (s3 = s8) then (some (.bool false, σ)) else (bif !decide (s4 = s9) then (some (.bool false, σ)) else ((hcall G k n_laws_eqTreeExprS [a5, a10] σ).bind fun q11 => castBool q11.1 fun b12 => bif !b12 then (some (.bool false, q11.2)) else (some (.bool true, q11.2))))))) := by
  kernel_rfl

/-! loop.example/smithy/laws.eqTreeFun: function 77 -/
theorem laws_eqTreeFun.eq (k : Nat) (s1 : ByteArray) (b2 : Bool) (a3 : V) (n4 : Int) (n5 : Int) (n6 : Int) (s7 : ByteArray) (s8 : ByteArray) (a9 : V) (s10 : ByteArray) (b11 : Bool) (a12 : V) (n13 : Int) (n14 : Int) (n15 : Int) (s16 : ByteArray) (s17 : ByteArray) (a18 : V) (σ : Heap) : hcall G (k + 1) n_laws_eqTreeFun [.agg [.str s1, .bool b2, a3, .int .i64 n4, .int .i64 n5, .int .i64 n6, .str s7, .str s8, a9], .agg [.str s10, .bool b11, a12, .int .i64 n13, .int .i64 n14, .int .i64 n15, .str s16, .str s17, a18]] σ = (bif !decide (s1 = s10) then (some (.bool false, σ)) else (bif !(b2 == b11) then (some (.bool false, σ)) else ((hcall G k n_laws_eqTreeArgS [a3, a12] σ).bind fun q19 => castBool q19.1 fun b20 => bif !b20 then (some (.bool false, q19.2)) else (bif !decide (n4 = n13) then (some (.bool false, q19.2)) else ((hcall G k n_laws_eqTreeExpr [.agg [.int .i64 n5, .int .i64 n6, .str s7, .str s8, a9], .agg [.int .i64 n14, .int .i64 n15, .str s16, .str s17, a18]] q19.2).bind fun q21 => castBool q21.1 fun b22 => bif !b22 then (some (.bool false, q21.2)) else (some (.bool true, q21.2))))))) := by
  kernel_rfl

/-! loop.example/smithy/laws.eqTreeFunS: function 39 -/
noncomputable def laws_eqTreeFunS.L0 (k : Nat) : Nat → List T → Heap → Option (Ex × List T × Heap) := hloop (hx (G.env n_laws_eqTreeFunS k) k 27 (subc (bodyOf Tryz.f39) [1, 1, 0, 1, 0, 0]) 0) 27 (G.msk n_laws_eqTreeFunS 0).1 (G.msk n_laws_eqTreeFunS 0).2
noncomputable def laws_eqTreeFunS.A0 (k : Nat) : Ex × List T × Heap → Option (V × Heap) := fun r => aft (G.env n_laws_eqTreeFunS k) k 27 (bodyOf Tryz.f39) [1, 1, 0, 1, 0] 0 (ck G.P Tryz.f39) r.1 (unpick 27 (G.msk n_laws_eqTreeFunS 0).2 r.2.1) r.2.2
theorem laws_eqTreeFunS.eq (k : Nat) (a1 : V) (a2 : V) (σ : Heap) : hcall G (k + 1) n_laws_eqTreeFunS [a1, a2] σ = ((vlen a1).bind fun k3 => (vlen a2).bind fun k4 => bif !decide ((k3 : Int) = (k4 : Int)) then (some (.bool false, σ)) else ((laws_eqTreeFunS.L0 k k [.v a1, .v a2, .v (.int .i64 0)] σ).bind (laws_eqTreeFunS.A0 k))) := by
  kernel_rfl
theorem laws_eqTreeFunS.L0_step (k m : Nat) (a1 : V) (a2 : V) (n3 : Int) (σ : Heap) : laws_eqTreeFunS.L0 k (m + 1) [.v a1, .v a2, .v (.int .i64 n3)] σ = ((vlen a1).bind fun k4 => bif decide (n3 < (k4 : Int)) then ((vidx 9 a1 n3).bind fun p5 => (rdc σ p5.1 p5.2 9).bind fun l6 => uncons l6 fun c7 l8 => castStr c7 fun s9 => uncons l8 fun c10 l11 => castBool c10 fun b12 => uncons l11 fun c13 l14 => uncons l14 fun c15 l16 => castInt .i64 c15 fun n17 => uncons l16 fun c18 l19 => castInt .i64 c18 fun n20 => uncons l19 fun c21 l22 => castInt .i64 c21 fun n23 => uncons l22 fun c24 l25 => castStr c24 fun s26 => uncons l25 fun c27 l28 => castStr c27 fun s29 => uncons l28 fun c30 l31 => isNil l31 <| (vidx 9 a2 n3).bind fun p32 => (rdc σ p32.1 p32.2 9).bind fun l33 => uncons l33 fun c34 l35 => castStr c34 fun s36 => uncons l35 fun c37 l38 => castBool c37 fun b39 => uncons l38 fun c40 l41 => uncons l41 fun c42 l43 => castInt .i64 c42 fun n44 => uncons l43 fun c45 l46 => castInt .i64 c45 fun n47 => uncons l46 fun c48 l49 => castInt .i64 c48 fun n50 => uncons l49 fun c51 l52 => castStr c51 fun s53 => uncons l52 fun c54 l55 => castStr c54 fun s56 => uncons l55 fun c57 l58 => isNil l58 <| (hcall G k n_laws_eqTreeFun [.agg [.str s9, .bool b12, c13, .int .i64 n17, .int .i64 n20, .int .i64 n23, .str s26, .str s29, c30], .agg [.str s36, .bool b39, c40, .int .i64 n44, .int .i64 n47, .int .i64 n50, .str s53, .str s56, c57]] σ).bind fun q59 => castBool q59.1 fun b60 => bif !b60 then (some (.ret, [.v (.bool false)], q59.2)) else (laws_eqTreeFunS.L0 k m [.v a1, .v a2, .v (.int .i64 (IntKind.wrap .i64 (n3 + 1)))] q59.2)) else (some (.exit 0, [.bot], σ))) := by
  kernel_rfl
theorem laws_eqTreeFunS.A0_x0 (k : Nat) (t1 : T) (σ : Heap) : laws_eqTreeFunS.A0 k (.exit 0, [t1], σ) = (some (.bool true, σ)) := by
  kernel_rfl
theorem laws_eqTreeFunS.A0_ret (k : Nat) (b1 : Bool) (σ : Heap) : laws_eqTreeFunS.A0 k (.ret, [.v (.bool b1)], σ) = (some (.bool b1, σ)) := by
  kernel_rfl

/-! loop.example/smithy/laws.eqTreeMod: function 15 -/
theorem laws_eqTreeMod.eq (k : Nat) (a1 : V) (a2 : V) (a3 : V) (a4 : V) (a5 : V) (a6 : V) (σ : Heap) : hcall G (k + 1) n_laws_eqTreeMod [.agg [a1, a2, a3], .agg [a4, a5, a6]] σ = ((hcall G k n_laws_eqStringS [a1, a4] σ).bind fun q7 => castBool q7.1 fun b8 => bif !b8 then (some (.bool false, q7.2)) else ((hcall G k n_laws_eqTreeFunS [a2, a5] q7.2).bind fun q9 => castBool q9.1 fun b10 => bif !b10 then (some (.bool false, q9.2)) else ((hcall G k n_laws_eqTreeExprS [a3, a6] q9.2).bind fun q11 => castBool q11.1 fun b12 => bif !b12 then (some (.bool false, q11.2)) else (some (.bool true, q11.2))))) := by
  kernel_rfl

/-! loop.example/smithy/laws.eqIntS: function 123 -/
noncomputable def laws_eqIntS.L0 (k : Nat) : Nat → List T → Heap → Option (Ex × List T × Heap) := hloop (hx (G.env n_laws_eqIntS k) k 26 (subc (bodyOf Tryz.f123) [1, 1, 0, 1, 0, 0]) 0) 26 (G.msk n_laws_eqIntS 0).1 (G.msk n_laws_eqIntS 0).2
noncomputable def laws_eqIntS.A0 (k : Nat) : Ex × List T × Heap → Option (V × Heap) := fun r => aft (G.env n_laws_eqIntS k) k 26 (bodyOf Tryz.f123) [1, 1, 0, 1, 0] 0 (ck G.P Tryz.f123) r.1 (unpick 26 (G.msk n_laws_eqIntS 0).2 r.2.1) r.2.2
theorem laws_eqIntS.eq (k : Nat) (a1 : V) (a2 : V) (σ : Heap) : hcall G (k + 1) n_laws_eqIntS [a1, a2] σ = ((vlen a1).bind fun k3 => (vlen a2).bind fun k4 => bif !decide ((k3 : Int) = (k4 : Int)) then (some (.bool false, σ)) else ((laws_eqIntS.L0 k k [.v a1, .v a2, .v (.int .i64 0)] σ).bind (laws_eqIntS.A0 k))) := by
  kernel_rfl
theorem laws_eqIntS.L0_step (k m : Nat) (a1 : V) (a2 : V) (n3 : Int) (σ : Heap) : laws_eqIntS.L0 k (m + 1) [.v a1, .v a2, .v (.int .i64 n3)] σ = ((vlen a1).bind fun k4 => bif decide (n3 < (k4 : Int)) then ((vidx 1 a1 n3).bind fun p5 => (rdc σ p5.1 p5.2 1).bind fun l6 => uncons l6 fun c7 l8 => castInt .i64 c7 fun n9 => isNil l8 <| (vidx 1 a2 n3).bind fun p10 => (rdc σ p10.1 p10.2 1).bind fun l11 => uncons l11 fun c12 l13 => castInt .i64 c12 fun n14 => isNil l13 <| bif !decide (n9 = n14) then (some (.ret, [.v (.bool false)], σ)) else (laws_eqIntS.L0 k m [.v a1, .v a2, .v (.int .i64 (IntKind.wrap .i64 (n3 + 1)))] σ)) else (some (.exit 0, [.bot], σ))) := by
  kernel_rfl
theorem laws_eqIntS.A0_x0 (k : Nat) (t1 : T) (σ : Heap) : laws_eqIntS.A0 k (.exit 0, [t1], σ) = (some (.bool true, σ)) := by
  kernel_rfl
theorem laws_eqIntS.A0_ret (k : Nat) (b1 : Bool) (σ : Heap) : laws_eqIntS.A0 k (.ret, [.v (.bool b1)], σ) = (some (.bool b1, σ)) := by
  kernel_rfl

/-! loop.example/smithy/laws.eqFaceSig: function 107 -/
theorem laws_eqFaceSig.eq (k : Nat) (s1 : ByteArray) (a2 : V) (n3 : Int) (s4 : ByteArray) (a5 : V) (n6 : Int) (σ : Heap) : hcall G (k + 1) n_laws_eqFaceSig [.agg [.str s1, a2, .int .i64 n3], .agg [.str s4, a5, .int .i64 n6]] σ = (bif !decide (s1 = s4) then (some (.bool false, σ)) else ((hcall G k n_laws_eqIntS [a2, a5] σ).bind fun q7 => castBool q7.1 fun b8 => bif !b8 then (some (.bool false, q7.2)) else (bif !decide (n3 = n6) then (some (.bool false, q7.2)) else (some (.bool true, q7.2))))) := by
  kernel_rfl

/-! loop.example/smithy/laws.eqFaceSigS: function 78 -/
noncomputable def laws_eqFaceSigS.L0 (k : Nat) : Nat → List T → Heap → Option (Ex × List T × Heap) := hloop (hx (G.env n_laws_eqFaceSigS k) k 27 (subc (bodyOf Tryz.f78) [1, 1, 0, 1, 0, 0]) 0) 27 (G.msk n_laws_eqFaceSigS 0).1 (G.msk n_laws_eqFaceSigS 0).2
noncomputable def laws_eqFaceSigS.A0 (k : Nat) : Ex × List T × Heap → Option (V × Heap) := fun r => aft (G.env n_laws_eqFaceSigS k) k 27 (bodyOf Tryz.f78) [1, 1, 0, 1, 0] 0 (ck G.P Tryz.f78) r.1 (unpick 27 (G.msk n_laws_eqFaceSigS 0).2 r.2.1) r.2.2
theorem laws_eqFaceSigS.eq (k : Nat) (a1 : V) (a2 : V) (σ : Heap) : hcall G (k + 1) n_laws_eqFaceSigS [a1, a2] σ = ((vlen a1).bind fun k3 => (vlen a2).bind fun k4 => bif !decide ((k3 : Int) = (k4 : Int)) then (some (.bool false, σ)) else ((laws_eqFaceSigS.L0 k k [.v a1, .v a2, .v (.int .i64 0)] σ).bind (laws_eqFaceSigS.A0 k))) := by
  kernel_rfl
theorem laws_eqFaceSigS.L0_step (k m : Nat) (a1 : V) (a2 : V) (n3 : Int) (σ : Heap) : laws_eqFaceSigS.L0 k (m + 1) [.v a1, .v a2, .v (.int .i64 n3)] σ = ((vlen a1).bind fun k4 => bif decide (n3 < (k4 : Int)) then ((vidx 3 a1 n3).bind fun p5 => (rdc σ p5.1 p5.2 3).bind fun l6 => uncons l6 fun c7 l8 => castStr c7 fun s9 => uncons l8 fun c10 l11 => uncons l11 fun c12 l13 => castInt .i64 c12 fun n14 => isNil l13 <| (vidx 3 a2 n3).bind fun p15 => (rdc σ p15.1 p15.2 3).bind fun l16 => uncons l16 fun c17 l18 => castStr c17 fun s19 => uncons l18 fun c20 l21 => uncons l21 fun c22 l23 => castInt .i64 c22 fun n24 => isNil l23 <| (hcall G k n_laws_eqFaceSig [.agg [.str s9, c10, .int .i64 n14], .agg [.str s19, c20, .int .i64 n24]] σ).bind fun q25 => castBool q25.1 fun b26 => bif !b26 then (some (.ret, [.v (.bool false)], q25.2)) else (laws_eqFaceSigS.L0 k m [.v a1, .v a2, .v (.int .i64 (IntKind.wrap .i64 (n3 + 1)))] q25.2)) else (some (.exit 0, [.bot], σ))) := by
  kernel_rfl
theorem laws_eqFaceSigS.A0_x0 (k : Nat) (t1 : T) (σ : Heap) : laws_eqFaceSigS.A0 k (.exit 0, [t1], σ) = (some (.bool true, σ)) := by
  kernel_rfl
theorem laws_eqFaceSigS.A0_ret (k : Nat) (b1 : Bool) (σ : Heap) : laws_eqFaceSigS.A0 k (.ret, [.v (.bool b1)], σ) = (some (.bool b1, σ)) := by
  kernel_rfl

/-! loop.example/smithy/laws.eqTypeFace: function 41 -/
theorem laws_eqTypeFace.eq (k : Nat) (s1 : ByteArray) (a2 : V) (s3 : ByteArray) (a4 : V) (σ : Heap) : hcall G (k + 1) n_laws_eqTypeFace [.agg [.str s1, a2], .agg [.str s3, a4]] σ = (bif !decide (s1 = s3) then (some (.bool false, σ)) else ((hcall G k n_laws_eqFaceSigS [a2, a4] σ).bind fun q5 => castBool q5.1 fun b6 => bif !b6 then (some (.bool false, q5.2)) else (some (.bool true, q5.2)))) := by
  kernel_rfl

/-! loop.example/smithy/laws.eqTypeFaceS: function 16 -/
noncomputable def laws_eqTypeFaceS.L0 (k : Nat) : Nat → List T → Heap → Option (Ex × List T × Heap) := hloop (hx (G.env n_laws_eqTypeFaceS k) k 27 (subc (bodyOf Tryz.f16) [1, 1, 0, 1, 0, 0]) 0) 27 (G.msk n_laws_eqTypeFaceS 0).1 (G.msk n_laws_eqTypeFaceS 0).2
noncomputable def laws_eqTypeFaceS.A0 (k : Nat) : Ex × List T × Heap → Option (V × Heap) := fun r => aft (G.env n_laws_eqTypeFaceS k) k 27 (bodyOf Tryz.f16) [1, 1, 0, 1, 0] 0 (ck G.P Tryz.f16) r.1 (unpick 27 (G.msk n_laws_eqTypeFaceS 0).2 r.2.1) r.2.2
theorem laws_eqTypeFaceS.eq (k : Nat) (a1 : V) (a2 : V) (σ : Heap) : hcall G (k + 1) n_laws_eqTypeFaceS [a1, a2] σ = ((vlen a1).bind fun k3 => (vlen a2).bind fun k4 => bif !decide ((k3 : Int) = (k4 : Int)) then (some (.bool false, σ)) else ((laws_eqTypeFaceS.L0 k k [.v a1, .v a2, .v (.int .i64 0)] σ).bind (laws_eqTypeFaceS.A0 k))) := by
  kernel_rfl
theorem laws_eqTypeFaceS.L0_step (k m : Nat) (a1 : V) (a2 : V) (n3 : Int) (σ : Heap) : laws_eqTypeFaceS.L0 k (m + 1) [.v a1, .v a2, .v (.int .i64 n3)] σ = ((vlen a1).bind fun k4 => bif decide (n3 < (k4 : Int)) then ((vidx 2 a1 n3).bind fun p5 => (rdc σ p5.1 p5.2 2).bind fun l6 => uncons l6 fun c7 l8 => castStr c7 fun s9 => uncons l8 fun c10 l11 => isNil l11 <| (vidx 2 a2 n3).bind fun p12 => (rdc σ p12.1 p12.2 2).bind fun l13 => uncons l13 fun c14 l15 => castStr c14 fun s16 => uncons l15 fun c17 l18 => isNil l18 <| (hcall G k n_laws_eqTypeFace [.agg [.str s9, c10], .agg [.str s16, c17]] σ).bind fun q19 => castBool q19.1 fun b20 => bif !b20 then (some (.ret, [.v (.bool false)], q19.2)) else (laws_eqTypeFaceS.L0 k m [.v a1, .v a2, .v (.int .i64 (IntKind.wrap .i64 (n3 + 1)))] q19.2)) else (some (.exit 0, [.bot], σ))) := by
  kernel_rfl
theorem laws_eqTypeFaceS.A0_x0 (k : Nat) (t1 : T) (σ : Heap) : laws_eqTypeFaceS.A0 k (.exit 0, [t1], σ) = (some (.bool true, σ)) := by
  kernel_rfl
theorem laws_eqTypeFaceS.A0_ret (k : Nat) (b1 : Bool) (σ : Heap) : laws_eqTypeFaceS.A0 k (.ret, [.v (.bool b1)], σ) = (some (.bool b1, σ)) := by
  kernel_rfl

/-! loop.example/smithy/spec.l1Kept: function 109 -/
noncomputable def spec_l1Kept.L0 (k : Nat) : Nat → List T → Heap → Option (Ex × List T × Heap) := hloop (hx (G.env n_spec_l1Kept k) k 18 (subc (bodyOf Tryz.f109) [1, 1, 0, 1, 0, 0]) 0) 18 (G.msk n_spec_l1Kept 0).1 (G.msk n_spec_l1Kept 0).2
noncomputable def spec_l1Kept.A0 (k : Nat) : Ex × List T × Heap → Option (V × Heap) := fun r => aft (G.env n_spec_l1Kept k) k 18 (bodyOf Tryz.f109) [1, 1, 0, 1, 0] 0 (ck G.P Tryz.f109) r.1 (unpick 18 (G.msk n_spec_l1Kept 0).2 r.2.1) r.2.2
theorem spec_l1Kept.eq (k : Nat) (s1 : ByteArray) (σ : Heap) : hcall G (k + 1) n_spec_l1Kept [.str s1] σ = ((spec_l1Kept.L0 k k [.v (.str s1), .v (.sl σ.length 0 19 true), .v (.int .i64 0)] (hnew σ 1 [.str (⟨#[117, 115, 101]⟩ : ByteArray), .str (⟨#[102, 117, 110]⟩ : ByteArray), .str (⟨#[112, 117, 98]⟩ : ByteArray), .str (⟨#[109, 97, 105, 110]⟩ : ByteArray), .str (⟨#[105, 110, 116]⟩ : ByteArray), .str (⟨#[98, 111, 111, 108]⟩ : ByteArray), .str (⟨#[114, 111, 119]⟩ : ByteArray), .str (⟨#[105, 102]⟩ : ByteArray), .str (⟨#[108, 101, 116]⟩ : ByteArray), .str (⟨#[116, 114, 117, 101]⟩ : ByteArray), .str (⟨#[102, 97, 108, 115, 101]⟩ : ByteArray), .str (⟨#[97, 110, 100]⟩ : ByteArray), .str (⟨#[111, 114]⟩ : ByteArray), .str (⟨#[110, 111, 116]⟩ : ByteArray), .str (⟨#[97, 116]⟩ : ByteArray), .str (⟨#[108, 101, 110]⟩ : ByteArray), .str (⟨#[112, 117, 116]⟩ : ByteArray), .str (⟨#[106, 111, 105, 110]⟩ : ByteArray), .str (⟨#[112, 114, 105, 110, 116]⟩ : ByteArray)])).bind (spec_l1Kept.A0 k)) := by
  kernel_rfl
theorem spec_l1Kept.L0_step (k m : Nat) (s1 : ByteArray) (a2 : V) (n3 : Int) (σ : Heap) : spec_l1Kept.L0 k (m + 1) [.v (.str s1), .v a2, .v (.int .i64 n3)] σ = ((vlen a2).bind fun k4 => bif decide (n3 < (k4 : Int)) then ((vidx 1 a2 n3).bind fun p5 => (rdc σ p5.1 p5.2 1).bind fun l6 => uncons l6 fun c7 l8 => castStr c7 fun s9 => isNil l8 <| bif decide (s9 = s1) then (some (.ret, [.v (.bool true)], σ)) else (spec_l1Kept.L0 k m [.v (.str s1), .v a2, .v (.int .i64 (IntKind.wrap .i64 (n3 + 1)))] σ)) else (some (.exit 0, [.bot], σ))) := by
  kernel_rfl
theorem spec_l1Kept.A0_x0 (k : Nat) (t1 : T) (σ : Heap) : spec_l1Kept.A0 k (.exit 0, [t1], σ) = (some (.bool false, σ)) := by
  kernel_rfl
theorem spec_l1Kept.A0_ret (k : Nat) (b1 : Bool) (σ : Heap) : spec_l1Kept.A0 k (.ret, [.v (.bool b1)], σ) = (some (.bool b1, σ)) := by
  kernel_rfl

/-! loop.example/smithy/spec.LexName: function 82 -/
noncomputable def spec_LexName.L0 (k : Nat) : Nat → List T → Heap → Option (Ex × List T × Heap) := hloop (hx (G.env n_spec_LexName k) k 32 (subc (bodyOf Tryz.f82) [1, 1, 0, 1, 0, 0]) 0) 32 (G.msk n_spec_LexName 0).1 (G.msk n_spec_LexName 0).2
noncomputable def spec_LexName.A0 (k : Nat) : Ex × List T × Heap → Option (V × Heap) := fun r => aft (G.env n_spec_LexName k) k 32 (bodyOf Tryz.f82) [1, 1, 0, 1, 0] 0 (ck G.P Tryz.f82) r.1 (unpick 32 (G.msk n_spec_LexName 0).2 r.2.1) r.2.2
theorem spec_LexName.eq (k : Nat) (s1 : ByteArray) (σ : Heap) : hcall G (k + 1) n_spec_LexName [.str s1] σ = (bif decide ((s1.size : Int) < 1) then (some (.bool false, σ)) else (bif decide (8 < (s1.size : Int)) then (some (.bool false, σ)) else ((hcall G k n_spec_l1Kept [.str s1] σ).bind fun q2 => castBool q2.1 fun b3 => bif b3 then (some (.bool false, q2.2)) else ((spec_LexName.L0 k k [.v (.str s1), .v (.int .i64 0)] q2.2).bind (spec_LexName.A0 k))))) := by
  kernel_rfl
theorem spec_LexName.L0_step (k m : Nat) (s1 : ByteArray) (n2 : Int) (σ : Heap) : spec_LexName.L0 k (m + 1) [.v (.str s1), .v (.int .i64 n2)] σ = (bif decide (n2 < (s1.size : Int)) then ((sbyte s1 n2).bind fun n3 => bif decide (n3 < 97) then (some (.ret, [.v (.bool false)], σ)) else ((sbyte s1 n2).bind fun n4 => bif decide (122 < n4) then (some (.ret, [.v (.bool false)], σ)) else (spec_LexName.L0 k m [.v (.str s1), .v (.int .i64 (IntKind.wrap .i64 (n2 + 1)))] σ))) else (some (.exit 0, [.bot], σ))) := by
  kernel_rfl
theorem spec_LexName.A0_x0 (k : Nat) (t1 : T) (σ : Heap) : spec_LexName.A0 k (.exit 0, [t1], σ) = (some (.bool true, σ)) := by
  kernel_rfl
theorem spec_LexName.A0_ret (k : Nat) (b1 : Bool) (σ : Heap) : spec_LexName.A0 k (.ret, [.v (.bool b1)], σ) = (some (.bool b1, σ)) := by
  kernel_rfl

/-! loop.example/smithy/spec.l2Uses: function 48 -/
noncomputable def spec_l2Uses.L1 (k : Nat) : Nat → List T → Heap → Option (Ex × List T × Heap) := hloop (hx (G.env n_spec_l2Uses k) k 31 (subc (bodyOf Tryz.f48) [1, 0, 1, 0, 0, 1, 0, 0, 1, 1, 0, 0]) 2) 31 (G.msk n_spec_l2Uses 2).1 (G.msk n_spec_l2Uses 2).2
noncomputable def spec_l2Uses.L0 (k : Nat) : Nat → List T → Heap → Option (Ex × List T × Heap) := hloop (hx (G.env n_spec_l2Uses k) k 31 (subc (bodyOf Tryz.f48) [1, 0, 1, 0, 0]) 0) 31 (G.msk n_spec_l2Uses 0).1 (G.msk n_spec_l2Uses 0).2
noncomputable def spec_l2Uses.A0 (k : Nat) : Ex × List T × Heap → Option (V × Heap) := fun r => aft (G.env n_spec_l2Uses k) k 31 (bodyOf Tryz.f48) [1, 0, 1, 0] 0 (ck G.P Tryz.f48) r.1 (unpick 31 (G.msk n_spec_l2Uses 0).2 r.2.1) r.2.2
noncomputable def spec_l2Uses.A1 (k m : Nat) : Ex × List T × Heap → Option (Ex × List T × Heap) := fun r => aft (G.env n_spec_l2Uses k) k 31 (subc (bodyOf Tryz.f48) [1, 0, 1, 0, 0]) [1, 0, 0, 1, 1, 0] 0 (lk (spec_l2Uses.L0 k m) (G.msk n_spec_l2Uses 0).1 (G.msk n_spec_l2Uses 0).2) r.1 (unpick 31 (G.msk n_spec_l2Uses 2).2 r.2.1) r.2.2
theorem spec_l2Uses.eq (k : Nat) (a1 : V) (σ : Heap) : hcall G (k + 1) n_spec_l2Uses [a1] σ = ((spec_l2Uses.L0 k k [.v a1, .v (.int .i64 0)] σ).bind (spec_l2Uses.A0 k)) := by
  kernel_rfl
theorem spec_l2Uses.L0_step (k m : Nat) (a1 : V) (n2 : Int) (σ : Heap) : spec_l2Uses.L0 k (m + 1) [.v a1, .v (.int .i64 n2)] σ = ((vlen a1).bind fun k3 => bif decide (n2 < (k3 : Int)) then ((vidx 1 a1 n2).bind fun p4 => (rdc σ p4.1 p4.2 1).bind fun l5 => uncons l5 fun c6 l7 => castStr c6 fun s8 => isNil l7 <| (hcall G k n_spec_LexName [.str s8] σ).bind fun q9 => castBool q9.1 fun b10 => bif !b10 then (some (.ret, [.v (.bool false)], q9.2)) else ((spec_l2Uses.L1 k k [.v a1, .v (.int .i64 n2), .v (.int .i64 0)] q9.2).bind (spec_l2Uses.A1 k m))) else (some (.exit 0, [.bot], σ))) := by
  kernel_rfl
theorem spec_l2Uses.A0_x0 (k : Nat) (t1 : T) (σ : Heap) : spec_l2Uses.A0 k (.exit 0, [t1], σ) = (some (.bool true, σ)) := by
  kernel_rfl
theorem spec_l2Uses.A0_ret (k : Nat) (b1 : Bool) (σ : Heap) : spec_l2Uses.A0 k (.ret, [.v (.bool b1)], σ) = (some (.bool b1, σ)) := by
  kernel_rfl
theorem spec_l2Uses.L1_step (k m : Nat) (a1 : V) (n2 : Int) (n3 : Int) (σ : Heap) : spec_l2Uses.L1 k (m + 1) [.v a1, .v (.int .i64 n2), .v (.int .i64 n3)] σ = (bif decide (n3 < n2) then ((vidx 1 a1 n3).bind fun p4 => (rdc σ p4.1 p4.2 1).bind fun l5 => uncons l5 fun c6 l7 => castStr c6 fun s8 => isNil l7 <| (vidx 1 a1 n2).bind fun p9 => (rdc σ p9.1 p9.2 1).bind fun l10 => uncons l10 fun c11 l12 => castStr c11 fun s13 => isNil l12 <| bif decide (s8 = s13) then (some (.ret, [.v a1, .v (.bool false), .v (.int .i64 n2)], σ)) else (spec_l2Uses.L1 k m [.v a1, .v (.int .i64 n2), .v (.int .i64 (IntKind.wrap .i64 (n3 + 1)))] σ)) else (some (.exit 2, [.v a1, .bot, .v (.int .i64 n2)], σ))) := by
  kernel_rfl
theorem spec_l2Uses.A1_x2 (k m : Nat) (a1 : V) (t2 : T) (n3 : Int) (σ : Heap) : spec_l2Uses.A1 k m (.exit 2, [.v a1, t2, .v (.int .i64 n3)], σ) = (spec_l2Uses.L0 k m [.v a1, .v (.int .i64 (IntKind.wrap .i64 (n3 + 1)))] σ) := by
  kernel_rfl
theorem spec_l2Uses.A1_ret (k m : Nat) (t1 : T) (b2 : Bool) (t3 : T) (σ : Heap) : spec_l2Uses.A1 k m (.ret, [t1, .v (.bool b2), t3], σ) = (some (.ret, [.v (.bool b2)], σ)) := by
  kernel_rfl
end Go.G
