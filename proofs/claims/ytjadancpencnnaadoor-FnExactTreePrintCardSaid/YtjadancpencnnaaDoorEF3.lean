/- The functions' equations. -/
import Derived.Test.YtjadancpencnnaaDoorEG
namespace Go.D
open Go.HM Go.Proofs
set_option linter.unusedVariables false
set_option maxRecDepth 1000000
set_option maxHeartbeats 4000000

/-! loop.example/smithy/laws.eqCodeRefS: function 67 -/
noncomputable def laws_eqCodeRefS.L0 (k : Nat) : Nat → List T → Heap → Option (Ex × List T × Heap) := hloop (hx (G.env n_laws_eqCodeRefS k) k 27 (subc (bodyOf Tryd.f67) [1, 1, 0, 1, 0, 0]) 0) 27 (G.msk n_laws_eqCodeRefS 0).1 (G.msk n_laws_eqCodeRefS 0).2
noncomputable def laws_eqCodeRefS.A0 (k : Nat) : Ex × List T × Heap → Option (V × Heap) := fun r => aft (G.env n_laws_eqCodeRefS k) k 27 (bodyOf Tryd.f67) [1, 1, 0, 1, 0] 0 (ck G.P Tryd.f67) r.1 (unpick 27 (G.msk n_laws_eqCodeRefS 0).2 r.2.1) r.2.2
theorem laws_eqCodeRefS.eq (k : Nat) (a1 : V) (a2 : V) (σ : Heap) : hcall G (k + 1) n_laws_eqCodeRefS [a1, a2] σ = ((vlen a1).bind fun k3 => (vlen a2).bind fun k4 => bif !decide ((k3 : Int) = (k4 : Int)) then (some (.bool false, σ)) else ((laws_eqCodeRefS.L0 k k [.v a1, .v a2, .v (.int .i64 0)] σ).bind (laws_eqCodeRefS.A0 k))) := by
  kernel_rfl
theorem laws_eqCodeRefS.L0_step (k m : Nat) (a1 : V) (a2 : V) (n3 : Int) (σ : Heap) : laws_eqCodeRefS.L0 k (m + 1) [.v a1, .v a2, .v (.int .i64 n3)] σ = ((vlen a1).bind fun k4 => bif decide (n3 < (k4 : Int)) then ((vidx 2 a1 n3).bind fun p5 => (rdc σ p5.1 p5.2 2).bind fun l6 => uncons l6 fun c7 l8 => castStr c7 fun s9 => uncons l8 fun c10 l11 => castStr c10 fun s12 => isNil l11 <| (vidx 2 a2 n3).bind fun p13 => (rdc σ p13.1 p13.2 2).bind fun l14 => uncons l14 fun c15 l16 => castStr c15 fun s17 => uncons l16 fun c18 l19 => castStr c18 fun s20 => isNil l19 <| (hcall G k n_laws_eqCodeRef [.agg [.str s9, .str s12], .agg [.str s17, .str s20]] σ).bind fun q21 => castBool q21.1 fun b22 => bif !b22 then (some (.ret, [.v (.bool false)], q21.2)) else (laws_eqCodeRefS.L0 k m [.v a1, .v a2, .v (.int .i64 (IntKind.wrap .i64 (n3 + 1)))] q21.2)) else (some (.exit 0, [.bot], σ))) := by
  kernel_rfl
theorem laws_eqCodeRefS.A0_x0 (k : Nat) (t1 : T) (σ : Heap) : laws_eqCodeRefS.A0 k (.exit 0, [t1], σ) = (some (.bool true, σ)) := by
  kernel_rfl
theorem laws_eqCodeRefS.A0_ret (k : Nat) (b1 : Bool) (σ : Heap) : laws_eqCodeRefS.A0 k (.ret, [.v (.bool b1)], σ) = (some (.bool b1, σ)) := by
  kernel_rfl

/-! loop.example/smithy/laws.eqCodeIns: function 161 -/
theorem laws_eqCodeIns.eq (k : Nat) (n1 : Int) (n2 : Int) (n3 : Int) (n4 : Int) (σ : Heap) : hcall G (k + 1) n_laws_eqCodeIns [.agg [.int .i64 n1, .int .i64 n2], .agg [.int .i64 n3, .int .i64 n4]] σ = (bif !decide (n1 = n3) then (some (.bool false, σ)) else (bif !decide (n2 = n4) then (some (.bool false, σ)) else (some (.bool true, σ)))) := by
  kernel_rfl

/-! loop.example/smithy/laws.eqCodeInsS: function 141 -/
noncomputable def laws_eqCodeInsS.L0 (k : Nat) : Nat → List T → Heap → Option (Ex × List T × Heap) := hloop (hx (G.env n_laws_eqCodeInsS k) k 27 (subc (bodyOf Tryd.f141) [1, 1, 0, 1, 0, 0]) 0) 27 (G.msk n_laws_eqCodeInsS 0).1 (G.msk n_laws_eqCodeInsS 0).2
noncomputable def laws_eqCodeInsS.A0 (k : Nat) : Ex × List T × Heap → Option (V × Heap) := fun r => aft (G.env n_laws_eqCodeInsS k) k 27 (bodyOf Tryd.f141) [1, 1, 0, 1, 0] 0 (ck G.P Tryd.f141) r.1 (unpick 27 (G.msk n_laws_eqCodeInsS 0).2 r.2.1) r.2.2
theorem laws_eqCodeInsS.eq (k : Nat) (a1 : V) (a2 : V) (σ : Heap) : hcall G (k + 1) n_laws_eqCodeInsS [a1, a2] σ = ((vlen a1).bind fun k3 => (vlen a2).bind fun k4 => bif !decide ((k3 : Int) = (k4 : Int)) then (some (.bool false, σ)) else ((laws_eqCodeInsS.L0 k k [.v a1, .v a2, .v (.int .i64 0)] σ).bind (laws_eqCodeInsS.A0 k))) := by
  kernel_rfl
theorem laws_eqCodeInsS.L0_step (k m : Nat) (a1 : V) (a2 : V) (n3 : Int) (σ : Heap) : laws_eqCodeInsS.L0 k (m + 1) [.v a1, .v a2, .v (.int .i64 n3)] σ = ((vlen a1).bind fun k4 => bif decide (n3 < (k4 : Int)) then ((vidx 2 a1 n3).bind fun p5 => (rdc σ p5.1 p5.2 2).bind fun l6 => uncons l6 fun c7 l8 => castInt .i64 c7 fun n9 => uncons l8 fun c10 l11 => castInt .i64 c10 fun n12 => isNil l11 <| (vidx 2 a2 n3).bind fun p13 => (rdc σ p13.1 p13.2 2).bind fun l14 => uncons l14 fun c15 l16 => castInt .i64 c15 fun n17 => uncons l16 fun c18 l19 => castInt .i64 c18 fun n20 => isNil l19 <| (hcall G k n_laws_eqCodeIns [.agg [.int .i64 n9, .int .i64 n12], .agg [.int .i64 n17, .int .i64 n20]] σ).bind fun q21 => castBool q21.1 fun b22 => bif !b22 then (some (.ret, [.v (.bool false)], q21.2)) else (laws_eqCodeInsS.L0 k m [.v a1, .v a2, .v (.int .i64 (IntKind.wrap .i64 (n3 + 1)))] q21.2)) else (some (.exit 0, [.bot], σ))) := by
  kernel_rfl
theorem laws_eqCodeInsS.A0_x0 (k : Nat) (t1 : T) (σ : Heap) : laws_eqCodeInsS.A0 k (.exit 0, [t1], σ) = (some (.bool true, σ)) := by
  kernel_rfl
theorem laws_eqCodeInsS.A0_ret (k : Nat) (b1 : Bool) (σ : Heap) : laws_eqCodeInsS.A0 k (.ret, [.v (.bool b1)], σ) = (some (.bool b1, σ)) := by
  kernel_rfl

/-! loop.example/smithy/laws.eqCodeFun: function 115 -/
theorem laws_eqCodeFun.eq (k : Nat) (s1 : ByteArray) (b2 : Bool) (a3 : V) (n4 : Int) (n5 : Int) (a6 : V) (s7 : ByteArray) (b8 : Bool) (a9 : V) (n10 : Int) (n11 : Int) (a12 : V) (σ : Heap) : hcall G (k + 1) n_laws_eqCodeFun [.agg [.str s1, .bool b2, a3, .int .i64 n4, .int .i64 n5, a6], .agg [.str s7, .bool b8, a9, .int .i64 n10, .int .i64 n11, a12]] σ = (bif !decide (s1 = s7) then (some (.bool false, σ)) else (bif !(b2 == b8) then (some (.bool false, σ)) else ((hcall G k n_laws_eqIntS [a3, a9] σ).bind fun q13 => castBool q13.1 fun b14 => bif !b14 then (some (.bool false, q13.2)) else (bif !decide (n4 = n10) then (some (.bool false, q13.2)) else (bif !decide (n5 = n11) then (some (.bool false, q13.2)) else ((hcall G k n_laws_eqCodeInsS [a6, a12] q13.2).bind fun q15 => castBool q15.1 fun b16 => bif !b16 then (some (.bool false, q15.2)) else (some (.bool true, q15.2)))))))) := by
  kernel_rfl

/-! loop.example/smithy/laws.eqCodeFunS: function 68 -/
noncomputable def laws_eqCodeFunS.L0 (k : Nat) : Nat → List T → Heap → Option (Ex × List T × Heap) := hloop (hx (G.env n_laws_eqCodeFunS k) k 27 (subc (bodyOf Tryd.f68) [1, 1, 0, 1, 0, 0]) 0) 27 (G.msk n_laws_eqCodeFunS 0).1 (G.msk n_laws_eqCodeFunS 0).2
noncomputable def laws_eqCodeFunS.A0 (k : Nat) : Ex × List T × Heap → Option (V × Heap) := fun r => aft (G.env n_laws_eqCodeFunS k) k 27 (bodyOf Tryd.f68) [1, 1, 0, 1, 0] 0 (ck G.P Tryd.f68) r.1 (unpick 27 (G.msk n_laws_eqCodeFunS 0).2 r.2.1) r.2.2
theorem laws_eqCodeFunS.eq (k : Nat) (a1 : V) (a2 : V) (σ : Heap) : hcall G (k + 1) n_laws_eqCodeFunS [a1, a2] σ = ((vlen a1).bind fun k3 => (vlen a2).bind fun k4 => bif !decide ((k3 : Int) = (k4 : Int)) then (some (.bool false, σ)) else ((laws_eqCodeFunS.L0 k k [.v a1, .v a2, .v (.int .i64 0)] σ).bind (laws_eqCodeFunS.A0 k))) := by
  kernel_rfl
theorem laws_eqCodeFunS.L0_step (k m : Nat) (a1 : V) (a2 : V) (n3 : Int) (σ : Heap) : laws_eqCodeFunS.L0 k (m + 1) [.v a1, .v a2, .v (.int .i64 n3)] σ = ((vlen a1).bind fun k4 => bif decide (n3 < (k4 : Int)) then ((vidx 6 a1 n3).bind fun p5 => (rdc σ p5.1 p5.2 6).bind fun l6 => uncons l6 fun c7 l8 => castStr c7 fun s9 => uncons l8 fun c10 l11 => castBool c10 fun b12 => uncons l11 fun c13 l14 => uncons l14 fun c15 l16 => castInt .i64 c15 fun n17 => uncons l16 fun c18 l19 => castInt .i64 c18 fun n20 => uncons l19 fun c21 l22 => isNil l22 <| (vidx 6 a2 n3).bind fun p23 => (rdc σ p23.1 p23.2 6).bind fun l24 => uncons l24 fun c25 l26 => castStr c25 fun s27 => uncons l26 fun c28 l29 => castBool c28 fun b30 => uncons l29 fun c31 l32 => uncons l32 fun c33 l34 => castInt .i64 c33 fun n35 => uncons l34 fun c36 l37 => castInt .i64 c36 fun n38 => uncons l37 fun c39 l40 => isNil l40 <| (hcall G k n_laws_eqCodeFun [.agg [.str s9, .bool b12, c13, .int .i64 n17, .int .i64 n20, c21], .agg [.str s27, .bool b30, c31, .int .i64 n35, .int .i64 n38, c39]] σ).bind fun q41 => castBool q41.1 fun b42 => bif !b42 then (some (.ret, [.v (.bool false)], q41.2)) else (laws_eqCodeFunS.L0 k m [.v a1, .v a2, .v (.int .i64 (IntKind.wrap .i64 (n3 + 1)))] q41.2)) else (some (.exit 0, [.bot], σ))) := by
  kernel_rfl
theorem laws_eqCodeFunS.A0_x0 (k : Nat) (t1 : T) (σ : Heap) : laws_eqCodeFunS.A0 k (.exit 0, [t1], σ) = (some (.bool true, σ)) := by
  kernel_rfl
theorem laws_eqCodeFunS.A0_ret (k : Nat) (b1 : Bool) (σ : Heap) : laws_eqCodeFunS.A0 k (.ret, [.v (.bool b1)], σ) = (some (.bool b1, σ)) := by
  kernel_rfl

/-! loop.example/smithy/laws.eqCodeObj: function 26 -/
theorem laws_eqCodeObj.eq (k : Nat) (a1 : V) (a2 : V) (a3 : V) (a4 : V) (σ : Heap) : hcall G (k + 1) n_laws_eqCodeObj [.agg [a1, a2], .agg [a3, a4]] σ = ((hcall G k n_laws_eqCodeRefS [a1, a3] σ).bind fun q5 => castBool q5.1 fun b6 => bif !b6 then (some (.bool false, q5.2)) else ((hcall G k n_laws_eqCodeFunS [a2, a4] q5.2).bind fun q7 => castBool q7.1 fun b8 => bif !b8 then (some (.bool false, q7.2)) else (some (.bool true, q7.2)))) := by
  kernel_rfl
end Go.D
