/- The functions' equations. -/
import Derived.Test.YtjadancpencnnaaEG
namespace Go.A
open Go.HM Go.Proofs
set_option linter.unusedVariables false
set_option maxRecDepth 1000000
set_option maxHeartbeats 4000000

/-! loop.example/smithy/laws.szGraphNodeS: function 15 -/
noncomputable def laws_szGraphNodeS.L0 (k : Nat) : Nat → List T → Heap → Option (Ex × List T × Heap) := hloop (hx (G.env n_laws_szGraphNodeS k) k 27 (subc (bodyOf Try.f15) [1, 1, 1, 0, 1, 0, 0]) 0) 27 (G.msk n_laws_szGraphNodeS 0).1 (G.msk n_laws_szGraphNodeS 0).2
noncomputable def laws_szGraphNodeS.A0 (k : Nat) : Ex × List T × Heap → Option (V × Heap) := fun r => aft (G.env n_laws_szGraphNodeS k) k 27 (bodyOf Try.f15) [1, 1, 1, 0, 1, 0] 0 (ck G.P Try.f15) r.1 (unpick 27 (G.msk n_laws_szGraphNodeS 0).2 r.2.1) r.2.2
theorem laws_szGraphNodeS.eq (k : Nat) (a1 : V) (n2 : Int) (σ : Heap) : hcall G (k + 1) n_laws_szGraphNodeS [a1, .int .i64 n2] σ = ((vlen a1).bind fun k3 => bif decide (IntKind.wrap .i64 (n2 - (k3 : Int)) < 0) then (some (.int .i64 (-1), σ)) else ((laws_szGraphNodeS.L0 k k [.v a1, .v (.int .i64 (IntKind.wrap .i64 (n2 - (k3 : Int)))), .v (.int .i64 0)] σ).bind (laws_szGraphNodeS.A0 k))) := by
  kernel_rfl
theorem laws_szGraphNodeS.L0_step (k m : Nat) (a1 : V) (n2 : Int) (n3 : Int) (σ : Heap) : laws_szGraphNodeS.L0 k (m + 1) [.v a1, .v (.int .i64 n2), .v (.int .i64 n3)] σ = ((vlen a1).bind fun k4 => bif decide (n3 < (k4 : Int)) then ((vidx 2 a1 n3).bind fun p5 => (rdc σ p5.1 p5.2 2).bind fun l6 => uncons l6 fun c7 l8 => castStr c7 fun s9 => uncons l8 fun c10 l11 => isNil l11 <| (hcall G k n_laws_szGraphNode [.agg [.str s9, c10], .int .i64 n2] σ).bind fun q12 => castInt .i64 q12.1 fun n13 => bif decide (n13 < 0) then (some (.ret, [.v (.int .i64 n13), .v (.int .i64 (-1))], q12.2)) else (laws_szGraphNodeS.L0 k m [.v a1, .v (.int .i64 n13), .v (.int .i64 (IntKind.wrap .i64 (n3 + 1)))] q12.2)) else (some (.exit 0, [.v (.int .i64 n2), .bot], σ))) := by
  kernel_rfl
theorem laws_szGraphNodeS.A0_x0 (k : Nat) (n1 : Int) (t2 : T) (σ : Heap) : laws_szGraphNodeS.A0 k (.exit 0, [.v (.int .i64 n1), t2], σ) = (some (.int .i64 n1, σ)) := by
  kernel_rfl
theorem laws_szGraphNodeS.A0_ret (k : Nat) (t1 : T) (n2 : Int) (σ : Heap) : laws_szGraphNodeS.A0 k (.ret, [t1, .v (.int .i64 n2)], σ) = (some (.int .i64 n2, σ)) := by
  kernel_rfl

/-! loop.example/smithy/laws.toGraphNode: function 48 -/
theorem laws_toGraphNode.eq (k : Nat) (s1 : ByteArray) (a2 : V) (σ : Heap) : hcall G (k + 1) n_laws_toGraphNode [.agg [.str s1, a2]] σ = ((hcall G k n_laws_toStringS [a2] σ).bind fun q3 => one q3.1 <| some (.agg [.str s1, q3.1], q3.2)) := by
  kernel_rfl

/-! loop.example/smithy/laws.toGraphNodeS: function 17 -/
noncomputable def laws_toGraphNodeS.L0 (k : Nat) : Nat → List T → Heap → Option (Ex × List T × Heap) := hloop (hx (G.env n_laws_toGraphNodeS k) k 23 (subc (bodyOf Try.f17) [1, 1, 0, 1, 0, 0]) 0) 23 (G.msk n_laws_toGraphNodeS 0).1 (G.msk n_laws_toGraphNodeS 0).2
noncomputable def laws_toGraphNodeS.A0 (k : Nat) : Ex × List T × Heap → Option (V × Heap) := fun r => aft (G.env n_laws_toGraphNodeS k) k 23 (bodyOf Try.f17) [1, 1, 0, 1, 0] 0 (ck G.P Try.f17) r.1 (unpick 23 (G.msk n_laws_toGraphNodeS 0).2 r.2.1) r.2.2
theorem laws_toGraphNodeS.eq (k : Nat) (a1 : V) (σ : Heap) : hcall G (k + 1) n_laws_toGraphNodeS [a1] σ = ((vlen a1).bind fun k2 => if 0 ≤ (k2 : Int) ∧ (k2 : Int) * 40 ≤ 2 ^ 46 ∧ (k2 : Int) ≤ 2 ^ 46 then ((laws_toGraphNodeS.L0 k k [.v a1, .v (.sl σ.length 0 ((k2 : Int) : Int).toNat true), .v (.int .i64 0)] (hnew σ 2 (List.replicate ((k2 : Int) : Int).toNat [.str (⟨#[]⟩ : ByteArray), .nils]).flatten)).bind (laws_toGraphNodeS.A0 k)) else none) := by
  kernel_rfl
theorem laws_toGraphNodeS.L0_step (k m : Nat) (a1 : V) (a2 : V) (n3 : Int) (σ : Heap) : laws_toGraphNodeS.L0 k (m + 1) [.v a1, .v a2, .v (.int .i64 n3)] σ = ((vlen a1).bind fun k4 => bif decide (n3 < (k4 : Int)) then ((vidx 2 a1 n3).bind fun p5 => (rdc σ p5.1 p5.2 2).bind fun l6 => uncons l6 fun c7 l8 => castStr c7 fun s9 => uncons l8 fun c10 l11 => isNil l11 <| (hcall G k n_laws_toGraphNode [.agg [.str s9, c10]] σ).bind fun q12 => castAgg q12.1 fun l13 => uncons l13 fun c14 l15 => castStr c14 fun s16 => uncons l15 fun c17 l18 => isNil l18 <| (vidx 2 a2 n3).bind fun p19 => (wrc q12.2 p19.1 p19.2 [.str s16, c17]).bind fun h20 => laws_toGraphNodeS.L0 k m [.v a1, .v a2, .v (.int .i64 (IntKind.wrap .i64 (n3 + 1)))] h20) else (some (.exit 0, [.bot, .v a2], σ))) := by
  kernel_rfl
theorem laws_toGraphNodeS.A0_x0 (k : Nat) (t1 : T) (a2 : V) (σ : Heap) : laws_toGraphNodeS.A0 k (.exit 0, [t1, .v a2], σ) = (some (a2, σ)) := by
  kernel_rfl

/-! loop.example/smithy/laws.eqGraphNode: function 55 -/
theorem laws_eqGraphNode.eq (k : Nat) (s1 : ByteArray) (a2 : V) (s3 : ByteArray) (a4 : V) (σ : Heap) : hcall G (k + 1) n_laws_eqGraphNode [.agg [.str s1, a2], .agg [.str s3, a4]] σ = (bif !decide (s1 = s3) then (some (.bool false, σ)) else ((hcall G k n_laws_eqStringS [a2, a4] σ).bind fun q5 => castBool q5.1 fun b6 => bif !b6 then (some (.bool false, q5.2)) else (some (.bool true, q5.2)))) := by
  kernel_rfl

/-! loop.example/smithy/laws.eqGraphNodeS: function 19 -/
noncomputable def laws_eqGraphNodeS.L0 (k : Nat) : Nat → List T → Heap → Option (Ex × List T × Heap) := hloop (hx (G.env n_laws_eqGraphNodeS k) k 27 (subc (bodyOf Try.f19) [1, 1, 0, 1, 0, 0]) 0) 27 (G.msk n_laws_eqGraphNodeS 0).1 (G.msk n_laws_eqGraphNodeS 0).2
noncomputable def laws_eqGraphNodeS.A0 (k : Nat) : Ex × List T × Heap → Option (V × Heap) := fun r => aft (G.env n_laws_eqGraphNodeS k) k 27 (bodyOf Try.f19) [1, 1, 0, 1, 0] 0 (ck G.P Try.f19) r.1 (unpick 27 (G.msk n_laws_eqGraphNodeS 0).2 r.2.1) r.2.2
theorem laws_eqGraphNodeS.eq (k : Nat) (a1 : V) (a2 : V) (σ : Heap) : hcall G (k + 1) n_laws_eqGraphNodeS [a1, a2] σ = ((vlen a1).bind fun k3 => (vlen a2).bind fun k4 => bif !decide ((k3 : Int) = (k4 : Int)) then (some (.bool false, σ)) else ((laws_eqGraphNodeS.L0 k k [.v a1, .v a2, .v (.int .i64 0)] σ).bind (laws_eqGraphNodeS.A0 k))) := by
  kernel_rfl
theorem laws_eqGraphNodeS.L0_step (k m : Nat) (a1 : V) (a2 : V) (n3 : Int) (σ : Heap) : laws_eqGraphNodeS.L0 k (m + 1) [.v a1, .v a2, .v (.int .i64 n3)] σ = ((vlen a1).bind fun k4 => bif decide (n3 < (k4 : Int)) then ((vidx 2 a1 n3).bind fun p5 => (rdc σ p5.1 p5.2 2).bind fun l6 => uncons l6 fun c7 l8 => castStr c7 fun s9 => uncons l8 fun c10 l11 => isNil l11 <| (vidx 2 a2 n3).bind fun p12 => (rdc σ p12.1 p12.2 2).bind fun l13 => uncons l13 fun c14 l15 => castStr c14 fun s16 => uncons l15 fun c17 l18 => isNil l18 <| (hcall G k n_laws_eqGraphNode [.agg [.str s9, c10], .agg [.str s16, c17]] σ).bind fun q19 => castBool q19.1 fun b20 => bif !b20 then (some (.ret, [.v (.bool false)], q19.2)) else (laws_eqGraphNodeS.L0 k m [.v a1, .v a2, .v (.int .i64 (IntKind.wrap .i64 (n3 + 1)))] q19.2)) else (some (.exit 0, [.bot], σ))) := by
  kernel_rfl
theorem laws_eqGraphNodeS.A0_x0 (k : Nat) (t1 : T) (σ : Heap) : laws_eqGraphNodeS.A0 k (.exit 0, [t1], σ) = (some (.bool true, σ)) := by
  kernel_rfl
theorem laws_eqGraphNodeS.A0_ret (k : Nat) (b1 : Bool) (σ : Heap) : laws_eqGraphNodeS.A0 k (.ret, [.v (.bool b1)], σ) = (some (.bool b1, σ)) := by
  kernel_rfl

/-! loop.example/smithy/laws.szCodeRef: function 119 -/
theorem laws_szCodeRef.eq (k : Nat) (s1 : ByteArray) (s2 : ByteArray) (n3 : Int) (σ : Heap) : hcall G (k + 1) n_laws_szCodeRef [.agg [.str s1, .str s2], .int .i64 n3] σ = (bif decide (IntKind.wrap .i64 (n3 - (s1.size : Int)) < 0) then (some (.int .i64 (-1), σ)) else (bif decide (IntKind.wrap .i64 ((IntKind.wrap .i64 (n3 - (s1.size : Int))) - (s2.size : Int)) < 0) then (some (.int .i64 (-1), σ)) else (some (.int .i64 (IntKind.wrap .i64 ((IntKind.wrap .i64 (n3 - (s1.size : Int))) - (s2.size : Int))), σ)))) := by
  kernel_rfl

/-! loop.example/smithy/laws.szCodeRefS: function 102 -/
noncomputable def laws_szCodeRefS.L0 (k : Nat) : Nat → List T → Heap → Option (Ex × List T × Heap) := hloop (hx (G.env n_laws_szCodeRefS k) k 27 (subc (bodyOf Try.f102) [1, 1, 1, 0, 1, 0, 0]) 0) 27 (G.msk n_laws_szCodeRefS 0).1 (G.msk n_laws_szCodeRefS 0).2
noncomputable def laws_szCodeRefS.A0 (k : Nat) : Ex × List T × Heap → Option (V × Heap) := fun r => aft (G.env n_laws_szCodeRefS k) k 27 (bodyOf Try.f102) [1, 1, 1, 0, 1, 0] 0 (ck G.P Try.f102) r.1 (unpick 27 (G.msk n_laws_szCodeRefS 0).2 r.2.1) r.2.2
theorem laws_szCodeRefS.eq (k : Nat) (a1 : V) (n2 : Int) (σ : Heap) : hcall G (k + 1) n_laws_szCodeRefS [a1, .int .i64 n2] σ = ((vlen a1).bind fun k3 => bif decide (IntKind.wrap .i64 (n2 - (k3 : Int)) < 0) then (some (.int .i64 (-1), σ)) else ((laws_szCodeRefS.L0 k k [.v a1, .v (.int .i64 (IntKind.wrap .i64 (n2 - (k3 : Int)))), .v (.int .i64 0)] σ).bind (laws_szCodeRefS.A0 k))) := by
  kernel_rfl
theorem laws_szCodeRefS.L0_step (k m : Nat) (a1 : V) (n2 : Int) (n3 : Int) (σ : Heap) : laws_szCodeRefS.L0 k (m + 1) [.v a1, .v (.int .i64 n2), .v (.int .i64 n3)] σ = ((vlen a1).bind fun k4 => bif decide (n3 < (k4 : Int)) then ((vidx 2 a1 n3).bind fun p5 => (rdc σ p5.1 p5.2 2).bind fun l6 => uncons l6 fun c7 l8 => castStr c7 fun s9 => uncons l8 fun c10 l11 => castStr c10 fun s12 => isNil l11 <| (hcall G k n_laws_szCodeRef [.agg [.str s9, .str s12], .int .i64 n2] σ).bind fun q13 => castInt .i64 q13.1 fun n14 => bif decide (n14 < 0) then (some (.ret, [.v (.int .i64 n14), .v (.int .i64 (-1))], q13.2)) else (laws_szCodeRefS.L0 k m [.v a1, .v (.int .i64 n14), .v (.int .i64 (IntKind.wrap .i64 (n3 + 1)))] q13.2)) else (some (.exit 0, [.v (.int .i64 n2), .bot], σ))) := by
  kernel_rfl
theorem laws_szCodeRefS.A0_x0 (k : Nat) (n1 : Int) (t2 : T) (σ : Heap) : laws_szCodeRefS.A0 k (.exit 0, [.v (.int .i64 n1), t2], σ) = (some (.int .i64 n1, σ)) := by
  kernel_rfl
theorem laws_szCodeRefS.A0_ret (k : Nat) (t1 : T) (n2 : Int) (σ : Heap) : laws_szCodeRefS.A0 k (.ret, [t1, .v (.int .i64 n2)], σ) = (some (.int .i64 n2, σ)) := by
  kernel_rfl

/-! loop.example/smithy/laws.szIntS: function 143 -/
theorem laws_szIntS.eq (k : Nat) (a1 : V) (n2 : Int) (σ : Heap) : hcall G (k + 1) n_laws_szIntS [a1, .int .i64 n2] σ = ((vlen a1).bind fun k3 => bif decide (IntKind.wrap .i64 (n2 - (k3 : Int)) < 0) then (some (.int .i64 (-1), σ)) else (some (.int .i64 (IntKind.wrap .i64 (n2 - (k3 : Int))), σ))) := by
  kernel_rfl

/-! loop.example/smithy/laws.szCodeInsS: function 144 -/
theorem laws_szCodeInsS.eq (k : Nat) (a1 : V) (n2 : Int) (σ : Heap) : hcall G (k + 1) n_laws_szCodeInsS [a1, .int .i64 n2] σ = ((vlen a1).bind fun k3 => bif decide (IntKind.wrap .i64 (n2 - (k3 : Int)) < 0) then (some (.int .i64 (-1), σ)) else (some (.int .i64 (IntKind.wrap .i64 (n2 - (k3 : Int))), σ))) := by
  kernel_rfl

/-! loop.example/smithy/laws.szCodeFun: function 120 -/
theorem laws_szCodeFun.eq (k : Nat) (s1 : ByteArray) (b2 : Bool) (a3 : V) (n4 : Int) (n5 : Int) (a6 : V) (n7 : Int) (σ : Heap) : hcall G (k + 1) n_laws_szCodeFun [.agg [.str s1, .bool b2, a3, .int .i64 n4, .int .i64 n5, a6], .int .i64 n7] σ = (bif decide (IntKind.wrap .i64 (n7 - (s1.size : Int)) < 0) then (some (.int .i64 (-1), σ)) else ((hcall G k n_laws_szIntS [a3, .int .i64 (IntKind.wrap .i64 (n7 - (s1.size : Int)))] σ).bind fun q8 => castInt .i64 q8.1 fun n9 => bif decide (n9 < 0) then (some (.int .i64 (-1), q8.2)) else ((hcall G k n_laws_szCodeInsS [a6, .int .i64 n9] q8.2).bind fun q10 => castInt .i64 q10.1 fun n11 => bif decide (n11 < 0) then (some (.int .i64 (-1), q10.2)) else (some (.int .i64 n11, q10.2))))) := by
  kernel_rfl

/-! loop.example/smithy/laws.szCodeFunS: function 103 -/
noncomputable def laws_szCodeFunS.L0 (k : Nat) : Nat → List T → Heap → Option (Ex × List T × Heap) := hloop (hx (G.env n_laws_szCodeFunS k) k 27 (subc (bodyOf Try.f103) [1, 1, 1, 0, 1, 0, 0]) 0) 27 (G.msk n_laws_szCodeFunS 0).1 (G.msk n_laws_szCodeFunS 0).2
noncomputable def laws_szCodeFunS.A0 (k : Nat) : Ex × List T × Heap → Option (V × Heap) := fun r => aft (G.env n_laws_szCodeFunS k) k 27 (bodyOf Try.f103) [1, 1, 1, 0, 1, 0] 0 (ck G.P Try.f103) r.1 (unpick 27 (G.msk n_laws_szCodeFunS 0).2 r.2.1) r.2.2
theorem laws_szCodeFunS.eq (k : Nat) (a1 : V) (n2 : Int) (σ : Heap) : hcall G (k + 1) n_laws_szCodeFunS [a1, .int .i64 n2] σ = ((vlen a1).bind fun k3 => bif decide (IntKind.wrap .i64 (n2 - (k3 : Int)) < 0) then (some (.int .i64 (-1), σ)) else ((laws_szCodeFunS.L0 k k [.v a1, .v (.int .i64 (IntKind.wrap .i64 (n2 - (k3 : Int)))), .v (.int .i64 0)] σ).bind (laws_szCodeFunS.A0 k))) := by
  kernel_rfl
theorem laws_szCodeFunS.L0_step (k m : Nat) (a1 : V) (n2 : Int) (n3 : Int) (σ : Heap) : laws_szCodeFunS.L0 k (m + 1) [.v a1, .v (.int .i64 n2), .v (.int .i64 n3)] σ = ((vlen a1).bind fun k4 => bif decide (n3 < (k4 : Int)) then ((vidx 6 a1 n3).bind fun p5 => (rdc σ p5.1 p5.2 6).bind fun l6 => uncons l6 fun c7 l8 => castStr c7 fun s9 => uncons l8 fun c10 l11 => castBool c10 fun b12 => uncons l11 fun c13 l14 => uncons l14 fun c15 l16 => castInt .i64 c15 fun n17 => uncons l16 fun c18 l19 => castInt .i64 c18 fun n20 => uncons l19 fun c21 l22 => isNil l22 <| (hcall G k n_laws_szCodeFun [.agg [.str s9, .bool b12, c13, .int .i64 n17, .int .i64 n20, c21], .int .i64 n2] σ).bind fun q23 => castInt .i64 q23.1 fun n24 => bif decide (n24 < 0) then (some (.ret, [.v (.int .i64 n24), .v (.int .i64 (-1))], q23.2)) else (laws_szCodeFunS.L0 k m [.v a1, .v (.int .i64 n24), .v (.int .i64 (IntKind.wrap .i64 (n3 + 1)))] q23.2)) else (some (.exit 0, [.v (.int .i64 n2), .bot], σ))) := by
  kernel_rfl
theorem laws_szCodeFunS.A0_x0 (k : Nat) (n1 : Int) (t2 : T) (σ : Heap) : laws_szCodeFunS.A0 k (.exit 0, [.v (.int .i64 n1), t2], σ) = (some (.int .i64 n1, σ)) := by
  kernel_rfl
theorem laws_szCodeFunS.A0_ret (k : Nat) (t1 : T) (n2 : Int) (σ : Heap) : laws_szCodeFunS.A0 k (.ret, [t1, .v (.int .i64 n2)], σ) = (some (.int .i64 n2, σ)) := by
  kernel_rfl

/-! loop.example/smithy/laws.szCodeObj: function 85 -/
theorem laws_szCodeObj.eq (k : Nat) (a1 : V) (a2 : V) (n3 : Int) (σ : Heap) : hcall G (k + 1) n_laws_szCodeObj [.agg [a1, a2], .int .i64 n3] σ = ((hcall G k n_laws_szCodeRefS [a1, .int .i64 n3] σ).bind fun q4 => castInt .i64 q4.1 fun n5 => bif decide (n5 < 0) then (some (.int .i64 (-1), q4.2)) else ((hcall G k n_laws_szCodeFunS [a2, .int .i64 n5] q4.2).bind fun q6 => castInt .i64 q6.1 fun n7 => bif decide (n7 < 0) then (some (.int .i64 (-1), q6.2)) else (some (.int .i64 n7, q6.2)))) := by
  kernel_rfl

/-! loop.example/smithy/laws.szLinkPart: function 57 -/
theorem laws_szLinkPart.eq (k : Nat) (s1 : ByteArray) (a2 : V) (a3 : V) (n4 : Int) (σ : Heap) : hcall G (k + 1) n_laws_szLinkPart [.agg [.str s1, a2, a3], .int .i64 n4] σ = (bif decide (IntKind.wrap .i64 (n4 - (s1.size : Int)) < 0) then (some (.int .i64 (-1), σ)) else ((hcall G k n_laws_szCodeObj [.agg [a2, a3], .int .i64 (IntKind.wrap .i64 (n4 - (s1.size : Int)))] σ).bind fun q5 => castInt .i64 q5.1 fun n6 => bif decide (n6 < 0) then (some (.int .i64 (-1), q5.2)) else (some (.int .i64 n6, q5.2)))) := by
  kernel_rfl

/-! loop.example/smithy/laws.szLinkPartS: function 23 -/
noncomputable def laws_szLinkPartS.L0 (k : Nat) : Nat → List T → Heap → Option (Ex × List T × Heap) := hloop (hx (G.env n_laws_szLinkPartS k) k 27 (subc (bodyOf Try.f23) [1, 1, 1, 0, 1, 0, 0]) 0) 27 (G.msk n_laws_szLinkPartS 0).1 (G.msk n_laws_szLinkPartS 0).2
noncomputable def laws_szLinkPartS.A0 (k : Nat) : Ex × List T × Heap → Option (V × Heap) := fun r => aft (G.env n_laws_szLinkPartS k) k 27 (bodyOf Try.f23) [1, 1, 1, 0, 1, 0] 0 (ck G.P Try.f23) r.1 (unpick 27 (G.msk n_laws_szLinkPartS 0).2 r.2.1) r.2.2
theorem laws_szLinkPartS.eq (k : Nat) (a1 : V) (n2 : Int) (σ : Heap) : hcall G (k + 1) n_laws_szLinkPartS [a1, .int .i64 n2] σ = ((vlen a1).bind fun k3 => bif decide (IntKind.wrap .i64 (n2 - (k3 : Int)) < 0) then (some (.int .i64 (-1), σ)) else ((laws_szLinkPartS.L0 k k [.v a1, .v (.int .i64 (IntKind.wrap .i64 (n2 - (k3 : Int)))), .v (.int .i64 0)] σ).bind (laws_szLinkPartS.A0 k))) := by
  kernel_rfl
theorem laws_szLinkPartS.L0_step (k m : Nat) (a1 : V) (n2 : Int) (n3 : Int) (σ : Heap) : laws_szLinkPartS.L0 k (m + 1) [.v a1, .v (.int .i64 n2), .v (.int .i64 n3)] σ = ((vlen a1).bind fun k4 => bif decide (n3 < (k4 : Int)) then ((vidx 3 a1 n3).bind fun p5 => (rdc σ p5.1 p5.2 3).bind fun l6 => uncons l6 fun c7 l8 => castStr c7 fun s9 => uncons l8 fun c10 l11 => uncons l11 fun c12 l13 => isNil l13 <| (hcall G k n_laws_szLinkPart [.agg [.str s9, c10, c12], .int .i64 n2] σ).bind fun q14 => castInt .i64 q14.1 fun n15 => bif decide (n15 < 0) then (some (.ret, [.v (.int .i64 n15), .v (.int .i64 (-1))], q14.2)) else (laws_szLinkPartS.L0 k m [.v a1, .v (.int .i64 n15), .v (.int .i64 (IntKind.wrap .i64 (n3 + 1)))] q14.2)) else (some (.exit 0, [.v (.int .i64 n2), .bot], σ))) := by
  kernel_rfl
theorem laws_szLinkPartS.A0_x0 (k : Nat) (n1 : Int) (t2 : T) (σ : Heap) : laws_szLinkPartS.A0 k (.exit 0, [.v (.int .i64 n1), t2], σ) = (some (.int .i64 n1, σ)) := by
  kernel_rfl
theorem laws_szLinkPartS.A0_ret (k : Nat) (t1 : T) (n2 : Int) (σ : Heap) : laws_szLinkPartS.A0 k (.ret, [t1, .v (.int .i64 n2)], σ) = (some (.int .i64 n2, σ)) := by
  kernel_rfl

/-! loop.example/smithy/laws.toCodeRef: function 121 -/
theorem laws_toCodeRef.eq (k : Nat) (s1 : ByteArray) (s2 : ByteArray) (σ : Heap) : hcall G (k + 1) n_laws_toCodeRef [.agg [.str s1, .str s2]] σ = (some (.agg [.str s1, .str s2], σ)) := by
  kernel_rfl

/-! loop.example/smithy/laws.toCodeRefS: function 104 -/
noncomputable def laws_toCodeRefS.L0 (k : Nat) : Nat → List T → Heap → Option (Ex × List T × Heap) := hloop (hx (G.env n_laws_toCodeRefS k) k 23 (subc (bodyOf Try.f104) [1, 1, 0, 1, 0, 0]) 0) 23 (G.msk n_laws_toCodeRefS 0).1 (G.msk n_laws_toCodeRefS 0).2
noncomputable def laws_toCodeRefS.A0 (k : Nat) : Ex × List T × Heap → Option (V × Heap) := fun r => aft (G.env n_laws_toCodeRefS k) k 23 (bodyOf Try.f104) [1, 1, 0, 1, 0] 0 (ck G.P Try.f104) r.1 (unpick 23 (G.msk n_laws_toCodeRefS 0).2 r.2.1) r.2.2
theorem laws_toCodeRefS.eq (k : Nat) (a1 : V) (σ : Heap) : hcall G (k + 1) n_laws_toCodeRefS [a1] σ = ((vlen a1).bind fun k2 => if 0 ≤ (k2 : Int) ∧ (k2 : Int) * 32 ≤ 2 ^ 46 ∧ (k2 : Int) ≤ 2 ^ 46 then ((laws_toCodeRefS.L0 k k [.v a1, .v (.sl σ.length 0 ((k2 : Int) : Int).toNat true), .v (.int .i64 0)] (hnew σ 2 (List.replicate ((k2 : Int) : Int).toNat [.str (⟨#[]⟩ : ByteArray), .str (⟨#[]⟩ : ByteArray)]).flatten)).bind (laws_toCodeRefS.A0 k)) else none) := by
  kernel_rfl
theorem laws_toCodeRefS.L0_step (k m : Nat) (a1 : V) (a2 : V) (n3 : Int) (σ : Heap) : laws_toCodeRefS.L0 k (m + 1) [.v a1, .v a2, .v (.int .i64 n3)] σ = ((vlen a1).bind fun k4 => bif decide (n3 < (k4 : Int)) then ((vidx 2 a1 n3).bind fun p5 => (rdc σ p5.1 p5.2 2).bind fun l6 => uncons l6 fun c7 l8 => castStr c7 fun s9 => uncons l8 fun c10 l11 => castStr c10 fun s12 => isNil l11 <| (hcall G k n_laws_toCodeRef [.agg [.str s9, .str s12]] σ).bind fun q13 => castAgg q13.1 fun l14 => uncons l14 fun c15 l16 => castStr c15 fun s17 => uncons l16 fun c18 l19 => castStr c18 fun s20 => isNil l19 <| (vidx 2 a2 n3).bind fun p21 => (wrc q13.2 p21.1 p21.2 [.str s17, .str s20]).bind fun h22 => laws_toCodeRefS.L0 k m [.v a1, .v a2, .v (.int .i64 (IntKind.wrap .i64 (n3 + 1)))] h22) else (some (.exit 0, [.bot, .v a2], σ))) := by
  kernel_rfl
theorem laws_toCodeRefS.A0_x0 (k : Nat) (t1 : T) (a2 : V) (σ : Heap) : laws_toCodeRefS.A0 k (.exit 0, [t1, .v a2], σ) = (some (a2, σ)) := by
  kernel_rfl

/-! loop.example/smithy/laws.toIntS: function 145 -/
noncomputable def laws_toIntS.L0 (k : Nat) : Nat → List T → Heap → Option (Ex × List T × Heap) := hloop (hx (G.env n_laws_toIntS k) k 22 (subc (bodyOf Try.f145) [1, 1, 0, 1, 0, 0]) 0) 22 (G.msk n_laws_toIntS 0).1 (G.msk n_laws_toIntS 0).2
noncomputable def laws_toIntS.A0 (k : Nat) : Ex × List T × Heap → Option (V × Heap) := fun r => aft (G.env n_laws_toIntS k) k 22 (bodyOf Try.f145) [1, 1, 0, 1, 0] 0 (ck G.P Try.f145) r.1 (unpick 22 (G.msk n_laws_toIntS 0).2 r.2.1) r.2.2
theorem laws_toIntS.eq (k : Nat) (a1 : V) (σ : Heap) : hcall G (k + 1) n_laws_toIntS [a1] σ = ((vlen a1).bind fun k2 => if 0 ≤ (k2 : Int) ∧ (k2 : Int) * 8 ≤ 2 ^ 46 ∧ (k2 : Int) ≤ 2 ^ 46 then ((laws_toIntS.L0 k k [.v a1, .v (.sl σ.length 0 ((k2 : Int) : Int).toNat true), .v (.int .i64 0)] (hnew σ 1 (List.replicate ((k2 : Int) : Int).toNat [.int .i64 0]).flatten)).bind (laws_toIntS.A0 k)) else none) := by
  kernel_rfl
theorem laws_toIntS.L0_step (k m : Nat) (a1 : V) (a2 : V) (n3 : Int) (σ : Heap) : laws_toIntS.L0 k (m + 1) [.v a1, .v a2, .v (.int .i64 n3)] σ = ((vlen a1).bind fun k4 => bif decide (n3 < (k4 : Int)) then ((vidx 1 a1 n3).bind fun p5 => (rdc σ p5.1 p5.2 1).bind fun l6 => uncons l6 fun c7 l8 => castInt .i64 c7 fun n9 => isNil l8 <| (vidx 1 a2 n3).bind fun p10 => (wrc σ p10.1 p10.2 [.int .i64 n9]).bind fun h11 => laws_toIntS.L0 k m [.v a1, .v a2, .v (.int .i64 (IntKind.wrap .i64 (n3 + 1)))] h11) else (some (.exit 0, [.bot, .v a2], σ))) := by
  kernel_rfl
theorem laws_toIntS.A0_x0 (k : Nat) (t1 : T) (a2 : V) (σ : Heap) : laws_toIntS.A0 k (.exit 0, [t1, .v a2], σ) = (some (a2, σ)) := by
  kernel_rfl

/-! loop.example/smithy/laws.toCodeIns: function 157 -/
theorem laws_toCodeIns.eq (k : Nat) (n1 : Int) (n2 : Int) (σ : Heap) : hcall G (k + 1) n_laws_toCodeIns [.agg [.int .i64 n1, .int .i64 n2]] σ = (some (.agg [.int .i64 n1, .int .i64 n2], σ)) := by
  kernel_rfl

/-! loop.example/smithy/laws.toCodeInsS: function 146 -/
noncomputable def laws_toCodeInsS.L0 (k : Nat) : Nat → List T → Heap → Option (Ex × List T × Heap) := hloop (hx (G.env n_laws_toCodeInsS k) k 23 (subc (bodyOf Try.f146) [1, 1, 0, 1, 0, 0]) 0) 23 (G.msk n_laws_toCodeInsS 0).1 (G.msk n_laws_toCodeInsS 0).2
noncomputable def laws_toCodeInsS.A0 (k : Nat) : Ex × List T × Heap → Option (V × Heap) := fun r => aft (G.env n_laws_toCodeInsS k) k 23 (bodyOf Try.f146) [1, 1, 0, 1, 0] 0 (ck G.P Try.f146) r.1 (unpick 23 (G.msk n_laws_toCodeInsS 0).2 r.2.1) r.2.2
theorem laws_toCodeInsS.eq (k : Nat) (a1 : V) (σ : Heap) : hcall G (k + 1) n_laws_toCodeInsS [a1] σ = ((vlen a1).bind fun k2 => if 0 ≤ (k2 : Int) ∧ (k2 : Int) * 16 ≤ 2 ^ 46 ∧ (k2 : Int) ≤ 2 ^ 46 then ((laws_toCodeInsS.L0 k k [.v a1, .v (.sl σ.length 0 ((k2 : Int) : Int).toNat true), .v (.int .i64 0)] (hnew σ 2 (List.replicate ((k2 : Int) : Int).toNat [.int .i64 0, .int .i64 0]).flatten)).bind (laws_toCodeInsS.A0 k)) else none) := by
  kernel_rfl
theorem laws_toCodeInsS.L0_step (k m : Nat) (a1 : V) (a2 : V) (n3 : Int) (σ : Heap) : laws_toCodeInsS.L0 k (m + 1) [.v a1, .v a2, .v (.int .i64 n3)] σ = ((vlen a1).bind fun k4 => bif decide (n3 < (k4 : Int)) then ((vidx 2 a1 n3).bind fun p5 => (rdc σ p5.1 p5.2 2).bind fun l6 => uncons l6 fun c7 l8 => castInt .i64 c7 fun n9 => uncons l8 fun c10 l11 => castInt .i64 c10 fun n12 => isNil l11 <| (hcall G k n_laws_toCodeIns [.agg [.int .i64 n9, .int .i64 n12]] σ).bind fun q13 => castAgg q13.1 fun l14 => uncons l14 fun c15 l16 => castInt .i64 c15 fun n17 => uncons l16 fun c18 l19 => castInt .i64 c18 fun n20 => isNil l19 <| (vidx 2 a2 n3).bind fun p21 => (wrc q13.2 p21.1 p21.2 [.int .i64 n17, .int .i64 n20]).bind fun h22 => laws_toCodeInsS.L0 k m [.v a1, .v a2, .v (.int .i64 (IntKind.wrap .i64 (n3 + 1)))] h22) else (some (.exit 0, [.bot, .v a2], σ))) := by
  kernel_rfl
theorem laws_toCodeInsS.A0_x0 (k : Nat) (t1 : T) (a2 : V) (σ : Heap) : laws_toCodeInsS.A0 k (.exit 0, [t1, .v a2], σ) = (some (a2, σ)) := by
  kernel_rfl

/-! loop.example/smithy/laws.toCodeFun: function 122 -/
theorem laws_toCodeFun.eq (k : Nat) (s1 : ByteArray) (b2 : Bool) (a3 : V) (n4 : Int) (n5 : Int) (a6 : V) (σ : Heap) : hcall G (k + 1) n_laws_toCodeFun [.agg [.str s1, .bool b2, a3, .int .i64 n4, .int .i64 n5, a6]] σ = ((hcall G k n_laws_toIntS [a3] σ).bind fun q7 => one q7.1 <| (hcall G k n_laws_toCodeInsS [a6] q7.2).bind fun q8 => one q8.1 <| some (.agg [.str s1, .bool b2, q7.1, .int .i64 n4, .int .i64 n5, q8.1], q8.2)) := by
  kernel_rfl

/-! loop.example/smithy/laws.toCodeFunS: function 105 -/
noncomputable def laws_toCodeFunS.L0 (k : Nat) : Nat → List T → Heap → Option (Ex × List T × Heap) := hloop (hx (G.env n_laws_toCodeFunS k) k 23 (subc (bodyOf Try.f105) [1, 1, 0, 1, 0, 0]) 0) 23 (G.msk n_laws_toCodeFunS 0).1 (G.msk n_laws_toCodeFunS 0).2
noncomputable def laws_toCodeFunS.A0 (k : Nat) : Ex × List T × Heap → Option (V × Heap) := fun r => aft (G.env n_laws_toCodeFunS k) k 23 (bodyOf Try.f105) [1, 1, 0, 1, 0] 0 (ck G.P Try.f105) r.1 (unpick 23 (G.msk n_laws_toCodeFunS 0).2 r.2.1) r.2.2
theorem laws_toCodeFunS.eq (k : Nat) (a1 : V) (σ : Heap) : hcall G (k + 1) n_laws_toCodeFunS [a1] σ = ((vlen a1).bind fun k2 => if 0 ≤ (k2 : Int) ∧ (k2 : Int) * 88 ≤ 2 ^ 46 ∧ (k2 : Int) ≤ 2 ^ 46 then ((laws_toCodeFunS.L0 k k [.v a1, .v (.sl σ.length 0 ((k2 : Int) : Int).toNat true), .v (.int .i64 0)] (hnew σ 6 (List.replicate ((k2 : Int) : Int).toNat [.str (⟨#[]⟩ : ByteArray), .bool false, .nils, .int .i64 0, .int .i64 0, .nils]).flatten)).bind (laws_toCodeFunS.A0 k)) else none) := by
  kernel_rfl
theorem laws_toCodeFunS.L0_step (k m : Nat) (a1 : V) (a2 : V) (n3 : Int) (σ : Heap) : laws_toCodeFunS.L0 k (m + 1) [.v a1, .v a2, .v (.int .i64 n3)] σ = ((vlen a1).bind fun k4 => bif decide (n3 < (k4 : Int)) then ((vidx 6 a1 n3).bind fun p5 => (rdc σ p5.1 p5.2 6).bind fun l6 => uncons l6 fun c7 l8 => castStr c7 fun s9 => uncons l8 fun c10 l11 => castBool c10 fun b12 => uncons l11 fun c13 l14 => uncons l14 fun c15 l16 => castInt .i64 c15 fun n17 => uncons l16 fun c18 l19 => castInt .i64 c18 fun n20 => uncons l19 fun c21 l22 => isNil l22 <| (hcall G k n_laws_toCodeFun [.agg [.str s9, .bool b12, c13, .int .i64 n17, .int .i64 n20, c21]] σ).bind fun q23 => castAgg q23.1 fun l24 => uncons l24 fun c25 l26 => castStr c25 fun s27 => uncons l26 fun c28 l29 => castBool c28 fun b30 => uncons l29 fun c31 l32 => uncons l32 fun c33 l34 => castInt .i64 c33 fun n35 => uncons l34 fun c36 l37 => castInt .i64 c36 fun n38 => uncons l37 fun c39 l40 => isNil l40 <| (vidx 6 a2 n3).bind fun p41 => (wrc q23.2 p41.1 p41.2 [.str s27, .bool b30, c31, .int .i64 n35, .int .i64 n38, c39]).bind fun h42 => laws_toCodeFunS.L0 k m [.v a1, .v a2, .v (.int .i64 (IntKind.wrap .i64 (n3 + 1)))] h42) else (some (.exit 0, [.bot, .v a2], σ))) := by
  kernel_rfl
theorem laws_toCodeFunS.A0_x0 (k : Nat) (t1 : T) (a2 : V) (σ : Heap) : laws_toCodeFunS.A0 k (.exit 0, [t1, .v a2], σ) = (some (a2, σ)) := by
  kernel_rfl

/-! loop.example/smithy/laws.toCodeObj: function 86 -/
theorem laws_toCodeObj.eq (k : Nat) (a1 : V) (a2 : V) (σ : Heap) : hcall G (k + 1) n_laws_toCodeObj [.agg [a1, a2]] σ = ((hcall G k n_laws_toCodeRefS [a1] σ).bind fun q3 => one q3.1 <| (hcall G k n_laws_toCodeFunS [a2] q3.2).bind fun q4 => one q4.1 <| some (.agg [q3.1, q4.1], q4.2)) := by
  kernel_rfl

/-! loop.example/smithy/laws.toLinkPart: function 61 -/
theorem laws_toLinkPart.eq (k : Nat) (s1 : ByteArray) (a2 : V) (a3 : V) (σ : Heap) : hcall G (k + 1) n_laws_toLinkPart [.agg [.str s1, a2, a3]] σ = ((hcall G k n_laws_toCodeObj [.agg [a2, a3]] σ).bind fun q4 => castAgg q4.1 fun l5 => uncons l5 fun c6 l7 => uncons l7 fun c8 l9 => isNil l9 <| some (.agg [.str s1, c6, c8], q4.2)) := by
  kernel_rfl

/-! loop.example/smithy/laws.toLinkPartS: function 25 -/
noncomputable def laws_toLinkPartS.L0 (k : Nat) : Nat → List T → Heap → Option (Ex × List T × Heap) := hloop (hx (G.env n_laws_toLinkPartS k) k 23 (subc (bodyOf Try.f25) [1, 1, 0, 1, 0, 0]) 0) 23 (G.msk n_laws_toLinkPartS 0).1 (G.msk n_laws_toLinkPartS 0).2
noncomputable def laws_toLinkPartS.A0 (k : Nat) : Ex × List T × Heap → Option (V × Heap) := fun r => aft (G.env n_laws_toLinkPartS k) k 23 (bodyOf Try.f25) [1, 1, 0, 1, 0] 0 (ck G.P Try.f25) r.1 (unpick 23 (G.msk n_laws_toLinkPartS 0).2 r.2.1) r.2.2
theorem laws_toLinkPartS.eq (k : Nat) (a1 : V) (σ : Heap) : hcall G (k + 1) n_laws_toLinkPartS [a1] σ = ((vlen a1).bind fun k2 => if 0 ≤ (k2 : Int) ∧ (k2 : Int) * 64 ≤ 2 ^ 46 ∧ (k2 : Int) ≤ 2 ^ 46 then ((laws_toLinkPartS.L0 k k [.v a1, .v (.sl σ.length 0 ((k2 : Int) : Int).toNat true), .v (.int .i64 0)] (hnew σ 3 (List.replicate ((k2 : Int) : Int).toNat [.str (⟨#[]⟩ : ByteArray), .nils, .nils]).flatten)).bind (laws_toLinkPartS.A0 k)) else none) := by
  kernel_rfl
theorem laws_toLinkPartS.L0_step (k m : Nat) (a1 : V) (a2 : V) (n3 : Int) (σ : Heap) : laws_toLinkPartS.L0 k (m + 1) [.v a1, .v a2, .v (.int .i64 n3)] σ = ((vlen a1).bind fun k4 => bif decide (n3 < (k4 : Int)) then ((vidx 3 a1 n3).bind fun p5 => (rdc σ p5.1 p5.2 3).bind fun l6 => uncons l6 fun c7 l8 => castStr c7 fun s9 => uncons l8 fun c10 l11 => uncons l11 fun c12 l13 => isNil l13 <| (hcall G k n_laws_toLinkPart [.agg [.str s9, c10, c12]] σ).bind fun q14 => castAgg q14.1 fun l15 => uncons l15 fun c16 l17 => castStr c16 fun s18 => uncons l17 fun c19 l20 => uncons l20 fun c21 l22 => isNil l22 <| (vidx 3 a2 n3).bind fun p23 => (wrc q14.2 p23.1 p23.2 [.str s18, c19, c21]).bind fun h24 => laws_toLinkPartS.L0 k m [.v a1, .v a2, .v (.int .i64 (IntKind.wrap .i64 (n3 + 1)))] h24) else (some (.exit 0, [.bot, .v a2], σ))) := by
  kernel_rfl
theorem laws_toLinkPartS.A0_x0 (k : Nat) (t1 : T) (a2 : V) (σ : Heap) : laws_toLinkPartS.A0 k (.exit 0, [t1, .v a2], σ) = (some (a2, σ)) := by
  kernel_rfl

/-! loop.example/smithy/laws.eqCodeRef: function 123 -/
theorem laws_eqCodeRef.eq (k : Nat) (s1 : ByteArray) (s2 : ByteArray) (s3 : ByteArray) (s4 : ByteArray) (σ : Heap) : hcall G (k + 1) n_laws_eqCodeRef [.agg [.str s1, .str s2], .agg [.str s3, .str s4]] σ = (bif !decide (s1 = s3) then (some (.bool false, σ)) else (bif !decide (s2 = s4) then (some (.bool false, σ)) else (some (.bool true, σ)))) := by
  kernel_rfl

/-! loop.example/smithy/laws.eqCodeRefS: function 106 -/
noncomputable def laws_eqCodeRefS.L0 (k : Nat) : Nat → List T → Heap → Option (Ex × List T × Heap) := hloop (hx (G.env n_laws_eqCodeRefS k) k 27 (subc (bodyOf Try.f106) [1, 1, 0, 1, 0, 0]) 0) 27 (G.msk n_laws_eqCodeRefS 0).1 (G.msk n_laws_eqCodeRefS 0).2
noncomputable def laws_eqCodeRefS.A0 (k : Nat) : Ex × List T × Heap → Option (V × Heap) := fun r => aft (G.env n_laws_eqCodeRefS k) k 27 (bodyOf Try.f106) [1, 1, 0, 1, 0] 0 (ck G.P Try.f106) r.1 (unpick 27 (G.msk n_laws_eqCodeRefS 0).2 r.2.1) r.2.2
theorem laws_eqCodeRefS.eq (k : Nat) (a1 : V) (a2 : V) (σ : Heap) : hcall G (k + 1) n_laws_eqCodeRefS [a1, a2] σ = ((vlen a1).bind fun k3 => (vlen a2).bind fun k4 => bif !decide ((k3 : Int) = (k4 : Int)) then (some (.bool false, σ)) else ((laws_eqCodeRefS.L0 k k [.v a1, .v a2, .v (.int .i64 0)] σ).bind (laws_eqCodeRefS.A0 k))) := by
  kernel_rfl
theorem laws_eqCodeRefS.L0_step (k m : Nat) (a1 : V) (a2 : V) (n3 : Int) (σ : Heap) : laws_eqCodeRefS.L0 k (m + 1) [.v a1, .v a2, .v (.int .i64 n3)] σ = ((vlen a1).bind fun k4 => bif decide (n3 < (k4 : Int)) then ((vidx 2 a1 n3).bind fun p5 => (rdc σ p5.1 p5.2 2).bind fun l6 => uncons l6 fun c7 l8 => castStr c7 fun s9 => uncons l8 fun c10 l11 => castStr c10 fun s12 => isNil l11 <| (vidx 2 a2 n3).bind fun p13 => (rdc σ p13.1 p13.2 2).bind fun l14 => uncons l14 fun c15 l16 => castStr c15 fun s17 => uncons l16 fun c18 l19 => castStr c18 fun s20 => isNil l19 <| (hcall G k n_laws_eqCodeRef [.agg [.str s9, .str s12], .agg [.str s17, .str s20]] σ).bind fun q21 => castBool q21.1 fun b22 => bif !b22 then (some (.ret, [.v (.bool false)], q21.2)) else (laws_eqCodeRefS.L0 k m [.v a1, .v a2, .v (.int .i64 (IntKind.wrap .i64 (n3 + 1)))] q21.2)) else (some (.exit 0, [.bot], σ))) := by
  kernel_rfl
theorem laws_eqCodeRefS.A0_x0 (k : Nat) (t1 : T) (σ : Heap) : laws_eqCodeRefS.A0 k (.exit 0, [t1], σ) = (some (.bool true, σ)) := by
  kernel_rfl
theorem laws_eqCodeRefS.A0_ret (k : Nat) (b1 : Bool) (σ : Heap) : laws_eqCodeRefS.A0 k (.ret, [.v (.bool b1)], σ) = (some (.bool b1, σ)) := by
  kernel_rfl

/-! loop.example/smithy/laws.eqIntS: function 147 -/
noncomputable def laws_eqIntS.L0 (k : Nat) : Nat → List T → Heap → Option (Ex × List T × Heap) := hloop (hx (G.env n_laws_eqIntS k) k 26 (subc (bodyOf Try.f147) [1, 1, 0, 1, 0, 0]) 0) 26 (G.msk n_laws_eqIntS 0).1 (G.msk n_laws_eqIntS 0).2
noncomputable def laws_eqIntS.A0 (k : Nat) : Ex × List T × Heap → Option (V × Heap) := fun r => aft (G.env n_laws_eqIntS k) k 26 (bodyOf Try.f147) [1, 1, 0, 1, 0] 0 (ck G.P Try.f147) r.1 (unpick 26 (G.msk n_laws_eqIntS 0).2 r.2.1) r.2.2
theorem laws_eqIntS.eq (k : Nat) (a1 : V) (a2 : V) (σ : Heap) : hcall G (k + 1) n_laws_eqIntS [a1, a2] σ = ((vlen a1).bind fun k3 => (vlen a2).bind fun k4 => bif !decide ((k3 : Int) = (k4 : Int)) then (some (.bool false, σ)) else ((laws_eqIntS.L0 k k [.v a1, .v a2, .v (.int .i64 0)] σ).bind (laws_eqIntS.A0 k))) := by
  kernel_rfl
theorem laws_eqIntS.L0_step (k m : Nat) (a1 : V) (a2 : V) (n3 : Int) (σ : Heap) : laws_eqIntS.L0 k (m + 1) [.v a1, .v a2, .v (.int .i64 n3)] σ = ((vlen a1).bind fun k4 => bif decide (n3 < (k4 : Int)) then ((vidx 1 a1 n3).bind fun p5 => (rdc σ p5.1 p5.2 1).bind fun l6 => uncons l6 fun c7 l8 => castInt .i64 c7 fun n9 => isNil l8 <| (vidx 1 a2 n3).bind fun p10 => (rdc σ p10.1 p10.2 1).bind fun l11 => uncons l11 fun c12 l13 => castInt .i64 c12 fun n14 => isNil l13 <| bif !decide (n9 = n14) then (some (.ret, [.v (.bool false)], σ)) else (laws_eqIntS.L0 k m [.v a1, .v a2, .v (.int .i64 (IntKind.wrap .i64 (n3 + 1)))] σ)) else (some (.exit 0, [.bot], σ))) := by
  kernel_rfl
theorem laws_eqIntS.A0_x0 (k : Nat) (t1 : T) (σ : Heap) : laws_eqIntS.A0 k (.exit 0, [t1], σ) = (some (.bool true, σ)) := by
  kernel_rfl
theorem laws_eqIntS.A0_ret (k : Nat) (b1 : Bool) (σ : Heap) : laws_eqIntS.A0 k (.ret, [.v (.bool b1)], σ) = (some (.bool b1, σ)) := by
  kernel_rfl

/-! loop.example/smithy/laws.eqCodeIns: function 158 -/
theorem laws_eqCodeIns.eq (k : Nat) (n1 : Int) (n2 : Int) (n3 : Int) (n4 : Int) (σ : Heap) : hcall G (k + 1) n_laws_eqCodeIns [.agg [.int .i64 n1, .int .i64 n2], .agg [.int .i64 n3, .int .i64 n4]] σ = (bif !decide (n1 = n3) then (some (.bool false, σ)) else (bif !decide (n2 = n4) then (some (.bool false, σ)) else (some (.bool true, σ)))) := by
  kernel_rfl

/-! loop.example/smithy/laws.eqCodeInsS: function 148 -/
noncomputable def laws_eqCodeInsS.L0 (k : Nat) : Nat → List T → Heap → Option (Ex × List T × Heap) := hloop (hx (G.env n_laws_eqCodeInsS k) k 27 (subc (bodyOf Try.f148) [1, 1, 0, 1, 0, 0]) 0) 27 (G.msk n_laws_eqCodeInsS 0).1 (G.msk n_laws_eqCodeInsS 0).2
noncomputable def laws_eqCodeInsS.A0 (k : Nat) : Ex × List T × Heap → Option (V × Heap) := fun r => aft (G.env n_laws_eqCodeInsS k) k 27 (bodyOf Try.f148) [1, 1, 0, 1, 0] 0 (ck G.P Try.f148) r.1 (unpick 27 (G.msk n_laws_eqCodeInsS 0).2 r.2.1) r.2.2
theorem laws_eqCodeInsS.eq (k : Nat) (a1 : V) (a2 : V) (σ : Heap) : hcall G (k + 1) n_laws_eqCodeInsS [a1, a2] σ = ((vlen a1).bind fun k3 => (vlen a2).bind fun k4 => bif !decide ((k3 : Int) = (k4 : Int)) then (some (.bool false, σ)) else ((laws_eqCodeInsS.L0 k k [.v a1, .v a2, .v (.int .i64 0)] σ).bind (laws_eqCodeInsS.A0 k))) := by
  kernel_rfl
theorem laws_eqCodeInsS.L0_step (k m : Nat) (a1 : V) (a2 : V) (n3 : Int) (σ : Heap) : laws_eqCodeInsS.L0 k (m + 1) [.v a1, .v a2, .v (.int .i64 n3)] σ = ((vlen a1).bind fun k4 => bif decide (n3 < (k4 : Int)) then ((vidx 2 a1 n3).bind fun p5 => (rdc σ p5.1 p5.2 2).bind fun l6 => uncons l6 fun c7 l8 => castInt .i64 c7 fun n9 => uncons l8 fun c10 l11 => castInt .i64 c10 fun n12 => isNil l11 <| (vidx 2 a2 n3).bind fun p13 => (rdc σ p13.1 p13.2 2).bind fun l14 => uncons l14 fun c15 l16 => castInt .i64 c15 fun n17 => uncons l16 fun c18 l19 => castInt .i64 c18 fun n20 => isNil l19 <| (hcall G k n_laws_eqCodeIns [.agg [.int .i64 n9, .int .i64 n12], .agg [.int .i64 n17, .int .i64 n20]] σ).bind fun q21 => castBool q21.1 fun b22 => bif !b22 then (some (.ret, [.v (.bool false)], q21.2)) else (laws_eqCodeInsS.L0 k m [.v a1, .v a2, .v (.int .i64 (IntKind.wrap .i64 (n3 + 1)))] q21.2)) else (some (.exit 0, [.bot], σ))) := by
  kernel_rfl
theorem laws_eqCodeInsS.A0_x0 (k : Nat) (t1 : T) (σ : Heap) : laws_eqCodeInsS.A0 k (.exit 0, [t1], σ) = (some (.bool true, σ)) := by
  kernel_rfl
theorem laws_eqCodeInsS.A0_ret (k : Nat) (b1 : Bool) (σ : Heap) : laws_eqCodeInsS.A0 k (.ret, [.v (.bool b1)], σ) = (some (.bool b1, σ)) := by
  kernel_rfl

/-! loop.example/smithy/laws.eqCodeFun: function 124 -/
theorem laws_eqCodeFun.eq (k : Nat) (s1 : ByteArray) (b2 : Bool) (a3 : V) (n4 : Int) (n5 : Int) (a6 : V) (s7 : ByteArray) (b8 : Bool) (a9 : V) (n10 : Int) (n11 : Int) (a12 : V) (σ : Heap) : hcall G (k + 1) n_laws_eqCodeFun [.agg [.str s1, .bool b2, a3, .int .i64 n4, .int .i64 n5, a6], .agg [.str s7, .bool b8, a9, .int .i64 n10, .int .i64 n11, a12]] σ = (bif !decide (s1 = s7) then (some (.bool false, σ)) else (bif !(b2 == b8) then (some (.bool false, σ)) else ((hcall G k n_laws_eqIntS [a3, a9] σ).bind fun q13 => castBool q13.1 fun b14 => bif !b14 then (some (.bool false, q13.2)) else (bif !decide (n4 = n10) then (some (.bool false, q13.2)) else (bif !decide (n5 = n11) then (some (.bool false, q13.2)) else ((hcall G k n_laws_eqCodeInsS [a6, a12] q13.2).bind fun q15 => castBool q15.1 fun b16 => bif !b16 then (some (.bool false, q15.2)) else (some (.bool true, q15.2)))))))) := by
  kernel_rfl

/-! loop.example/smithy/laws.eqCodeFunS: function 107 -/
noncomputable def laws_eqCodeFunS.L0 (k : Nat) : Nat → List T → Heap → Option (Ex × List T × Heap) := hloop (hx (G.env n_laws_eqCodeFunS k) k 27 (subc (bodyOf Try.f107) [1, 1, 0, 1, 0, 0]) 0) 27 (G.msk n_laws_eqCodeFunS 0).1 (G.msk n_laws_eqCodeFunS 0).2
noncomputable def laws_eqCodeFunS.A0 (k : Nat) : Ex × List T × Heap → Option (V × Heap) := fun r => aft (G.env n_laws_eqCodeFunS k) k 27 (bodyOf Try.f107) [1, 1, 0, 1, 0] 0 (ck G.P Try.f107) r.1 (unpick 27 (G.msk n_laws_eqCodeFunS 0).2 r.2.1) r.2.2
theorem laws_eqCodeFunS.eq (k : Nat) (a1 : V) (a2 : V) (σ : Heap) : hcall G (k + 1) n_laws_eqCodeFunS [a1, a2] σ = ((vlen a1).bind fun k3 => (vlen a2).bind fun k4 => bif !decide ((k3 : Int) = (k4 : Int)) then (some (.bool false, σ)) else ((laws_eqCodeFunS.L0 k k [.v a1, .v a2, .v (.int .i64 0)] σ).bind (laws_eqCodeFunS.A0 k))) := by
  kernel_rfl
theorem laws_eqCodeFunS.L0_step (k m : Nat) (a1 : V) (a2 : V) (n3 : Int) (σ : Heap) : laws_eqCodeFunS.L0 k (m + 1) [.v a1, .v a2, .v (.int .i64 n3)] σ = ((vlen a1).bind fun k4 => bif decide (n3 < (k4 : Int)) then ((vidx 6 a1 n3).bind fun p5 => (rdc σ p5.1 p5.2 6).bind fun l6 => uncons l6 fun c7 l8 => castStr c7 fun s9 => uncons l8 fun c10 l11 => castBool c10 fun b12 => uncons l11 fun c13 l14 => uncons l14 fun c15 l16 => castInt .i64 c15 fun n17 => uncons l16 fun c18 l19 => castInt .i64 c18 fun n20 => uncons l19 fun c21 l22 => isNil l22 <| (vidx 6 a2 n3).bind fun p23 => (rdc σ p23.1 p23.2 6).bind fun l24 => uncons l24 fun c25 l26 => castStr c25 fun s27 => uncons l26 fun c28 l29 => castBool c28 fun b30 => uncons l29 fun c31 l32 => uncons l32 fun c33 l34 => castInt .i64 c33 fun n35 => uncons l34 fun c36 l37 => castInt .i64 c36 fun n38 => uncons l37 fun c39 l40 => isNil l40 <| (hcall G k n_laws_eqCodeFun [.agg [.str s9, .bool b12, c13, .int .i64 n17, .int .i64 n20, c21], .agg [.str s27, .bool b30, c31, .int .i64 n35, .int .i64 n38, c39]] σ).bind fun q41 => castBool q41.1 fun b42 => bif !b42 then (some (.ret, [.v (.bool false)], q41.2)) else (laws_eqCodeFunS.L0 k m [.v a1, .v a2, .v (.int .i64 (IntKind.wrap .i64 (n3 + 1)))] q41.2)) else (some (.exit 0, [.bot], σ))) := by
  kernel_rfl
theorem laws_eqCodeFunS.A0_x0 (k : Nat) (t1 : T) (σ : Heap) : laws_eqCodeFunS.A0 k (.exit 0, [t1], σ) = (some (.bool true, σ)) := by
  kernel_rfl
theorem laws_eqCodeFunS.A0_ret (k : Nat) (b1 : Bool) (σ : Heap) : laws_eqCodeFunS.A0 k (.ret, [.v (.bool b1)], σ) = (some (.bool b1, σ)) := by
  kernel_rfl

/-! loop.example/smithy/laws.eqCodeObj: function 91 -/
theorem laws_eqCodeObj.eq (k : Nat) (a1 : V) (a2 : V) (a3 : V) (a4 : V) (σ : Heap) : hcall G (k + 1) n_laws_eqCodeObj [.agg [a1, a2], .agg [a3, a4]] σ = ((hcall G k n_laws_eqCodeRefS [a1, a3] σ).bind fun q5 => castBool q5.1 fun b6 => bif !b6 then (some (.bool false, q5.2)) else ((hcall G k n_laws_eqCodeFunS [a2, a4] q5.2).bind fun q7 => castBool q7.1 fun b8 => bif !b8 then (some (.bool false, q7.2)) else (some (.bool true, q7.2)))) := by
  kernel_rfl

/-! loop.example/smithy/laws.eqLinkPart: function 65 -/
theorem laws_eqLinkPart.eq (k : Nat) (s1 : ByteArray) (a2 : V) (a3 : V) (s4 : ByteArray) (a5 : V) (a6 : V) (σ : Heap) : hcall G (k + 1) n_laws_eqLinkPart [.agg [.str s1, a2, a3], .agg [.str s4, a5, a6]] σ = (bif !decide (s1 = s4) then (some (.bool false, σ)) else ((hcall G k n_laws_eqCodeObj [.agg [a2, a3], .agg [a5, a6]] σ).bind fun q7 => castBool q7.1 fun b8 => bif !b8 then (some (.bool false, q7.2)) else (some (.bool true, q7.2)))) := by
  kernel_rfl

/-! loop.example/smithy/laws.eqLinkPartS: function 27 -/
noncomputable def laws_eqLinkPartS.L0 (k : Nat) : Nat → List T → Heap → Option (Ex × List T × Heap) := hloop (hx (G.env n_laws_eqLinkPartS k) k 27 (subc (bodyOf Try.f27) [1, 1, 0, 1, 0, 0]) 0) 27 (G.msk n_laws_eqLinkPartS 0).1 (G.msk n_laws_eqLinkPartS 0).2
noncomputable def laws_eqLinkPartS.A0 (k : Nat) : Ex × List T × Heap → Option (V × Heap) := fun r => aft (G.env n_laws_eqLinkPartS k) k 27 (bodyOf Try.f27) [1, 1, 0, 1, 0] 0 (ck G.P Try.f27) r.1 (unpick 27 (G.msk n_laws_eqLinkPartS 0).2 r.2.1) r.2.2
theorem laws_eqLinkPartS.eq (k : Nat) (a1 : V) (a2 : V) (σ : Heap) : hcall G (k + 1) n_laws_eqLinkPartS [a1, a2] σ = ((vlen a1).bind fun k3 => (vlen a2).bind fun k4 => bif !decide ((k3 : Int) = (k4 : Int)) then (some (.bool false, σ)) else ((laws_eqLinkPartS.L0 k k [.v a1, .v a2, .v (.int .i64 0)] σ).bind (laws_eqLinkPartS.A0 k))) := by
  kernel_rfl
theorem laws_eqLinkPartS.L0_step (k m : Nat) (a1 : V) (a2 : V) (n3 : Int) (σ : Heap) : laws_eqLinkPartS.L0 k (m + 1) [.v a1, .v a2, .v (.int .i64 n3)] σ = ((vlen a1).bind fun k4 => bif decide (n3 < (k4 : Int)) then ((vidx 3 a1 n3).bind fun p5 => (rdc σ p5.1 p5.2 3).bind fun l6 => uncons l6 fun c7 l8 => castStr c7 fun s9 => uncons l8 fun c10 l11 => uncons l11 fun c12 l13 => isNil l13 <| (vidx 3 a2 n3).bind fun p14 => (rdc σ p14.1 p14.2 3).bind fun l15 => uncons l15 fun c16 l17 => castStr c16 fun s18 => uncons l17 fun c19 l20 => uncons l20 fun c21 l22 => isNil l22 <| (hcall G k n_laws_eqLinkPart [.agg [.str s9, c10, c12], .agg [.str s18, c19, c21]] σ).bind fun q23 => castBool q23.1 fun b24 => bif !b24 then (some (.ret, [.v (.bool false)], q23.2)) else (laws_eqLinkPartS.L0 k m [.v a1, .v a2, .v (.int .i64 (IntKind.wrap .i64 (n3 + 1)))] q23.2)) else (some (.exit 0, [.bot], σ))) := by
  kernel_rfl
theorem laws_eqLinkPartS.A0_x0 (k : Nat) (t1 : T) (σ : Heap) : laws_eqLinkPartS.A0 k (.exit 0, [t1], σ) = (some (.bool true, σ)) := by
  kernel_rfl
theorem laws_eqLinkPartS.A0_ret (k : Nat) (b1 : Bool) (σ : Heap) : laws_eqLinkPartS.A0 k (.ret, [.v (.bool b1)], σ) = (some (.bool b1, σ)) := by
  kernel_rfl

/-! slices.Index[[]string,string]: function 83 -/
noncomputable def slices_Index_string_string.L0 (k : Nat) : Nat → List T → Heap → Option (Ex × List T × Heap) := hloop (hx (G.env n_slices_Index_string_string k) k 19 (subc (bodyOf Try.f83) [1, 0, 1, 0, 0]) 0) 19 (G.msk n_slices_Index_string_string 0).1 (G.msk n_slices_Index_string_string 0).2
noncomputable def slices_Index_string_string.A0 (k : Nat) : Ex × List T × Heap → Option (V × Heap) := fun r => aft (G.env n_slices_Index_string_string k) k 19 (bodyOf Try.f83) [1, 0, 1, 0] 0 (ck G.P Try.f83) r.1 (unpick 19 (G.msk n_slices_Index_string_string 0).2 r.2.1) r.2.2
theorem slices_Index_string_string.eq (k : Nat) (a1 : V) (s2 : ByteArray) (σ : Heap) : hcall G (k + 1) n_slices_Index_string_string [a1, .str s2] σ = ((vlen a1).bind fun k3 => (slices_Index_string_string.L0 k k [.v a1, .v (.str s2), .v (.int .i64 (k3 : Int)), .v (.int .i64 0)] σ).bind (slices_Index_string_string.A0 k)) := by
  kernel_rfl
theorem slices_Index_string_string.L0_step (k m : Nat) (a1 : V) (s2 : ByteArray) (n3 : Int) (n4 : Int) (σ : Heap) : slices_Index_string_string.L0 k (m + 1) [.v a1, .v (.str s2), .v (.int .i64 n3), .v (.int .i64 n4)] σ = (bif decide (n4 < n3) then ((vidx 1 a1 n4).bind fun p5 => (rdc σ p5.1 p5.2 1).bind fun l6 => uncons l6 fun c7 l8 => castStr c7 fun s9 => isNil l8 <| bif decide (s2 = s9) then (some (.ret, [.v (.int .i64 n4)], σ)) else (slices_Index_string_string.L0 k m [.v a1, .v (.str s2), .v (.int .i64 n3), .v (.int .i64 (IntKind.wrap .i64 (n4 + 1)))] σ)) else (some (.exit 0, [.bot], σ))) := by
  kernel_rfl
theorem slices_Index_string_string.A0_x0 (k : Nat) (t1 : T) (σ : Heap) : slices_Index_string_string.A0 k (.exit 0, [t1], σ) = (some (.int .i64 (-1), σ)) := by
  kernel_rfl
theorem slices_Index_string_string.A0_ret (k : Nat) (n1 : Int) (σ : Heap) : slices_Index_string_string.A0 k (.ret, [.v (.int .i64 n1)], σ) = (some (.int .i64 n1, σ)) := by
  kernel_rfl

/-! slices.Contains[[]string,string]: function 52 -/
theorem slices_Contains_string_string.eq (k : Nat) (a1 : V) (s2 : ByteArray) (σ : Heap) : hcall G (k + 1) n_slices_Contains_string_string [a1, .str s2] σ = ((hcall G k n_slices_Index_string_string [a1, .str s2] σ).bind fun q3 => castInt .i64 q3.1 fun n4 => some (.bool (decide (0 ≤ n4)), q3.2)) := by
  kernel_rfl

/-! loop.example/smithy/spec.l1Kept: function 111 -/
noncomputable def spec_l1Kept.L0 (k : Nat) : Nat → List T → Heap → Option (Ex × List T × Heap) := hloop (hx (G.env n_spec_l1Kept k) k 18 (subc (bodyOf Try.f111) [1, 1, 0, 1, 0, 0]) 0) 18 (G.msk n_spec_l1Kept 0).1 (G.msk n_spec_l1Kept 0).2
noncomputable def spec_l1Kept.A0 (k : Nat) : Ex × List T × Heap → Option (V × Heap) := fun r => aft (G.env n_spec_l1Kept k) k 18 (bodyOf Try.f111) [1, 1, 0, 1, 0] 0 (ck G.P Try.f111) r.1 (unpick 18 (G.msk n_spec_l1Kept 0).2 r.2.1) r.2.2
theorem spec_l1Kept.eq (k : Nat) (s1 : ByteArray) (σ : Heap) : hcall G (k + 1) n_spec_l1Kept [.str s1] σ = ((spec_l1Kept.L0 k k [.v (.str s1), .v (.sl σ.length 0 19 true), .v (.int .i64 0)] (hnew σ 1 [.str (⟨#[117, 115, 101]⟩ : ByteArray), .str (⟨#[102, 117, 110]⟩ : ByteArray), .str (⟨#[112, 117, 98]⟩ : ByteArray), .str (⟨#[109, 97, 105, 110]⟩ : ByteArray), .str (⟨#[105, 110, 116]⟩ : ByteArray), .str (⟨#[98, 111, 111, 108]⟩ : ByteArray), .str (⟨#[114, 111, 119]⟩ : ByteArray), .str (⟨#[105, 102]⟩ : ByteArray), .str (⟨#[108, 101, 116]⟩ : ByteArray), .str (⟨#[116, 114, 117, 101]⟩ : ByteArray), .str (⟨#[102, 97, 108, 115, 101]⟩ : ByteArray), .str (⟨#[97, 110, 100]⟩ : ByteArray), .str (⟨#[111, 114]⟩ : ByteArray), .str (⟨#[110, 111, 116]⟩ : ByteArray), .str (⟨#[97, 116]⟩ : ByteArray), .str (⟨#[108, 101, 110]⟩ : ByteArray), .str (⟨#[112, 117, 116]⟩ : ByteArray), .str (⟨#[106, 111, 105, 110]⟩ : ByteArray), .str (⟨#[112, 114, 105, 110, 116]⟩ : ByteArray)])).bind (spec_l1Kept.A0 k)) := by
  kernel_rfl
theorem spec_l1Kept.L0_step (k m : Nat) (s1 : ByteArray) (a2 : V) (n3 : Int) (σ : Heap) : spec_l1Kept.L0 k (m + 1) [.v (.str s1), .v a2, .v (.int .i64 n3)] σ = ((vlen a2).bind fun k4 => bif decide (n3 < (k4 : Int)) then ((vidx 1 a2 n3).bind fun p5 => (rdc σ p5.1 p5.2 1).bind fun l6 => uncons l6 fun c7 l8 => castStr c7 fun s9 => isNil l8 <| bif decide (s9 = s1) then (some (.ret, [.v (.bool true)], σ)) else (spec_l1Kept.L0 k m [.v (.str s1), .v a2, .v (.int .i64 (IntKind.wrap .i64 (n3 + 1)))] σ)) else (some (.exit 0, [.bot], σ))) := by
  kernel_rfl
theorem spec_l1Kept.A0_x0 (k : Nat) (t1 : T) (σ : Heap) : spec_l1Kept.A0 k (.exit 0, [t1], σ) = (some (.bool false, σ)) := by
  kernel_rfl
theorem spec_l1Kept.A0_ret (k : Nat) (b1 : Bool) (σ : Heap) : spec_l1Kept.A0 k (.ret, [.v (.bool b1)], σ) = (some (.bool b1, σ)) := by
  kernel_rfl

/-! loop.example/smithy/spec.LexName: function 96 -/
noncomputable def spec_LexName.L0 (k : Nat) : Nat → List T → Heap → Option (Ex × List T × Heap) := hloop (hx (G.env n_spec_LexName k) k 32 (subc (bodyOf Try.f96) [1, 1, 0, 1, 0, 0]) 0) 32 (G.msk n_spec_LexName 0).1 (G.msk n_spec_LexName 0).2
noncomputable def spec_LexName.A0 (k : Nat) : Ex × List T × Heap → Option (V × Heap) := fun r => aft (G.env n_spec_LexName k) k 32 (bodyOf Try.f96) [1, 1, 0, 1, 0] 0 (ck G.P Try.f96) r.1 (unpick 32 (G.msk n_spec_LexName 0).2 r.2.1) r.2.2
theorem spec_LexName.eq (k : Nat) (s1 : ByteArray) (σ : Heap) : hcall G (k + 1) n_spec_LexName [.str s1] σ = (bif decide ((s1.size : Int) < 1) then (some (.bool false, σ)) else (bif decide (8 < (s1.size : Int)) then (some (.bool false, σ)) else ((hcall G k n_spec_l1Kept [.str s1] σ).bind fun q2 => castBool q2.1 fun b3 => bif b3 then (some (.bool false, q2.2)) else ((spec_LexName.L0 k k [.v (.str s1), .v (.int .i64 0)] q2.2).bind (spec_LexName.A0 k))))) := by
  kernel_rfl
theorem spec_LexName.L0_step (k m : Nat) (s1 : ByteArray) (n2 : Int) (σ : Heap) : spec_LexName.L0 k (m + 1) [.v (.str s1), .v (.int .i64 n2)] σ = (bif decide (n2 < (s1.size : Int)) then ((sbyte s1 n2).bind fun n3 => bif decide (n3 < 97) then (some (.ret, [.v (.bool false)], σ)) else ((sbyte s1 n2).bind fun n4 => bif decide (122 < n4) then (some (.ret, [.v (.bool false)], σ)) else (spec_LexName.L0 k m [.v (.str s1), .v (.int .i64 (IntKind.wrap .i64 (n2 + 1)))] σ))) else (some (.exit 0, [.bot], σ))) := by
  kernel_rfl
theorem spec_LexName.A0_x0 (k : Nat) (t1 : T) (σ : Heap) : spec_LexName.A0 k (.exit 0, [t1], σ) = (some (.bool true, σ)) := by
  kernel_rfl
theorem spec_LexName.A0_ret (k : Nat) (b1 : Bool) (σ : Heap) : spec_LexName.A0 k (.ret, [.v (.bool b1)], σ) = (some (.bool b1, σ)) := by
  kernel_rfl

/-! loop.example/smithy/impl.isOwn: function 117 -/
theorem impl_isOwn.eq (k : Nat) (s1 : ByteArray) (σ : Heap) : hcall G (k + 1) n_impl_isOwn [.str s1] σ = ((hcall G k n_slices_Contains_string_string [(.sl σ.length 0 19 true), .str s1] (hnew σ 1 [.str (⟨#[117, 115, 101]⟩ : ByteArray), .str (⟨#[102, 117, 110]⟩ : ByteArray), .str (⟨#[112, 117, 98]⟩ : ByteArray), .str (⟨#[109, 97, 105, 110]⟩ : ByteArray), .str (⟨#[105, 110, 116]⟩ : ByteArray), .str (⟨#[98, 111, 111, 108]⟩ : ByteArray), .str (⟨#[114, 111, 119]⟩ : ByteArray), .str (⟨#[105, 102]⟩ : ByteArray), .str (⟨#[108, 101, 116]⟩ : ByteArray), .str (⟨#[116, 114, 117, 101]⟩ : ByteArray), .str (⟨#[102, 97, 108, 115, 101]⟩ : ByteArray), .str (⟨#[97, 110, 100]⟩ : ByteArray), .str (⟨#[111, 114]⟩ : ByteArray), .str (⟨#[110, 111, 116]⟩ : ByteArray), .str (⟨#[97, 116]⟩ : ByteArray), .str (⟨#[108, 101, 110]⟩ : ByteArray), .str (⟨#[112, 117, 116]⟩ : ByteArray), .str (⟨#[106, 111, 105, 110]⟩ : ByteArray), .str (⟨#[112, 114, 105, 110, 116]⟩ : ByteArray)])).bind fun q2 => castBool q2.1 fun b3 => some (.bool b3, q2.2)) := by
  kernel_rfl

/-! loop.example/smithy/impl.LexName: function 98 -/
noncomputable def impl_LexName.L0 (k : Nat) : Nat → List T → Heap → Option (Ex × List T × Heap) := hloop (hx (G.env n_impl_LexName k) k 28 (subc (bodyOf Try.f98) [1, 0, 1, 0, 0]) 0) 28 (G.msk n_impl_LexName 0).1 (G.msk n_impl_LexName 0).2
noncomputable def impl_LexName.A0 (k : Nat) : Ex × List T × Heap → Option (V × Heap) := fun r => aft (G.env n_impl_LexName k) k 28 (bodyOf Try.f98) [1, 0, 1, 0] 0 (ck G.P Try.f98) r.1 (unpick 28 (G.msk n_impl_LexName 0).2 r.2.1) r.2.2
theorem impl_LexName.eq (k : Nat) (s1 : ByteArray) (σ : Heap) : hcall G (k + 1) n_impl_LexName [.str s1] σ = ((impl_LexName.L0 k k [.v (.str s1), .v (.int .i64 (s1.size : Int)), .v (.int .i64 0)] σ).bind (impl_LexName.A0 k)) := by
  kernel_rfl
theorem impl_LexName.L0_step (k m : Nat) (s1 : ByteArray) (n2 : Int) (n3 : Int) (σ : Heap) : impl_LexName.L0 k (m + 1) [.v (.str s1), .v (.int .i64 n2), .v (.int .i64 n3)] σ = (bif decide (n3 < n2) then ((sbyte s1 n3).bind fun n4 => bif decide (n4 < 97) then (some (.ret, [.v (.str s1), .v (.bool false)], σ)) else ((sbyte s1 n3).bind fun n5 => bif decide (122 < n5) then (some (.ret, [.v (.str s1), .v (.bool false)], σ)) else (impl_LexName.L0 k m [.v (.str s1), .v (.int .i64 n2), .v (.int .i64 (IntKind.wrap .i64 (n3 + 1)))] σ))) else (some (.exit 0, [.v (.str s1), .bot], σ))) := by
  kernel_rfl
theorem impl_LexName.A0_x0 (k : Nat) (s1 : ByteArray) (t2 : T) (σ : Heap) : impl_LexName.A0 k (.exit 0, [.v (.str s1), t2], σ) = ((hcall G k n_impl_inRange [.int .i64 (s1.size : Int), .int .i64 1, .int .i64 8] σ).bind fun q3 => castBool q3.1 fun b4 => bif b4 then ((hcall G k n_impl_isOwn [.str s1] q3.2).bind fun q5 => castBool q5.1 fun b6 => some (.bool (!b6), q5.2)) else (some (.bool false, q3.2))) := by
  kernel_rfl
theorem impl_LexName.A0_ret (k : Nat) (t1 : T) (b2 : Bool) (σ : Heap) : impl_LexName.A0 k (.ret, [t1, .v (.bool b2)], σ) = (some (.bool b2, σ)) := by
  kernel_rfl
end Go.A
