/- The functions' equations. -/
import Derived.Test.YtjadancpencnnaaEG
namespace Go.A
open Go.HM Go.Proofs
set_option linter.unusedVariables false
set_option maxRecDepth 1000000
set_option maxHeartbeats 4000000

/-! loop.example/smithy/laws.szCodeRef: function 119 -/
theorem laws_szCodeRef.eq (k : Nat) (s1 : ByteArray) (s2 : ByteArray) (n3 : Int) (σ : Heap) : hcall G (k + 1) n_laws_szCodeRef [.agg [.str s1, .str s2], .int .i64 n3] σ = (bif decide (IntKind.wrap .i64 (n3 - (s1.size : Int)) < 0) then (some (.int .i64 (-1), σ)) else (bif decide (IntKind.wrap .i64 ((IntKind.wrap .i64 (n3 - (s1.size : Int))) - (s2.size : Int)) < 0) then (some (.int .i64 (-1), σ)) else (some (.int .i64 (IntKind.wrap .i64 ((IntKind.wrap .i64 (n3 - (s1.size : Int))) - (s2.size : Int))), σ)))) := by
  kernel_rfl

/-! loop.example/smithy/laws.szCodeRefS: function 102 -/
noncomputable def laws_szCodeRefS.L0 (k : Nat) : Nat → List T → Heap → Option (Ex × List T × Heap) := hloop (hx (G.env n_laws_szCodeRefS k) k 27 (subc (bodyOf Try.f102) [1, 1, 1, 0, 1, 0, 0]) 0) 27 (G.msk n_laws_szCodeRefS 0).1 (G.msk n_laws_szCodeRefS 0).2
noncomputable def laws_szCodeRefS.A0 (k : Nat) : Ex × List T × Heap → Option (V × Heap) := fun r => aft (G.env n_laws_szCodeRefS k) k 27 (bodyOf Try.f102) [1, 1, 1, 0, 1, 0] 0 (ck G.P Try.f102) r.1 (unpick 27 (G.msk n_laws_szCodeRefS 0).2 r.2.1) r.2.2
theorem laws_szCodeRefS.eq (k : Nat) (a1 : V) (n2 : Int) (σ : Heap) : hcall G (k + 1) n_laws_szCodeRefS [a1, .int .i64 n2] σ = ((vlen a1).bind fun k3 => bif decide (IntKind.wrap .i64 (n2 - (k3 : Int)) < 0) then (some (.int .i64 (-1), σ)) else ((laws_szCodeRefS.L0 k k [.v a1, .v (.int .i64 (IntKind.wrap .i64 (n2 - (k3 : Int)))), .v (.int .i64 0)] σ).bind (laws_szCodeRefS.A0 k))) := by
  kernel_rfl
theorem laws_szCodeRefS.L0_step (k m : Nat) (a1 : V) (n2 : Int) (n3 : Int) (σ : Heap) : laws_szCodeRefS.L0 k (m + 1) [.v a1, .v (.int .i64 n2), .v (.int .i64 n3)] σ = ((vlen a1).bind fun k4 => bif decide (n3 < (k4 : Int)) then ((vidx 2 a1 n3).bind fun p5 => (rdc σ p5.1 p5.2 2).bind fun l6 => uncons l6 fun c7 l8 => castStr c7 fun s9 => uncons l8 fun c10 l11 => castStr c10 fun s12 => isNil l11 <| (hcall G k n_laws_szCodeRef [.agg [.str s9, .str s12], .int .i64 n2] σ).bind fun q13 => castInt .i64 q13.1 fun n14 => bif decide (n14 < 0) then (some (.ret, [.v (.int .i64 n14), .v (.int .i64 (-1))], q13.2)) else (laws_szCodeRefS.L0 k m [.v a1, .v (.int .i64 n14), .v (.int .i64 (IntKind.wrap .i64 (n3 + 1)))] q13.2)) else (some (.exit 0, [.v (.int .i64 n2), .bot], σ))) := by
  kernel_rfl
theorem laws_szCodeRefS.A0_x0 (k : Nat) (n1 : Int) (t2 : T) (σ : Heap) : laws_szCodeRefS.A0 k (.exit 0, [.v (.int .i64 n1), t2], σ) = (some (.int .i64 n1, σ)) := by
  kernel_rfl
theorem laws_szCodeRefS.A0_ret (k : Nat) (t1 : T) (n2 : Int) (σ : Heap) : laws_szCodeRefS.A0 k (.ret, [t1, .v (.int .i64 n2)], σ) = (some (.int .i64 n2, σ)) := by
  kernel_rfl

/-! loop.example/smithy/laws.szIntS: function 143 -/
theorem laws_szIntS.eq (k : Nat) (a1 : V) (n2 : Int) (σ : Heap) : hcall G (k + 1) n_laws_szIntS [a1, .int .i64 n2] σ = ((vlen a1).bind fun k3 => bif decide (IntKind.wrap .i64 (n2 - (k3 : Int)) < 0) then (some (.int .i64 (-1), σ)) else (some (.int .i64 (IntKind.wrap .i64 (n2 - (k3 : Int))), σ))) := by
  kernel_rfl

/-! loop.example/smithy/laws.szCodeInsS: function 144 -/
theorem laws_szCodeInsS.eq (k : Nat) (a1 : V) (n2 : Int) (σ : Heap) : hcall G (k + 1) n_laws_szCodeInsS [a1, .int .i64 n2] σ = ((vlen a1).bind fun k3 => bif decide (IntKind.wrap .i64 (n2 - (k3 : Int)) < 0) then (some (.int .i64 (-1), σ)) else (some (.int .i64 (IntKind.wrap .i64 (n2 - (k3 : Int))), σ))) := by
  kernel_rfl

/-! loop.example/smithy/laws.szCodeFun: function 120 -/
theorem laws_szCodeFun.eq (k : Nat) (s1 : ByteArray) (b2 : Bool) (a3 : V) (n4 : Int) (n5 : Int) (a6 : V) (n7 : Int) (σ : Heap) : hcall G (k + 1) n_laws_szCodeFun [.agg [.str s1, .bool b2, a3, .int .i64 n4, .int .i64 n5, a6], .int .i64 n7] σ = (bif decide (IntKind.wrap .i64 (n7 - (s1.size : Int)) < 0) then (some (.int .i64 (-1), σ)) else ((hcall G k n_laws_szIntS [a3, .int .i64 (IntKind.wrap .i64 (n7 - (s1.size : Int)))] σ).bind fun q8 => castInt .i64 q8.1 fun n9 => bif decide (n9 < 0) then (some (.int .i64 (-1), q8.2)) else ((hcall G k n_laws_szCodeInsS [a6, .int .i64 n9] q8.2).bind fun q10 => castInt .i64 q10.1 fun n11 => bif decide (n11 < 0) then (some (.int .i64 (-1), q10.2)) else (some (.int .i64 n11, q10.2))))) := by
  kernel_rfl

/-! loop.example/smithy/laws.szCodeFunS: function 103 -/
noncomputable def laws_szCodeFunS.L0 (k : Nat) : Nat → List T → Heap → Option (Ex × List T × Heap) := hloop (hx (G.env n_laws_szCodeFunS k) k 27 (subc (bodyOf Try.f103) [1, 1, 1, 0, 1, 0, 0]) 0) 27 (G.msk n_laws_szCodeFunS 0).1 (G.msk n_laws_szCodeFunS 0).2
noncomputable def laws_szCodeFunS.A0 (k : Nat) : Ex × List T × Heap → Option (V × Heap) := fun r => aft (G.env n_laws_szCodeFunS k) k 27 (bodyOf Try.f103) [1, 1, 1, 0, 1, 0] 0 (ck G.P Try.f103) r.1 (unpick 27 (G.msk n_laws_szCodeFunS 0).2 r.2.1) r.2.2
theorem laws_szCodeFunS.eq (k : Nat) (a1 : V) (n2 : Int) (σ : Heap) : hcall G (k + 1) n_laws_szCodeFunS [a1, .int .i64 n2] σ = ((vlen a1).bind fun k3 => bif decide (IntKind.wrap .i64 (n2 - (k3 : Int)) < 0) then (some (.int .i64 (-1), σ)) else ((laws_szCodeFunS.L0 k k [.v a1, .v (.int .i64 (IntKind.wrap .i64 (n2 - (k3 : Int)))), .v (.int .i64 0)] σ).bind (laws_szCodeFunS.A0 k))) := by
  kernel_rfl
theorem laws_szCodeFunS.L0_step (k m : Nat) (a1 : V) (n2 : Int) (n3 : Int) (σ : Heap) : laws_szCodeFunS.L0 k (m + 1) [.v a1, .v (.int .i64 n2), .v (.int .i64 n3)] σ = ((vlen a1).bind fun k4 => bif decide (n3 < (k4 : Int)) then ((vidx 6 a1 n3).bind fun p5 => (rdc σ p5.1 p5.2 6).bind fun l6 => uncons l6 fun c7 l8 => castStr c7 fun s9 => uncons l8 fun c10 l11 => castBool c10 fun b12 => uncons l11 fun c13 l14 => uncons l14 fun c15 l16 => castInt .i64 c15 fun n17 => uncons l16 fun c18 l19 => castInt .i64 c18 fun n20 => uncons l19 fun c21 l22 => isNil l22 <| (hcall G k n_laws_szCodeFun [.agg [.str s9, .bool b12, c13, .int .i64 n17, .int .i64 n20, c21], .int .i64 n2] σ).bind fun q23 => castInt .i64 q23.1 fun n24 => bif decide (n24 < 0) then (some (.ret, [.v (.int .i64 n24), .v (.int .i64 (-1))], q23.2)) else (laws_szCodeFunS.L0 k m [.v a1, .v (.int .i64 n24), .v (.int .i64 (IntKind.wrap .i64 (n3 + 1)))] q23.2)) else (some (.exit 0, [.v (.int .i64 n2), .bot], σ))) := by
  kernel_rfl
theorem laws_szCodeFunS.A0_x0 (k : Nat) (n1 : Int) (t2 : T) (σ : Heap) : laws_szCodeFunS.A0 k (.exit 0, [.v (.int .i64 n1), t2], σ) = (some (.int .i64 n1, σ)) := by
  kernel_rfl
theorem laws_szCodeFunS.A0_ret (k : Nat) (t1 : T) (n2 : Int) (σ : Heap) : laws_szCodeFunS.A0 k (.ret, [t1, .v (.int .i64 n2)], σ) = (some (.int .i64 n2, σ)) := by
  kernel_rfl

/-! loop.example/smithy/laws.szCodeObj: function 85 -/
theorem laws_szCodeObj.eq (k : Nat) (a1 : V) (a2 : V) (n3 : Int) (σ : Heap) : hcall G (k + 1) n_laws_szCodeObj [.agg [a1, a2], .int .i64 n3] σ = ((hcall G k n_laws_szCodeRefS [a1, .int .i64 n3] σ).bind fun q4 => castInt .i64 q4.1 fun n5 => bif decide (n5 < 0) then (some (.int .i64 (-1), q4.2)) else ((hcall G k n_laws_szCodeFunS [a2, .int .i64 n5] q4.2).bind fun q6 => castInt .i64 q6.1 fun n7 => bif decide (n7 < 0) then (some (.int .i64 (-1), q6.2)) else (some (.int .i64 n7, q6.2)))) := by
  kernel_rfl

/-! loop.example/smithy/laws.szLinkPart: function 57 -/
theorem laws_szLinkPart.eq (k : Nat) (s1 : ByteArray) (a2 : V) (a3 : V) (n4 : Int) (σ : Heap) : hcall G (k + 1) n_laws_szLinkPart [.agg [.str s1, a2, a3], .int .i64 n4] σ = (bif decide (IntKind.wrap .i64 (n4 - (s1.size : Int)) < 0) then (some (.int .i64 (-1), σ)) else ((hcall G k n_laws_szCodeObj [.agg [a2, a3], .int .i64 (IntKind.wrap .i64 (n4 - (s1.size : Int)))] σ).bind fun q5 => castInt .i64 q5.1 fun n6 => bif decide (n6 < 0) then (some (.int .i64 (-1), q5.2)) else (some (.int .i64 n6, q5.2)))) := by
  kernel_rfl

/-! loop.example/smithy/laws.szLinkPartS: function 23 -/
noncomputable def laws_szLinkPartS.L0 (k : Nat) : Nat → List T → Heap → Option (Ex × List T × Heap) := hloop (hx (G.env n_laws_szLinkPartS k) k 27 (subc (bodyOf Try.f23) [1, 1, 1, 0, 1, 0, 0]) 0) 27 (G.msk n_laws_szLinkPartS 0).1 (G.msk n_laws_szLinkPartS 0).2
noncomputable def laws_szLinkPartS.A0 (k : Nat) : Ex × List T × Heap → Option (V × Heap) := fun r => aft (G.env n_laws_szLinkPartS k) k 27 (bodyOf Try.f23) [1, 1, 1, 0, 1, 0] 0 (ck G.P Try.f23) r.1 (unpick 27 (G.msk n_laws_szLinkPartS 0).2 r.2.1) r.2.2
theorem laws_szLinkPartS.eq (k : Nat) (a1 : V) (n2 : Int) (σ : Heap) : hcall G (k + 1) n_laws_szLinkPartS [a1, .int .i64 n2] σ = ((vlen a1).bind fun k3 => bif decide (IntKind.wrap .i64 (n2 - (k3 : Int)) < 0) then (some (.int .i64 (-1), σ)) else ((laws_szLinkPartS.L0 k k [.v a1, .v (.int .i64 (IntKind.wrap .i64 (n2 - (k3 : Int)))), .v (.int .i64 0)] σ).bind (laws_szLinkPartS.A0 k))) := by
  kernel_rfl
theorem laws_szLinkPartS.L0_step (k m : Nat) (a1 : V) (n2 : Int) (n3 : Int) (σ : Heap) : laws_szLinkPartS.L0 k (m + 1) [.v a1, .v (.int .i64 n2), .v (.int .i64 n3)] σ = ((vlen a1).bind fun k4 => bif decide (n3 < (k4 : Int)) then ((vidx 3 a1 n3).bind fun p5 => (rdc σ p5.1 p5.2 3).bind fun l6 => uncons l6 fun c7 l8 => castStr c7 fun s9 => uncons l8 fun c10 l11 => uncons l11 fun c12 l13 => isNil l13 <| (hcall G k n_laws_szLinkPart [.agg [.str s9, c10, c12], .int .i64 n2] σ).bind fun q14 => castInt .i64 q14.1 fun n15 => bif decide (n15 < 0) then (some (.ret, [.v (.int .i64 n15), .v (.int .i64 (-1))], q14.2)) else (laws_szLinkPartS.L0 k m [.v a1, .v (.int .i64 n15), .v (.int .i64 (IntKind.wrap .i64 (n3 + 1)))] q14.2)) else (some (.exit 0, [.v (.int .i64 n2), .bot], σ))) := by
  kernel_rfl
theorem laws_szLinkPartS.A0_x0 (k : Nat) (n1 : Int) (t2 : T) (σ : Heap) : laws_szLinkPartS.A0 k (.exit 0, [.v (.int .i64 n1), t2], σ) = (some (.int .i64 n1, σ)) := by
  kernel_rfl
theorem laws_szLinkPartS.A0_ret (k : Nat) (t1 : T) (n2 : Int) (σ : Heap) : laws_szLinkPartS.A0 k (.ret, [t1, .v (.int .i64 n2)], σ) = (some (.int .i64 n2, σ)) := by
  kernel_rfl

/-! loop.example/smithy/laws.toCodeRef: function 121 -/
theorem laws_toCodeRef.eq (k : Nat) (s1 : ByteArray) (s2 : ByteArray) (σ : Heap) : hcall G (k + 1) n_laws_toCodeRef [.agg [.str s1, .str s2]] σ = (some (.agg [.str s1, .str s2], σ)) := by
  kernel_rfl

/-! loop.example/smithy/laws.toCodeRefS: function 104 -/
noncomputable def laws_toCodeRefS.L0 (k : Nat) : Nat → List T → Heap → Option (Ex × List T × Heap) := hloop (hx (G.env n_laws_toCodeRefS k) k 23 (subc (bodyOf Try.f104) [1, 1, 0, 1, 0, 0]) 0) 23 (G.msk n_laws_toCodeRefS 0).1 (G.msk n_laws_toCodeRefS 0).2
noncomputable def laws_toCodeRefS.A0 (k : Nat) : Ex × List T × Heap → Option (V × Heap) := fun r => aft (G.env n_laws_toCodeRefS k) k 23 (bodyOf Try.f104) [1, 1, 0, 1, 0] 0 (ck G.P Try.f104) r.1 (unpick 23 (G.msk n_laws_toCodeRefS 0).2 r.2.1) r.2.2
theorem laws_toCodeRefS.eq (k : Nat) (a1 : V) (σ : Heap) : hcall G (k + 1) n_laws_toCodeRefS [a1] σ = ((vlen a1).bind fun k2 => if 0 ≤ (k2 : Int) ∧ (k2 : Int) * 32 ≤ 2 ^ 46 ∧ (k2 : Int) ≤ 2 ^ 46 then ((laws_toCodeRefS.L0 k k [.v a1, .v (.sl σ.length 0 ((k2 : Int) : Int).toNat true), .v (.int .i64 0)] (hnew σ 2 (List.replicate ((k2 : Int) : Int).toNat [.str (⟨#[]⟩ : ByteArray), .str (⟨#[]⟩ : ByteArray)]).flatten)).bind (laws_toCodeRefS.A0 k)) else none) := by
  kernel_rfl
theorem laws_toCodeRefS.L0_step (k m : Nat) (a1 : V) (a2 : V) (n3 : Int) (σ : Heap) : laws_toCodeRefS.L0 k (m + 1) [.v a1, .v a2, .v (.int .i64 n3)] σ = ((vlen a1).bind fun k4 => bif decide (n3 < (k4 : Int)) then ((vidx 2 a1 n3).bind fun p5 => (rdc σ p5.1 p5.2 2).bind fun l6 => uncons l6 fun c7 l8 => castStr c7 fun s9 => uncons l8 fun c10 l11 => castStr c10 fun s12 => isNil l11 <| (hcall G k n_laws_toCodeRef [.agg [.str s9, .str s12]] σ).bind fun q13 => castAgg q13.1 fun l14 => uncons l14 fun c15 l16 => castStr c15 fun s17 => uncons l16 fun c18 l19 => castStr c18 fun s20 => isNil l19 <| (vidx 2 a2 n3).bind fun p21 => (wrc q13.2 p21.1 p21.2 [.str s17, .str s20]).bind fun h22 => laws_toCodeRefS.L0 k m [.v a1, .v a2, .v (.int .i64 (IntKind.wrap .i64 (n3 + 1)))] h22) else (some (.exit 0, [.bot, .v a2], σ))) := by
  kernel_rfl
theorem laws_toCodeRefS.A0_x0 (k : Nat) (t1 : T) (a2 : V) (σ : Heap) : laws_toCodeRefS.A0 k (.exit 0, [t1, .v a2], σ) = (some (a2, σ)) := by
  kernel_rfl

/-! loop.example/smithy/laws.toIntS: function 145 -/
noncomputable def laws_toIntS.L0 (k : Nat) : Nat → List T → Heap → Option (Ex × List T × Heap) := hloop (hx (G.env n_laws_toIntS k) k 22 (subc (bodyOf Try.f145) [1, 1, 0, 1, 0, 0]) 0) 22 (G.msk n_laws_toIntS 0).1 (G.msk n_laws_toIntS 0).2
noncomputable def laws_toIntS.A0 (k : Nat) : Ex × List T × Heap → Option (V × Heap) := fun r => aft (G.env n_laws_toIntS k) k 22 (bodyOf Try.f145) [1, 1, 0, 1, 0] 0 (ck G.P Try.f145) r.1 (unpick 22 (G.msk n_laws_toIntS 0).2 r.2.1) r.2.2
theorem laws_toIntS.eq (k : Nat) (a1 : V) (σ : Heap) : hcall G (k + 1) n_laws_toIntS [a1] σ = ((vlen a1).bind fun k2 => if 0 ≤ (k2 : Int) ∧ (k2 : Int) * 8 ≤ 2 ^ 46 ∧ (k2 : Int) ≤ 2 ^ 46 then ((laws_toIntS.L0 k k [.v a1, .v (.sl σ.length 0 ((k2 : Int) : Int).toNat true), .v (.int .i64 0)] (hnew σ 1 (List.replicate ((k2 : Int) : Int).toNat [.int .i64 0]).flatten)).bind (laws_toIntS.A0 k)) else none) := by
  kernel_rfl
theorem laws_toIntS.L0_step (k m : Nat) (a1 : V) (a2 : V) (n3 : Int) (σ : Heap) : laws_toIntS.L0 k (m + 1) [.v a1, .v a2, .v (.int .i64 n3)] σ = ((vlen a1).bind fun k4 => bif decide (n3 < (k4 : Int)) then ((vidx 1 a1 n3).bind fun p5 => (rdc σ p5.1 p5.2 1).bind fun l6 => uncons l6 fun c7 l8 => castInt .i64 c7 fun n9 => isNil l8 <| (vidx 1 a2 n3).bind fun p10 => (wrc σ p10.1 p10.2 [.int .i64 n9]).bind fun h11 => laws_toIntS.L0 k m [.v a1, .v a2, .v (.int .i64 (IntKind.wrap .i64 (n3 + 1)))] h11) else (some (.exit 0, [.bot, .v a2], σ))) := by
  kernel_rfl
theorem laws_toIntS.A0_x0 (k : Nat) (t1 : T) (a2 : V) (σ : Heap) : laws_toIntS.A0 k (.exit 0, [t1, .v a2], σ) = (some (a2, σ)) := by
  kernel_rfl

/-! loop.example/smithy/laws.toCodeIns: function 157 -/
theorem laws_toCodeIns.eq (k : Nat) (n1 : Int) (n2 : Int) (σ : Heap) : hcall G (k + 1) n_laws_toCodeIns [.agg [.int .i64 n1, .int .i64 n2]] σ = (some (.agg [.int .i64 n1, .int .i64 n2], σ)) := by
  kernel_rfl

/-! loop.example/smithy/laws.toCodeInsS: function 146 -/
noncomputable def laws_toCodeInsS.L0 (k : Nat) : Nat → List T → Heap → Option (Ex × List T × Heap) := hloop (hx (G.env n_laws_toCodeInsS k) k 23 (subc (bodyOf Try.f146) [1, 1, 0, 1, 0, 0]) 0) 23 (G.msk n_laws_toCodeInsS 0).1 (G.msk n_laws_toCodeInsS 0).2
noncomputable def laws_toCodeInsS.A0 (k : Nat) : Ex × List T × Heap → Option (V × Heap) := fun r => aft (G.env n_laws_toCodeInsS k) k 23 (bodyOf Try.f146) [1, 1, 0, 1, 0] 0 (ck G.P Try.f146) r.1 (unpick 23 (G.msk n_laws_toCodeInsS 0).2 r.2.1) r.2.2
theorem laws_toCodeInsS.eq (k : Nat) (a1 : V) (σ : Heap) : hcall G (k + 1) n_laws_toCodeInsS [a1] σ = ((vlen a1).bind fun k2 => if 0 ≤ (k2 : Int) ∧ (k2 : Int) * 16 ≤ 2 ^ 46 ∧ (k2 : Int) ≤ 2 ^ 46 then ((laws_toCodeInsS.L0 k k [.v a1, .v (.sl σ.length 0 ((k2 : Int) : Int).toNat true), .v (.int .i64 0)] (hnew σ 2 (List.replicate ((k2 : Int) : Int).toNat [.int .i64 0, .int .i64 0]).flatten)).bind (laws_toCodeInsS.A0 k)) else none) := by
  kernel_rfl
theorem laws_toCodeInsS.L0_step (k m : Nat) (a1 : V) (a2 : V) (n3 : Int) (σ : Heap) : laws_toCodeInsS.L0 k (m + 1) [.v a1, .v a2, .v (.int .i64 n3)] σ = ((vlen a1).bind fun k4 => bif decide (n3 < (k4 : Int)) then ((vidx 2 a1 n3).bind fun p5 => (rdc σ p5.1 p5.2 2).bind fun l6 => uncons l6 fun c7 l8 => castInt .i64 c7 fun n9 => uncons l8 fun c10 l11 => castInt .i64 c10 fun n12 => isNil l11 <| (hcall G k n_laws_toCodeIns [.agg [.int .i64 n9, .int .i64 n12]] σ).bind fun q13 => castAgg q13.1 fun l14 => uncons l14 fun c15 l16 => castInt .i64 c15 fun n17 => uncons l16 fun c18 l19 => castInt .i64 c18 fun n20 => isNil l19 <| (vidx 2 a2 n3).bind fun p21 => (wrc q13.2 p21.1 p21.2 [.int .i64 n17, .int .i64 n20]).bind fun h22 => laws_toCodeInsS.L0 k m [.v a1, .v a2, .v (.int .i64 (IntKind.wrap .i64 (n3 + 1)))] h22) else (some (.exit 0, [.bot, .v a2], σ))) := by
  kernel_rfl
theorem laws_toCodeInsS.A0_x0 (k : Nat) (t1 : T) (a2 : V) (σ : Heap) : laws_toCodeInsS.A0 k (.exit 0, [t1, .v a2], σ) = (some (a2, σ)) := by
  kernel_rfl

/-! loop.example/smithy/laws.toCodeFun: function 122 -/
theorem laws_toCodeFun.eq (k : Nat) (s1 : ByteArray) (b2 : Bool) (a3 : V) (n4 : Int) (n5 : Int) (a6 : V) (σ : Heap) : hcall G (k + 1) n_laws_toCodeFun [.agg [.str s1, .bool b2, a3, .int .i64 n4, .int .i64 n5, a6]] σ = ((hcall G k n_laws_toIntS [a3] σ).bind fun q7 => one q7.1 <| (hcall G k n_laws_toCodeInsS [a6] q7.2).bind fun q8 => one q8.1 <| some (.agg [.str s1, .bool b2, q7.1, .int .i64 n4, .int .i64 n5, q8.1], q8.2)) := by
  kernel_rfl

/-! loop.example/smithy/laws.toCodeFunS: function 105 -/
noncomputable def laws_toCodeFunS.L0 (k : Nat) : Nat → List T → Heap → Option (Ex × List T × Heap) := hloop (hx (G.env n_laws_toCodeFunS k) k 23 (subc (bodyOf Try.f105) [1, 1, 0, 1, 0, 0]) 0) 23 (G.msk n_laws_toCodeFunS 0).1 (G.msk n_laws_toCodeFunS 0).2
noncomputable def laws_toCodeFunS.A0 (k : Nat) : Ex × List T × Heap → Option (V × Heap) := fun r => aft (G.env n_laws_toCodeFunS k) k 23 (bodyOf Try.f105) [1, 1, 0, 1, 0] 0 (ck G.P Try.f105) r.1 (unpick 23 (G.msk n_laws_toCodeFunS 0).2 r.2.1) r.2.2
theorem laws_toCodeFunS.eq (k : Nat) (a1 : V) (σ : Heap) : hcall G (k + 1) n_laws_toCodeFunS [a1] σ = ((vlen a1).bind fun k2 => if 0 ≤ (k2 : Int) ∧ (k2 : Int) * 88 ≤ 2 ^ 46 ∧ (k2 : Int) ≤ 2 ^ 46 then ((laws_toCodeFunS.L0 k k [.v a1, .v (.sl σ.length 0 ((k2 : Int) : Int).toNat true), .v (.int .i64 0)] (hnew σ 6 (List.replicate ((k2 : Int) : Int).toNat [.str (⟨#[]⟩ : ByteArray), .bool false, .nils, .int .i64 0, .int .i64 0, .nils]).flatten)).bind (laws_toCodeFunS.A0 k)) else none) := by
  kernel_rfl
theorem laws_toCodeFunS.L0_step (k m : Nat) (a1 : V) (a2 : V) (n3 : Int) (σ : Heap) : laws_toCodeFunS.L0 k (m + 1) [.v a1, .v a2, .v (.int .i64 n3)] σ = ((vlen a1).bind fun k4 => bif decide (n3 < (k4 : Int)) then ((vidx 6 a1 n3).bind fun p5 => (rdc σ p5.1 p5.2 6).bind fun l6 => uncons l6 fun c7 l8 => castStr c7 fun s9 => uncons l8 fun c10 l11 => castBool c10 fun b12 => uncons l11 fun c13 l14 => uncons l14 fun c15 l16 => castInt .i64 c15 fun n17 => uncons l16 fun c18 l19 => castInt .i64 c18 fun n20 => uncons l19 fun c21 l22 => isNil l22 <| (hcall G k n_laws_toCodeFun [.agg [.str s9, .bool b12, c13, .int .i64 n17, .int .i64 n20, c21]] σ).bind fun q23 => castAgg q23.1 fun l24 => uncons l24 fun c25 l26 => castStr c25 fun s27 => uncons l26 fun c28 l29 => castBool c28 fun b30 => uncons l29 fun c31 l32 => uncons l32 fun c33 l34 => castInt .i64 c33 fun n35 => uncons l34 fun c36 l37 => castInt .i64 c36 fun n38 => uncons l37 fun c39 l40 => isNil l40 <| (vidx 6 a2 n3).bind fun p41 => (wrc q23.2 p41.1 p41.2 [.str s27, .bool b30, c31, .int .i64 n35, .int .i64 n38, c39]).bind fun h42 => laws_toCodeFunS.L0 k m [.v a1, .v a2, .v (.int .i64 (IntKind.wrap .i64 (n3 + 1)))] h42) else (some (.exit 0, [.bot, .v a2], σ))) := by
  kernel_rfl
theorem laws_toCodeFunS.A0_x0 (k : Nat) (t1 : T) (a2 : V) (σ : Heap) : laws_toCodeFunS.A0 k (.exit 0, [t1, .v a2], σ) = (some (a2, σ)) := by
  kernel_rfl

/-! loop.example/smithy/laws.toCodeObj: function 86 -/
theorem laws_toCodeObj.eq (k : Nat) (a1 : V) (a2 : V) (σ : Heap) : hcall G (k + 1) n_laws_toCodeObj [.agg [a1, a2]] σ = ((hcall G k n_laws_toCodeRefS [a1] σ).bind fun q3 => one q3.1 <| (hcall G k n_laws_toCodeFunS [a2] q3.2).bind fun q4 => one q4.1 <| some (.agg [q3.1, q4.1], q4.2)) := by
  kernel_rfl

/-! loop.example/smithy/laws.toLinkPart: function 61 -/
theorem laws_toLinkPart.eq (k : Nat) (s1 : ByteArray) (a2 : V) (a3 : V) (σ : Heap) : hcall G (k + 1) n_laws_toLinkPart [.agg [.str s1, a2, a3]] σ = ((hcall G k n_laws_toCodeObj [.agg [a2, a3]] σ).bind fun q4 => castAgg q4.1 fun l5 => uncons l5 fun c6 l7 => uncons l7 fun c8 l9 => isNil l9 <| some (.agg [.str s1, c6, c8], q4.2)) := by
  kernel_rfl

/-! loop.example/smithy/laws.toLinkPartS: function 25 -/
noncomputable def laws_toLinkPartS.L0 (k : Nat) : Nat → List T → Heap → Option (Ex × List T × Heap) := hloop (hx (G.env n_laws_toLinkPartS k) k 23 (subc (bodyOf Try.f25) [1, 1, 0, 1, 0, 0]) 0) 23 (G.msk n_laws_toLinkPartS 0).1 (G.msk n_laws_toLinkPartS 0).2
noncomputable def laws_toLinkPartS.A0 (k : Nat) : Ex × List T × Heap → Option (V × Heap) := fun r => aft (G.env n_laws_toLinkPartS k) k 23 (bodyOf Try.f25) [1, 1, 0, 1, 0] 0 (ck G.P Try.f25) r.1 (unpick 23 (G.msk n_laws_toLinkPartS 0).2 r.2.1) r.2.2
theorem laws_toLinkPartS.eq (k : Nat) (a1 : V) (σ : Heap) : hcall G (k + 1) n_laws_toLinkPartS [a1] σ = ((vlen a1).bind fun k2 => if 0 ≤ (k2 : Int) ∧ (k2 : Int) * 64 ≤ 2 ^ 46 ∧ (k2 : Int) ≤ 2 ^ 46 then ((laws_toLinkPartS.L0 k k [.v a1, .v (.sl σ.length 0 ((k2 : Int) : Int).toNat true), .v (.int .i64 0)] (hnew σ 3 (List.replicate ((k2 : Int) : Int).toNat [.str (⟨#[]⟩ : ByteArray), .nils, .nils]).flatten)).bind (laws_toLinkPartS.A0 k)) else none) := by
  kernel_rfl
theorem laws_toLinkPartS.L0_step (k m : Nat) (a1 : V) (a2 : V) (n3 : Int) (σ : Heap) : laws_toLinkPartS.L0 k (m + 1) [.v a1, .v a2, .v (.int .i64 n3)] σ = ((vlen a1).bind fun k4 => bif decide (n3 < (k4 : Int)) then ((vidx 3 a1 n3).bind fun p5 => (rdc σ p5.1 p5.2 3).bind fun l6 => uncons l6 fun c7 l8 => castStr c7 fun s9 => uncons l8 fun c10 l11 => uncons l11 fun c12 l13 => isNil l13 <| (hcall G k n_laws_toLinkPart [.agg [.str s9, c10, c12]] σ).bind fun q14 => castAgg q14.1 fun l15 => uncons l15 fun c16 l17 => castStr c16 fun s18 => uncons l17 fun c19 l20 => uncons l20 fun c21 l22 => isNil l22 <| (vidx 3 a2 n3).bind fun p23 => (wrc q14.2 p23.1 p23.2 [.str s18, c19, c21]).bind fun h24 => laws_toLinkPartS.L0 k m [.v a1, .v a2, .v (.int .i64 (IntKind.wrap .i64 (n3 + 1)))] h24) else (some (.exit 0, [.bot, .v a2], σ))) := by
  kernel_rfl
theorem laws_toLinkPartS.A0_x0 (k : Nat) (t1 : T) (a2 : V) (σ : Heap) : laws_toLinkPartS.A0 k (.exit 0, [t1, .v a2], σ) = (some (a2, σ)) := by
  kernel_rfl

/-! loop.example/smithy/laws.eqCodeRef: function 123 -/
theorem laws_eqCodeRef.eq (k : Nat) (s1 : ByteArray) (s2 : ByteArray) (s3 : ByteArray) (s4 : ByteArray) (σ : Heap) : hcall G (k + 1) n_laws_eqCodeRef [.agg [.str s1, .str s2], .agg [.str s3, .str s4]] σ = (bif !decide (s1 = s3) then (some (.bool false, σ)) else (bif !decide (s2 = s4) then (some (.bool false, σ)) else (some (.bool true, σ)))) := by
  kernel_rfl

/-! loop.example/smithy/laws.eqCodeRefS: function 106 -/
noncomputable def laws_eqCodeRefS.L0 (k : Nat) : Nat → List T → Heap → Option (Ex × List T × Heap) := hloop (hx (G.env n_laws_eqCodeRefS k) k 27 (subc (bodyOf Try.f106) [1, 1, 0, 1, 0, 0]) 0) 27 (G.msk n_laws_eqCodeRefS 0).1 (G.msk n_laws_eqCodeRefS 0).2
noncomputable def laws_eqCodeRefS.A0 (k : Nat) : Ex × List T × Heap → Option (V × Heap) := fun r => aft (G.env n_laws_eqCodeRefS k) k 27 (bodyOf Try.f106) [1, 1, 0, 1, 0] 0 (ck G.P Try.f106) r.1 (unpick 27 (G.msk n_laws_eqCodeRefS 0).2 r.2.1) r.2.2
theorem laws_eqCodeRefS.eq (k : Nat) (a1 : V) (a2 : V) (σ : Heap) : hcall G (k + 1) n_laws_eqCodeRefS [a1, a2] σ = ((vlen a1).bind fun k3 => (vlen a2).bind fun k4 => bif !decide ((k3 : Int) = (k4 : Int)) then (some (.bool false, σ)) else ((laws_eqCodeRefS.L0 k k [.v a1, .v a2, .v (.int .i64 0)] σ).bind (laws_eqCodeRefS.A0 k))) := by
  kernel_rfl
theorem laws_eqCodeRefS.L0_step (k m : Nat) (a1 : V) (a2 : V) (n3 : Int) (σ : Heap) : laws_eqCodeRefS.L0 k (m + 1) [.v a1, .v a2, .v (.int .i64 n3)] σ = ((vlen a1).bind fun k4 => bif decide (n3 < (k4 : Int)) then ((vidx 2 a1 n3).bind fun p5 => (rdc σ p5.1 p5.2 2).bind fun l6 => uncons l6 fun c7 l8 => castStr c7 fun s9 => uncons l8 fun c10 l11 => castStr c10 fun s12 => isNil l11 <| (vidx 2 a2 n3).bind fun p13 => (rdc σ p13.1 p13.2 2).bind fun l14 => uncons l14 fun c15 l16 => castStr c15 fun s17 => uncons l16 fun c18 l19 => castStr c18 fun s20 => isNil l19 <| (hcall G k n_laws_eqCodeRef [.agg [.str s9, .str s12], .agg [.str s17, .str s20]] σ).bind fun q21 => castBool q21.1 fun b22 => bif !b22 then (some (.ret, [.v (.bool false)], q21.2)) else (laws_eqCodeRefS.L0 k m [.v a1, .v a2, .v (.int .i64 (IntKind.wrap .i64 (n3 + 1)))] q21.2)) else (some (.exit 0, [.bot], σ))) := by
  kernel_rfl
theorem laws_eqCodeRefS.A0_x0 (k : Nat) (t1 : T) (σ : Heap) : laws_eqCodeRefS.A0 k (.exit 0, [t1], σ) = (some (.bool true, σ)) := by
  kernel_rfl
theorem laws_eqCodeRefS.A0_ret (k : Nat) (b1 : Bool) (σ : Heap) : laws_eqCodeRefS.A0 k (.ret, [.v (.bool b1)], σ) = (some (.bool b1, σ)) := by
  kernel_rfl

/-! loop.example/smithy/laws.eqIntS: function 147 -/
noncomputable def laws_eqIntS.L0 (k : Nat) : Nat → List T → Heap → Option (Ex × List T × Heap) := hloop (hx (G.env n_laws_eqIntS k) k 26 (subc (bodyOf Try.f147) [1, 1, 0, 1, 0, 0]) 0) 26 (G.msk n_laws_eqIntS 0).1 (G.msk n_laws_eqIntS 0).2
noncomputable def laws_eqIntS.A0 (k : Nat) : Ex × List T × Heap → Option (V × Heap) := fun r => aft (G.env n_laws_eqIntS k) k 26 (bodyOf Try.f147) [1, 1, 0, 1, 0] 0 (ck G.P Try.f147) r.1 (unpick 26 (G.msk n_laws_eqIntS 0).2 r.2.1) r.2.2
theorem laws_eqIntS.eq (k : Nat) (a1 : V) (a2 : V) (σ : Heap) : hcall G (k + 1) n_laws_eqIntS [a1, a2] σ = ((vlen a1).bind fun k3 => (vlen a2).bind fun k4 => bif !decide ((k3 : Int) = (k4 : Int)) then (some (.bool false, σ)) else ((laws_eqIntS.L0 k k [.v a1, .v a2, .v (.int .i64 0)] σ).bind (laws_eqIntS.A0 k))) := by
  kernel_rfl
theorem laws_eqIntS.L0_step (k m : Nat) (a1 : V) (a2 : V) (n3 : Int) (σ : Heap) : laws_eqIntS.L0 k (m + 1) [.v a1, .v a2, .v (.int .i64 n3)] σ = ((vlen a1).bind fun k4 => bif decide (n3 < (k4 : Int)) then ((vidx 1 a1 n3).bind fun p5 => (rdc σ p5.1 p5.2 1).bind fun l6 => uncons l6 fun c7 l8 => castInt .i64 c7 fun n9 => isNil l8 <| (vidx 1 a2 n3).bind fun p10 => (rdc σ p10.1 p10.2 1).bind fun l11 => uncons l11 fun c12 l13 => castInt .i64 c12 fun n14 => isNil l13 <| bif !decide (n9 = n14) then (some (.ret, [.v (.bool false)], σ)) else (laws_eqIntS.L0 k m [.v a1, .v a2, .v (.int .i64 (IntKind.wrap .i64 (n3 + 1)))] σ)) else (some (.exit 0, [.bot], σ))) := by
  kernel_rfl
theorem laws_eqIntS.A0_x0 (k : Nat) (t1 : T) (σ : Heap) : laws_eqIntS.A0 k (.exit 0, [t1], σ) = (some (.bool true, σ)) := by
  kernel_rfl
theorem laws_eqIntS.A0_ret (k : Nat) (b1 : Bool) (σ : Heap) : laws_eqIntS.A0 k (.ret, [.v (.bool b1)], σ) = (some (.bool b1, σ)) := by
  kernel_rfl

/-! loop.example/smithy/laws.eqCodeIns: function 158 -/
theorem laws_eqCodeIns.eq (k : Nat) (n1 : Int) (n2 : Int) (n3 : Int) (n4 : Int) (σ : Heap) : hcall G (k + 1) n_laws_eqCodeIns [.agg [.int .i64 n1, .int .i64 n2], .agg [.int .i64 n3, .int .i64 n4]] σ = (bif !decide (n1 = n3) then (some (.bool false, σ)) else (bif !decide (n2 = n4) then (some (.bool false, σ)) else (some (.bool true, σ)))) := by
  kernel_rfl

/-! loop.example/smithy/laws.eqCodeInsS: function 148 -/
noncomputable def laws_eqCodeInsS.L0 (k : Nat) : Nat → List T → Heap → Option (Ex × List T × Heap) := hloop (hx (G.env n_laws_eqCodeInsS k) k 27 (subc (bodyOf Try.f148) [1, 1, 0, 1, 0, 0]) 0) 27 (G.msk n_laws_eqCodeInsS 0).1 (G.msk n_laws_eqCodeInsS 0).2
noncomputable def laws_eqCodeInsS.A0 (k : Nat) : Ex × List T × Heap → Option (V × Heap) := fun r => aft (G.env n_laws_eqCodeInsS k) k 27 (bodyOf Try.f148) [1, 1, 0, 1, 0] 0 (ck G.P Try.f148) r.1 (unpick 27 (G.msk n_laws_eqCodeInsS 0).2 r.2.1) r.2.2
theorem laws_eqCodeInsS.eq (k : Nat) (a1 : V) (a2 : V) (σ : Heap) : hcall G (k + 1) n_laws_eqCodeInsS [a1, a2] σ = ((vlen a1).bind fun k3 => (vlen a2).bind fun k4 => bif !decide ((k3 : Int) = (k4 : Int)) then (some (.bool false, σ)) else ((laws_eqCodeInsS.L0 k k [.v a1, .v a2, .v (.int .i64 0)] σ).bind (laws_eqCodeInsS.A0 k))) := by
  kernel_rfl
theorem laws_eqCodeInsS.L0_step (k m : Nat) (a1 : V) (a2 : V) (n3 : Int) (σ : Heap) : laws_eqCodeInsS.L0 k (m + 1) [.v a1, .v a2, .v (.int .i64 n3)] σ = ((vlen a1).bind fun k4 => bif decide (n3 < (k4 : Int)) then ((vidx 2 a1 n3).bind fun p5 => (rdc σ p5.1 p5.2 2).bind fun l6 => uncons l6 fun c7 l8 => castInt .i64 c7 fun n9 => uncons l8 fun c10 l11 => castInt .i64 c10 fun n12 => isNil l11 <| (vidx 2 a2 n3).bind fun p13 => (rdc σ p13.1 p13.2 2).bind fun l14 => uncons l14 fun c15 l16 => castInt .i64 c15 fun n17 => uncons l16 fun c18 l19 => castInt .i64 c18 fun n20 => isNil l19 <| (hcall G k n_laws_eqCodeIns [.agg [.int .i64 n9, .int .i64 n12], .agg [.int .i64 n17, .int .i64 n20]] σ).bind fun q21 => castBool q21.1 fun b22 => bif !b22 then (some (.ret, [.v (.bool false)], q21.2)) else (laws_eqCodeInsS.L0 k m [.v a1, .v a2, .v (.int .i64 (IntKind.wrap .i64 (n3 + 1)))] q21.2)) else (some (.exit 0, [.bot], σ))) := by
  kernel_rfl
theorem laws_eqCodeInsS.A0_x0 (k : Nat) (t1 : T) (σ : Heap) : laws_eqCodeInsS.A0 k (.exit 0, [t1], σ) = (some (.bool true, σ)) := by
  kernel_rfl
theorem laws_eqCodeInsS.A0_ret (k : Nat) (b1 : Bool) (σ : Heap) : laws_eqCodeInsS.A0 k (.ret, [.v (.bool b1)], σ) = (some (.bool b1, σ)) := by
  kernel_rfl

/-! loop.example/smithy/laws.eqCodeFun: function 124 -/
theorem laws_eqCodeFun.eq (k : Nat) (s1 : ByteArray) (b2 : Bool) (a3 : V) (n4 : Int) (n5 : Int) (a6 : V) (s7 : ByteArray) (b8 : Bool) (a9 : V) (n10 : Int) (n11 : Int) (a12 : V) (σ : Heap) : hcall G (k + 1) n_laws_eqCodeFun [.agg [.str s1, .bool b2, a3, .int .i64 n4, .int .i64 n5, a6], .agg [.str s7, .bool b8, a9, .int .i64 n10, .int .i64 n11, a12]] σ = (bif !decide (s1 = s7) then (some (.bool false, σ)) else (bif !(b2 == b8) then (some (.bool false, σ)) else ((hcall G k n_laws_eqIntS [a3, a9] σ).bind fun q13 => castBool q13.1 fun b14 => bif !b14 then (some (.bool false, q13.2)) else (bif !decide (n4 = n10) then (some (.bool false, q13.2)) else (bif !decide (n5 = n11) then (some (.bool false, q13.2)) else ((hcall G k n_laws_eqCodeInsS [a6, a12] q13.2).bind fun q15 => castBool q15.1 fun b16 => bif !b16 then (some (.bool false, q15.2)) else (some (.bool true, q15.2)))))))) := by
  kernel_rfl

/-! loop.example/smithy/laws.eqCodeFunS: function 107 -/
noncomputable def laws_eqCodeFunS.L0 (k : Nat) : Nat → List T → Heap → Option (Ex × List T × Heap) := hloop (hx (G.env n_laws_eqCodeFunS k) k 27 (subc (bodyOf Try.f107) [1, 1, 0, 1, 0, 0]) 0) 27 (G.msk n_laws_eqCodeFunS 0).1 (G.msk n_laws_eqCodeFunS 0).2
noncomputable def laws_eqCodeFunS.A0 (k : Nat) : Ex × List T × Heap → Option (V × Heap) := fun r => aft (G.env n_laws_eqCodeFunS k) k 27 (bodyOf Try.f107) [1, 1, 0, 1, 0] 0 (ck G.P Try.f107) r.1 (unpick 27 (G.msk n_laws_eqCodeFunS 0).2 r.2.1) r.2.2
theorem laws_eqCodeFunS.eq (k : Nat) (a1 : V) (a2 : V) (σ : Heap) : hcall G (k + 1) n_laws_eqCodeFunS [a1, a2] σ = ((vlen a1).bind fun k3 => (vlen a2).bind fun k4 => bif !decide ((k3 : Int) = (k4 : Int)) then (some (.bool false, σ)) else ((laws_eqCodeFunS.L0 k k [.v a1, .v a2, .v (.int .i64 0)] σ).bind (laws_eqCodeFunS.A0 k))) := by
  kernel_rfl
theorem laws_eqCodeFunS.L0_step (k m : Nat) (a1 : V) (a2 : V) (n3 : Int) (σ : Heap) : laws_eqCodeFunS.L0 k (m + 1) [.v a1, .v a2, .v (.int .i64 n3)] σ = ((vlen a1).bind fun k4 => bif decide (n3 < (k4 : Int)) then ((vidx 6 a1 n3).bind fun p5 => (rdc σ p5.1 p5.2 6).bind fun l6 => uncons l6 fun c7 l8 => castStr c7 fun s9 => uncons l8 fun c10 l11 => castBool c10 fun b12 => uncons l11 fun c13 l14 => uncons l14 fun c15 l16 => castInt .i64 c15 fun n17 => uncons l16 fun c18 l19 => castInt .i64 c18 fun n20 => uncons l19 fun c21 l22 => isNil l22 <| (vidx 6 a2 n3).bind fun p23 => (rdc σ p23.1 p23.2 6).bind fun l24 => uncons l24 fun c25 l26 => castStr c25 fun s27 => uncons l26 fun c28 l29 => castBool c28 fun b30 => uncons l29 fun c31 l32 => uncons l32 fun c33 l34 => castInt .i64 c33 fun n35 => uncons l34 fun c36 l37 => castInt .i64 c36 fun n38 => uncons l37 fun c39 l40 => isNil l40 <| (hcall G k n_laws_eqCodeFun [.agg [.str s9, .bool b12, c13, .int .i64 n17, .int .i64 n20, c21], .agg [.str s27, .bool b30, c31, .int .i64 n35, .int .i64 n38, c39]] σ).bind fun q41 => castBool q41.1 fun b42 => bif !b42 then (some (.ret, [.v (.bool false)], q41.2)) else (laws_eqCodeFunS.L0 k m [.v a1, .v a2, .v (.int .i64 (IntKind.wrap .i64 (n3 + 1)))] q41.2)) else (some (.exit 0, [.bot], σ))) := by
  kernel_rfl
theorem laws_eqCodeFunS.A0_x0 (k : Nat) (t1 : T) (σ : Heap) : laws_eqCodeFunS.A0 k (.exit 0, [t1], σ) = (some (.bool true, σ)) := by
  kernel_rfl
theorem laws_eqCodeFunS.A0_ret (k : Nat) (b1 : Bool) (σ : Heap) : laws_eqCodeFunS.A0 k (.ret, [.v (.bool b1)], σ) = (some (.bool b1, σ)) := by
  kernel_rfl

/-! loop.example/smithy/laws.eqCodeObj: function 91 -/
theorem laws_eqCodeObj.eq (k : Nat) (a1 : V) (a2 : V) (a3 : V) (a4 : V) (σ : Heap) : hcall G (k + 1) n_laws_eqCodeObj [.agg [a1, a2], .agg [a3, a4]] σ = ((hcall G k n_laws_eqCodeRefS [a1, a3] σ).bind fun q5 => castBool q5.1 fun b6 => bif !b6 then (some (.bool false, q5.2)) else ((hcall G k n_laws_eqCodeFunS [a2, a4] q5.2).bind fun q7 => castBool q7.1 fun b8 => bif !b8 then (some (.bool false, q7.2)) else (some (.bool true, q7.2)))) := by
  kernel_rfl

/-! loop.example/smithy/laws.eqLinkPart: function 65 -/
theorem laws_eqLinkPart.eq (k : Nat) (s1 : ByteArray) (a2 : V) (a3 : V) (s4 : ByteArray) (a5 : V) (a6 : V) (σ : Heap) : hcall G (k + 1) n_laws_eqLinkPart [.agg [.str s1, a2, a3], .agg [.str s4, a5, a6]] σ = (bif !decide (s1 = s4) then (some (.bool false, σ)) else ((hcall G k n_laws_eqCodeObj [.agg [a2, a3], .agg [a5, a6]] σ).bind fun q7 => castBool q7.1 fun b8 => bif !b8 then (some (.bool false, q7.2)) else (some (.bool true, q7.2)))) := by
  kernel_rfl

/-! loop.example/smithy/laws.eqLinkPartS: function 27 -/
noncomputable def laws_eqLinkPartS.L0 (k : Nat) : Nat → List T → Heap → Option (Ex × List T × Heap) := hloop (hx (G.env n_laws_eqLinkPartS k) k 27 (subc (bodyOf Try.f27) [1, 1, 0, 1, 0, 0]) 0) 27 (G.msk n_laws_eqLinkPartS 0).1 (G.msk n_laws_eqLinkPartS 0).2
noncomputable def laws_eqLinkPartS.A0 (k : Nat) : Ex × List T × Heap → Option (V × Heap) := fun r => aft (G.env n_laws_eqLinkPartS k) k 27 (bodyOf Try.f27) [1, 1, 0, 1, 0] 0 (ck G.P Try.f27) r.1 (unpick 27 (G.msk n_laws_eqLinkPartS 0).2 r.2.1) r.2.2
theorem laws_eqLinkPartS.eq (k : Nat) (a1 : V) (a2 : V) (σ : Heap) : hcall G (k + 1) n_laws_eqLinkPartS [a1, a2] σ = ((vlen a1).bind fun k3 => (vlen a2).bind fun k4 => bif !decide ((k3 : Int) = (k4 : Int)) then (some (.bool false, σ)) else ((laws_eqLinkPartS.L0 k k [.v a1, .v a2, .v (.int .i64 0)] σ).bind (laws_eqLinkPartS.A0 k))) := by
  kernel_rfl
theorem laws_eqLinkPartS.L0_step (k m : Nat) (a1 : V) (a2 : V) (n3 : Int) (σ : Heap) : laws_eqLinkPartS.L0 k (m + 1) [.v a1, .v a2, .v (.int .i64 n3)] σ = ((vlen a1).bind fun k4 => bif decide (n3 < (k4 : Int)) then ((vidx 3 a1 n3).bind fun p5 => (rdc σ p5.1 p5.2 3).bind fun l6 => uncons l6 fun c7 l8 => castStr c7 fun s9 => uncons l8 fun c10 l11 => uncons l11 fun c12 l13 => isNil l13 <| (vidx 3 a2 n3).bind fun p14 => (rdc σ p14.1 p14.2 3).bind fun l15 => uncons l15 fun c16 l17 => castStr c16 fun s18 => uncons l17 fun c19 l20 => uncons l20 fun c21 l22 => isNil l22 <| (hcall G k n_laws_eqLinkPart [.agg [.str s9, c10, c12], .agg [.str s18, c19, c21]] σ).bind fun q23 => castBool q23.1 fun b24 => bif !b24 then (some (.ret, [.v (.bool false)], q23.2)) else (laws_eqLinkPartS.L0 k m [.v a1, .v a2, .v (.int .i64 (IntKind.wrap .i64 (n3 + 1)))] q23.2)) else (some (.exit 0, [.bot], σ))) := by
  kernel_rfl
theorem laws_eqLinkPartS.A0_x0 (k : Nat) (t1 : T) (σ : Heap) : laws_eqLinkPartS.A0 k (.exit 0, [t1], σ) = (some (.bool true, σ)) := by
  kernel_rfl
theorem laws_eqLinkPartS.A0_ret (k : Nat) (b1 : Bool) (σ : Heap) : laws_eqLinkPartS.A0 k (.ret, [.v (.bool b1)], σ) = (some (.bool b1, σ)) := by
  kernel_rfl

/-! loop.example/smithy/spec.l9Part: function 58 -/
noncomputable def spec_l9Part.L0 (k : Nat) : Nat → List T → Heap → Option (Ex × List T × Heap) := hloop (hx (G.env n_spec_l9Part k) k 20 (subc (bodyOf Try.f58) [1, 0, 1, 0, 0]) 0) 20 (G.msk n_spec_l9Part 0).1 (G.msk n_spec_l9Part 0).2
noncomputable def spec_l9Part.A0 (k : Nat) : Ex × List T × Heap → Option (V × Heap) := fun r => aft (G.env n_spec_l9Part k) k 20 (bodyOf Try.f58) [1, 0, 1, 0] 0 (ck G.P Try.f58) r.1 (unpick 20 (G.msk n_spec_l9Part 0).2 r.2.1) r.2.2
theorem spec_l9Part.eq (k : Nat) (a1 : V) (s2 : ByteArray) (σ : Heap) : hcall G (k + 1) n_spec_l9Part [a1, .str s2] σ = ((spec_l9Part.L0 k k [.v a1, .v (.str s2), .v (.int .i64 0)] σ).bind (spec_l9Part.A0 k)) := by
  kernel_rfl
theorem spec_l9Part.L0_step (k m : Nat) (a1 : V) (s2 : ByteArray) (n3 : Int) (σ : Heap) : spec_l9Part.L0 k (m + 1) [.v a1, .v (.str s2), .v (.int .i64 n3)] σ = ((vlen a1).bind fun k4 => bif decide (n3 < (k4 : Int)) then ((vidx 3 a1 n3).bind fun p5 => (rdc σ p5.1 (p5.2 + 0) 1).bind fun l6 => uncons l6 fun c7 l8 => castStr c7 fun s9 => isNil l8 <| bif decide (s9 = s2) then (some (.ret, [.v (.int .i64 n3)], σ)) else (spec_l9Part.L0 k m [.v a1, .v (.str s2), .v (.int .i64 (IntKind.wrap .i64 (n3 + 1)))] σ)) else (some (.exit 0, [.bot], σ))) := by
  kernel_rfl
theorem spec_l9Part.A0_x0 (k : Nat) (t1 : T) (σ : Heap) : spec_l9Part.A0 k (.exit 0, [t1], σ) = (some (.int .i64 (-1), σ)) := by
  kernel_rfl
theorem spec_l9Part.A0_ret (k : Nat) (n1 : Int) (σ : Heap) : spec_l9Part.A0 k (.ret, [.v (.int .i64 n1)], σ) = (some (.int .i64 n1, σ)) := by
  kernel_rfl

/-! loop.example/smithy/spec.l9Fun: function 59 -/
noncomputable def spec_l9Fun.L0 (k : Nat) : Nat → List T → Heap → Option (Ex × List T × Heap) := hloop (hx (G.env n_spec_l9Fun k) k 22 (subc (bodyOf Try.f59) [1, 0, 1, 0, 0]) 0) 22 (G.msk n_spec_l9Fun 0).1 (G.msk n_spec_l9Fun 0).2
noncomputable def spec_l9Fun.A0 (k : Nat) : Ex × List T × Heap → Option (V × Heap) := fun r => aft (G.env n_spec_l9Fun k) k 22 (bodyOf Try.f59) [1, 0, 1, 0] 0 (ck G.P Try.f59) r.1 (unpick 22 (G.msk n_spec_l9Fun 0).2 r.2.1) r.2.2
theorem spec_l9Fun.eq (k : Nat) (a1 : V) (a2 : V) (s3 : ByteArray) (σ : Heap) : hcall G (k + 1) n_spec_l9Fun [.agg [a1, a2], .str s3] σ = ((spec_l9Fun.L0 k k [.v (.str s3), .box [a1, a2], .v (.int .i64 0)] σ).bind (spec_l9Fun.A0 k)) := by
  kernel_rfl
theorem spec_l9Fun.L0_step (k m : Nat) (s1 : ByteArray) (a2 : V) (a3 : V) (n4 : Int) (σ : Heap) : spec_l9Fun.L0 k (m + 1) [.v (.str s1), .box [a2, a3], .v (.int .i64 n4)] σ = ((vlen a3).bind fun k5 => bif decide (n4 < (k5 : Int)) then ((vidx 6 a3 n4).bind fun p6 => (rdc σ p6.1 (p6.2 + 0) 1).bind fun l7 => uncons l7 fun c8 l9 => castStr c8 fun s10 => isNil l9 <| bif decide (s10 = s1) then (some (.ret, [.v (.int .i64 n4)], σ)) else (spec_l9Fun.L0 k m [.v (.str s1), .box [a2, a3], .v (.int .i64 (IntKind.wrap .i64 (n4 + 1)))] σ)) else (some (.exit 0, [.bot], σ))) := by
  kernel_rfl
theorem spec_l9Fun.A0_x0 (k : Nat) (t1 : T) (σ : Heap) : spec_l9Fun.A0 k (.exit 0, [t1], σ) = (some (.int .i64 (-1), σ)) := by
  kernel_rfl
theorem spec_l9Fun.A0_ret (k : Nat) (n1 : Int) (σ : Heap) : spec_l9Fun.A0 k (.ret, [.v (.int .i64 n1)], σ) = (some (.int .i64 n1, σ)) := by
  kernel_rfl

/-! loop.example/smithy/spec.l1Kept: function 111 -/
noncomputable def spec_l1Kept.L0 (k : Nat) : Nat → List T → Heap → Option (Ex × List T × Heap) := hloop (hx (G.env n_spec_l1Kept k) k 18 (subc (bodyOf Try.f111) [1, 1, 0, 1, 0, 0]) 0) 18 (G.msk n_spec_l1Kept 0).1 (G.msk n_spec_l1Kept 0).2
noncomputable def spec_l1Kept.A0 (k : Nat) : Ex × List T × Heap → Option (V × Heap) := fun r => aft (G.env n_spec_l1Kept k) k 18 (bodyOf Try.f111) [1, 1, 0, 1, 0] 0 (ck G.P Try.f111) r.1 (unpick 18 (G.msk n_spec_l1Kept 0).2 r.2.1) r.2.2
theorem spec_l1Kept.eq (k : Nat) (s1 : ByteArray) (σ : Heap) : hcall G (k + 1) n_spec_l1Kept [.str s1] σ = ((spec_l1Kept.L0 k k [.v (.str s1), .v (.sl σ.length 0 19 true), .v (.int .i64 0)] (hnew σ 1 [.str (⟨#[117, 115, 101]⟩ : ByteArray), .str (⟨#[102, 117, 110]⟩ : ByteArray), .str (⟨#[112, 117, 98]⟩ : ByteArray), .str (⟨#[109, 97, 105, 110]⟩ : ByteArray), .str (⟨#[105, 110, 116]⟩ : ByteArray), .str (⟨#[98, 111, 111, 108]⟩ : ByteArray), .str (⟨#[114, 111, 119]⟩ : ByteArray), .str (⟨#[105, 102]⟩ : ByteArray), .str (⟨#[108, 101, 116]⟩ : ByteArray), .str (⟨#[116, 114, 117, 101]⟩ : ByteArray), .str (⟨#[102, 97, 108, 115, 101]⟩ : ByteArray), .str (⟨#[97, 110, 100]⟩ : ByteArray), .str (⟨#[111, 114]⟩ : ByteArray), .str (⟨#[110, 111, 116]⟩ : ByteArray), .str (⟨#[97, 116]⟩ : ByteArray), .str (⟨#[108, 101, 110]⟩ : ByteArray), .str (⟨#[112, 117, 116]⟩ : ByteArray), .str (⟨#[106, 111, 105, 110]⟩ : ByteArray), .str (⟨#[112, 114, 105, 110, 116]⟩ : ByteArray)])).bind (spec_l1Kept.A0 k)) := by
  kernel_rfl
theorem spec_l1Kept.L0_step (k m : Nat) (s1 : ByteArray) (a2 : V) (n3 : Int) (σ : Heap) : spec_l1Kept.L0 k (m + 1) [.v (.str s1), .v a2, .v (.int .i64 n3)] σ = ((vlen a2).bind fun k4 => bif decide (n3 < (k4 : Int)) then ((vidx 1 a2 n3).bind fun p5 => (rdc σ p5.1 p5.2 1).bind fun l6 => uncons l6 fun c7 l8 => castStr c7 fun s9 => isNil l8 <| bif decide (s9 = s1) then (some (.ret, [.v (.bool true)], σ)) else (spec_l1Kept.L0 k m [.v (.str s1), .v a2, .v (.int .i64 (IntKind.wrap .i64 (n3 + 1)))] σ)) else (some (.exit 0, [.bot], σ))) := by
  kernel_rfl
theorem spec_l1Kept.A0_x0 (k : Nat) (t1 : T) (σ : Heap) : spec_l1Kept.A0 k (.exit 0, [t1], σ) = (some (.bool false, σ)) := by
  kernel_rfl
theorem spec_l1Kept.A0_ret (k : Nat) (b1 : Bool) (σ : Heap) : spec_l1Kept.A0 k (.ret, [.v (.bool b1)], σ) = (some (.bool b1, σ)) := by
  kernel_rfl

/-! loop.example/smithy/spec.LexName: function 96 -/
noncomputable def spec_LexName.L0 (k : Nat) : Nat → List T → Heap → Option (Ex × List T × Heap) := hloop (hx (G.env n_spec_LexName k) k 32 (subc (bodyOf Try.f96) [1, 1, 0, 1, 0, 0]) 0) 32 (G.msk n_spec_LexName 0).1 (G.msk n_spec_LexName 0).2
noncomputable def spec_LexName.A0 (k : Nat) : Ex × List T × Heap → Option (V × Heap) := fun r => aft (G.env n_spec_LexName k) k 32 (bodyOf Try.f96) [1, 1, 0, 1, 0] 0 (ck G.P Try.f96) r.1 (unpick 32 (G.msk n_spec_LexName 0).2 r.2.1) r.2.2
theorem spec_LexName.eq (k : Nat) (s1 : ByteArray) (σ : Heap) : hcall G (k + 1) n_spec_LexName [.str s1] σ = (bif decide ((s1.size : Int) < 1) then (some (.bool false, σ)) else (bif decide (8 < (s1.size : Int)) then (some (.bool false, σ)) else ((hcall G k n_spec_l1Kept [.str s1] σ).bind fun q2 => castBool q2.1 fun b3 => bif b3 then (some (.bool false, q2.2)) else ((spec_LexName.L0 k k [.v (.str s1), .v (.int .i64 0)] q2.2).bind (spec_LexName.A0 k))))) := by
  kernel_rfl
theorem spec_LexName.L0_step (k m : Nat) (s1 : ByteArray) (n2 : Int) (σ : Heap) : spec_LexName.L0 k (m + 1) [.v (.str s1), .v (.int .i64 n2)] σ = (bif decide (n2 < (s1.size : Int)) then ((sbyte s1 n2).bind fun n3 => bif decide (n3 < 97) then (some (.ret, [.v (.bool false)], σ)) else ((sbyte s1 n2).bind fun n4 => bif decide (122 < n4) then (some (.ret, [.v (.bool false)], σ)) else (spec_LexName.L0 k m [.v (.str s1), .v (.int .i64 (IntKind.wrap .i64 (n2 + 1)))] σ))) else (some (.exit 0, [.bot], σ))) := by
  kernel_rfl
theorem spec_LexName.A0_x0 (k : Nat) (t1 : T) (σ : Heap) : spec_LexName.A0 k (.exit 0, [t1], σ) = (some (.bool true, σ)) := by
  kernel_rfl
theorem spec_LexName.A0_ret (k : Nat) (b1 : Bool) (σ : Heap) : spec_LexName.A0 k (.ret, [.v (.bool b1)], σ) = (some (.bool b1, σ)) := by
  kernel_rfl

/-! loop.example/smithy/spec.l8Name: function 136 -/
theorem spec_l8Name.eq (k : Nat) (s1 : ByteArray) (σ : Heap) : hcall G (k + 1) n_spec_l8Name [.str s1] σ = ((hcall G k n_spec_LexName [.str s1] σ).bind fun q2 => castBool q2.1 fun b3 => bif b3 then (some (.bool true, q2.2)) else (some (.bool (decide (s1 = (⟨#[109, 97, 105, 110]⟩ : ByteArray))), q2.2))) := by
  kernel_rfl

/-! loop.example/smithy/spec.TreeType: function 137 -/
theorem spec_TreeType.eq (k : Nat) (n1 : Int) (σ : Heap) : hcall G (k + 1) n_spec_TreeType [.int .i64 n1] σ = (bif decide (n1 < 1) then (some (.str (⟨#[]⟩ : ByteArray), σ)) else (bif decide (3 < n1) then (some (.str (⟨#[]⟩ : ByteArray), σ)) else ((vidx 1 (.sl σ.length 0 3 true) (IntKind.wrap .i64 (n1 - 1))).bind fun p2 => (rdc (hnew σ 1 [.str (⟨#[105, 110, 116]⟩ : ByteArray), .str (⟨#[98, 111, 111, 108]⟩ : ByteArray), .str (⟨#[114, 111, 119]⟩ : ByteArray)]) p2.1 p2.2 1).bind fun l3 => uncons l3 fun c4 l5 => castStr c4 fun s6 => isNil l5 <| some (.str s6, hnew σ 1 [.str (⟨#[105, 110, 116]⟩ : ByteArray), .str (⟨#[98, 111, 111, 108]⟩ : ByteArray), .str (⟨#[114, 111, 119]⟩ : ByteArray)])))) := by
  kernel_rfl

/-! loop.example/smithy/spec.l8Ins: function 138 -/
theorem spec_l8Ins.eq (k : Nat) (n1 : Int) (n2 : Int) (σ : Heap) : hcall G (k + 1) n_spec_l8Ins [.agg [.int .i64 n1, .int .i64 n2]] σ = (bif decide (n1 = 1) then (bif decide (n2 < 100000000000000000) then (some (.bool (decide ((-100000000000000000) < n2)), σ)) else (some (.bool false, σ))) else (bif decide (n1 = 2) then (bif decide (n2 = 0) then (some (.bool true, σ)) else (some (.bool (decide (n2 = 1)), σ))) else (bif decide (n1 = 9) then (some (.bool (decide (n2 = 0)), σ)) else (bif decide (1 ≤ n1) then (bif decide (n1 ≤ 10) then (bif decide (0 ≤ n2) then (some (.bool (decide (n2 ≤ 1000)), σ)) else (some (.bool false, σ))) else (some (.bool false, σ))) else (some (.bool false, σ)))))) := by
  kernel_rfl

/-! loop.example/smithy/spec.l8Fun: function 110 -/
noncomputable def spec_l8Fun.L1 (k : Nat) : Nat → List T → Heap → Option (Ex × List T × Heap) := hloop (hx (G.env n_spec_l8Fun k) k 65 (subc (bodyOf Try.f110) [1, 1, 1, 0, 1, 0, 0]) 2) 65 (G.msk n_spec_l8Fun 2).1 (G.msk n_spec_l8Fun 2).2
noncomputable def spec_l8Fun.L0 (k : Nat) : Nat → List T → Heap → Option (Ex × List T × Heap) := hloop (hx (G.env n_spec_l8Fun k) k 65 (subc (bodyOf Try.f110) [1, 1, 0, 1, 0, 0]) 0) 65 (G.msk n_spec_l8Fun 0).1 (G.msk n_spec_l8Fun 0).2
noncomputable def spec_l8Fun.A0 (k : Nat) : Ex × List T × Heap → Option (V × Heap) := fun r => aft (G.env n_spec_l8Fun k) k 65 (bodyOf Try.f110) [1, 1, 0, 1, 0] 0 (ck G.P Try.f110) r.1 (unpick 65 (G.msk n_spec_l8Fun 0).2 r.2.1) r.2.2
noncomputable def spec_l8Fun.A1 (k : Nat) : Ex × List T × Heap → Option (V × Heap) := fun r => aft (G.env n_spec_l8Fun k) k 65 (bodyOf Try.f110) [1, 1, 1, 0, 1, 0] 0 (ck G.P Try.f110) r.1 (unpick 65 (G.msk n_spec_l8Fun 2).2 r.2.1) r.2.2
theorem spec_l8Fun.eq (k : Nat) (s1 : ByteArray) (b2 : Bool) (a3 : V) (n4 : Int) (n5 : Int) (a6 : V) (σ : Heap) : hcall G (k + 1) n_spec_l8Fun [.agg [.str s1, .bool b2, a3, .int .i64 n4, .int .i64 n5, a6]] σ = ((hcall G k n_spec_l8Name [.str s1] σ).bind fun q7 => castBool q7.1 fun b8 => bif !b8 then (some (.bool false, q7.2)) else ((vlen a3).bind fun k9 => bif decide (4 < (k9 : Int)) then (some (.bool false, q7.2)) else ((hcall G k n_spec_TreeType [.int .i64 n4] q7.2).bind fun q10 => castStr q10.1 fun s11 => bif decide (s11 = (⟨#[]⟩ : ByteArray)) then (some (.bool false, q10.2)) else (bif decide (n5 < 0) then (some (.bool false, q10.2)) else (bif decide (1000 < n5) then (some (.bool false, q10.2)) else ((vlen a6).bind fun k12 => bif decide (460 < (k12 : Int)) then (some (.bool false, q10.2)) else ((spec_l8Fun.L0 k k [.box [.str s1, .bool b2, a3, .int .i64 n4, .int .i64 n5, a6], .v (.int .i64 0)] q10.2).bind (spec_l8Fun.A0 k)))))))) := by
  kernel_rfl
theorem spec_l8Fun.L0_step (k m : Nat) (s1 : ByteArray) (b2 : Bool) (a3 : V) (n4 : Int) (n5 : Int) (a6 : V) (n7 : Int) (σ : Heap) : spec_l8Fun.L0 k (m + 1) [.box [.str s1, .bool b2, a3, .int .i64 n4, .int .i64 n5, a6], .v (.int .i64 n7)] σ = ((vlen a3).bind fun k8 => bif decide (n7 < (k8 : Int)) then ((vidx 1 a3 n7).bind fun p9 => (rdc σ p9.1 p9.2 1).bind fun l10 => uncons l10 fun c11 l12 => castInt .i64 c11 fun n13 => isNil l12 <| (hcall G k n_spec_TreeType [.int .i64 n13] σ).bind fun q14 => castStr q14.1 fun s15 => bif decide (s15 = (⟨#[]⟩ : ByteArray)) then (some (.ret, [.box [.str s1, .bool b2, a3, .int .i64 n4, .int .i64 n5, a6], .v (.bool false)], q14.2)) else (spec_l8Fun.L0 k m [.box [.str s1, .bool b2, a3, .int .i64 n4, .int .i64 n5, a6], .v (.int .i64 (IntKind.wrap .i64 (n7 + 1)))] q14.2)) else (some (.exit 0, [.box [.str s1, .bool b2, a3, .int .i64 n4, .int .i64 n5, a6], .bot], σ))) := by
  kernel_rfl
theorem spec_l8Fun.A0_x0 (k : Nat) (s1 : ByteArray) (b2 : Bool) (a3 : V) (n4 : Int) (n5 : Int) (a6 : V) (t7 : T) (σ : Heap) : spec_l8Fun.A0 k (.exit 0, [.box [.str s1, .bool b2, a3, .int .i64 n4, .int .i64 n5, a6], t7], σ) = ((spec_l8Fun.L1 k k [.box [.str s1, .bool b2, a3, .int .i64 n4, .int .i64 n5, a6], .v (.int .i64 0)] σ).bind (spec_l8Fun.A1 k)) := by
  kernel_rfl
theorem spec_l8Fun.A0_ret (k : Nat) (t1 : T) (b2 : Bool) (σ : Heap) : spec_l8Fun.A0 k (.ret, [t1, .v (.bool b2)], σ) = (some (.bool b2, σ)) := by
  kernel_rfl
theorem spec_l8Fun.L1_step (k m : Nat) (s1 : ByteArray) (b2 : Bool) (a3 : V) (n4 : Int) (n5 : Int) (a6 : V) (n7 : Int) (σ : Heap) : spec_l8Fun.L1 k (m + 1) [.box [.str s1, .bool b2, a3, .int .i64 n4, .int .i64 n5, a6], .v (.int .i64 n7)] σ = ((vlen a6).bind fun k8 => bif decide (n7 < (k8 : Int)) then ((vidx 2 a6 n7).bind fun p9 => (rdc σ p9.1 p9.2 2).bind fun l10 => uncons l10 fun c11 l12 => castInt .i64 c11 fun n13 => uncons l12 fun c14 l15 => castInt .i64 c14 fun n16 => isNil l15 <| (hcall G k n_spec_l8Ins [.agg [.int .i64 n13, .int .i64 n16]] σ).bind fun q17 => castBool q17.1 fun b18 => bif !b18 then (some (.ret, [.v (.bool false)], q17.2)) else (spec_l8Fun.L1 k m [.box [.str s1, .bool b2, a3, .int .i64 n4, .int .i64 n5, a6], .v (.int .i64 (IntKind.wrap .i64 (n7 + 1)))] q17.2)) else (some (.exit 2, [.bot], σ))) := by
  kernel_rfl
theorem spec_l8Fun.A1_x2 (k : Nat) (t1 : T) (σ : Heap) : spec_l8Fun.A1 k (.exit 2, [t1], σ) = (some (.bool true, σ)) := by
  kernel_rfl
theorem spec_l8Fun.A1_ret (k : Nat) (b1 : Bool) (σ : Heap) : spec_l8Fun.A1 k (.ret, [.v (.bool b1)], σ) = (some (.bool b1, σ)) := by
  kernel_rfl

/-! loop.example/smithy/spec.ObjOk: function 95 -/
noncomputable def spec_ObjOk.L1 (k : Nat) : Nat → List T → Heap → Option (Ex × List T × Heap) := hloop (hx (G.env n_spec_ObjOk k) k 77 (subc (bodyOf Try.f95) [1, 1, 1, 1, 0, 1, 0, 0]) 2) 77 (G.msk n_spec_ObjOk 2).1 (G.msk n_spec_ObjOk 2).2
noncomputable def spec_ObjOk.L0 (k : Nat) : Nat → List T → Heap → Option (Ex × List T × Heap) := hloop (hx (G.env n_spec_ObjOk k) k 77 (subc (bodyOf Try.f95) [1, 1, 0, 1, 0, 0]) 0) 77 (G.msk n_spec_ObjOk 0).1 (G.msk n_spec_ObjOk 0).2
noncomputable def spec_ObjOk.A0 (k : Nat) : Ex × List T × Heap → Option (V × Heap) := fun r => aft (G.env n_spec_ObjOk k) k 77 (bodyOf Try.f95) [1, 1, 0, 1, 0] 0 (ck G.P Try.f95) r.1 (unpick 77 (G.msk n_spec_ObjOk 0).2 r.2.1) r.2.2
noncomputable def spec_ObjOk.A1 (k : Nat) : Ex × List T × Heap → Option (V × Heap) := fun r => aft (G.env n_spec_ObjOk k) k 77 (bodyOf Try.f95) [1, 1, 1, 1, 0, 1, 0] 0 (ck G.P Try.f95) r.1 (unpick 77 (G.msk n_spec_ObjOk 2).2 r.2.1) r.2.2
theorem spec_ObjOk.eq (k : Nat) (a1 : V) (a2 : V) (σ : Heap) : hcall G (k + 1) n_spec_ObjOk [.agg [a1, a2]] σ = ((vlen a1).bind fun k3 => bif decide (40 < (k3 : Int)) then (some (.bool false, σ)) else ((vlen a2).bind fun k4 => bif decide (9 < (k4 : Int)) then (some (.bool false, σ)) else ((spec_ObjOk.L0 k k [.box [a1, a2], .v (.int .i64 0)] σ).bind (spec_ObjOk.A0 k)))) := by
  kernel_rfl
theorem spec_ObjOk.L0_step (k m : Nat) (a1 : V) (a2 : V) (n3 : Int) (σ : Heap) : spec_ObjOk.L0 k (m + 1) [.box [a1, a2], .v (.int .i64 n3)] σ = ((vlen a1).bind fun k4 => bif decide (n3 < (k4 : Int)) then ((vidx 2 a1 n3).bind fun p5 => (rdc σ p5.1 (p5.2 + 1) 1).bind fun l6 => uncons l6 fun c7 l8 => castStr c7 fun s9 => isNil l8 <| (hcall G k n_spec_LexName [.str s9] σ).bind fun q10 => castBool q10.1 fun b11 => bif !b11 then (some (.ret, [.box [a1, a2], .v (.bool false)], q10.2)) else ((vidx 2 a1 n3).bind fun p12 => (rdc q10.2 p12.1 (p12.2 + 0) 1).bind fun l13 => uncons l13 fun c14 l15 => castStr c14 fun s16 => isNil l15 <| bif !decide (s16 = (⟨#[]⟩ : ByteArray)) then ((vidx 2 a1 n3).bind fun p17 => (rdc q10.2 p17.1 (p17.2 + 0) 1).bind fun l18 => uncons l18 fun c19 l20 => castStr c19 fun s21 => isNil l20 <| (hcall G k n_spec_LexName [.str s21] q10.2).bind fun q22 => castBool q22.1 fun b23 => bif !b23 then (some (.ret, [.box [a1, a2], .v (.bool false)], q22.2)) else (spec_ObjOk.L0 k m [.box [a1, a2], .v (.int .i64 (IntKind.wrap .i64 (n3 + 1)))] q22.2)) else (spec_ObjOk.L0 k m [.box [a1, a2], .v (.int .i64 (IntKind.wrap .i64 (n3 + 1)))] q10.2))) else (some (.exit 0, [.box [a1, a2], .bot], σ))) := by
  kernel_rfl
theorem spec_ObjOk.A0_x0 (k : Nat) (a1 : V) (a2 : V) (t3 : T) (σ : Heap) : spec_ObjOk.A0 k (.exit 0, [.box [a1, a2], t3], σ) = ((spec_ObjOk.L1 k k [.box [a1, a2], .v (.int .i64 0), .v (.int .i64 0)] σ).bind (spec_ObjOk.A1 k)) := by
  kernel_rfl
theorem spec_ObjOk.A0_ret (k : Nat) (t1 : T) (b2 : Bool) (σ : Heap) : spec_ObjOk.A0 k (.ret, [t1, .v (.bool b2)], σ) = (some (.bool b2, σ)) := by
  kernel_rfl
theorem spec_ObjOk.L1_step (k m : Nat) (a1 : V) (a2 : V) (n3 : Int) (n4 : Int) (σ : Heap) : spec_ObjOk.L1 k (m + 1) [.box [a1, a2], .v (.int .i64 n3), .v (.int .i64 n4)] σ = ((vlen a2).bind fun k5 => bif decide (n4 < (k5 : Int)) then ((vidx 6 a2 n4).bind fun p6 => (rdc σ p6.1 (p6.2 + 5) 1).bind fun l7 => uncons l7 fun c8 l9 => isNil l9 <| (vlen c8).bind fun k10 => (vidx 6 a2 n4).bind fun p11 => (rdc σ p11.1 p11.2 6).bind fun l12 => uncons l12 fun c13 l14 => castStr c13 fun s15 => uncons l14 fun c16 l17 => castBool c16 fun b18 => uncons l17 fun c19 l20 => uncons l20 fun c21 l22 => castInt .i64 c21 fun n23 => uncons l22 fun c24 l25 => castInt .i64 c24 fun n26 => uncons l25 fun c27 l28 => isNil l28 <| (hcall G k n_spec_l8Fun [.agg [.str s15, .bool b18, c19, .int .i64 n23, .int .i64 n26, c27]] σ).bind fun q29 => castBool q29.1 fun b30 => bif !b30 then (some (.ret, [.v (.bool false)], q29.2)) else (bif decide (460 < IntKind.wrap .i64 (n3 + (k10 : Int))) then (some (.ret, [.v (.bool false)], q29.2)) else (spec_ObjOk.L1 k m [.box [a1, a2], .v (.int .i64 (IntKind.wrap .i64 (n3 + (k10 : Int)))), .v (.int .i64 (IntKind.wrap .i64 (n4 + 1)))] q29.2))) else (some (.exit 2, [.bot], σ))) := by
  kernel_rfl
theorem spec_ObjOk.A1_x2 (k : Nat) (t1 : T) (σ : Heap) : spec_ObjOk.A1 k (.exit 2, [t1], σ) = (some (.bool true, σ)) := by
  kernel_rfl
theorem spec_ObjOk.A1_ret (k : Nat) (b1 : Bool) (σ : Heap) : spec_ObjOk.A1 k (.ret, [.v (.bool b1)], σ) = (some (.bool b1, σ)) := by
  kernel_rfl

/-! loop.example/smithy/spec.l9Form: function 68 -/
noncomputable def spec_l9Form.L0 (k : Nat) : Nat → List T → Heap → Option (Ex × List T × Heap) := hloop (hx (G.env n_spec_l9Form k) k 58 (subc (bodyOf Try.f68) [1, 1, 1, 1, 0, 1, 0, 0]) 0) 58 (G.msk n_spec_l9Form 0).1 (G.msk n_spec_l9Form 0).2
noncomputable def spec_l9Form.A0 (k : Nat) : Ex × List T × Heap → Option (V × Heap) := fun r => aft (G.env n_spec_l9Form k) k 58 (bodyOf Try.f68) [1, 1, 1, 1, 0, 1, 0] 0 (ck G.P Try.f68) r.1 (unpick 58 (G.msk n_spec_l9Form 0).2 r.2.1) r.2.2
theorem spec_l9Form.eq (k : Nat) (a1 : V) (n2 : Int) (σ : Heap) : hcall G (k + 1) n_spec_l9Form [a1, .int .i64 n2] σ = ((vidx 3 a1 n2).bind fun p3 => (rdc σ p3.1 (p3.2 + 1) 2).bind fun l4 => uncons l4 fun c5 l6 => uncons l6 fun c7 l8 => isNil l8 <| (hcall G k n_spec_ObjOk [.agg [c5, c7]] σ).bind fun q9 => castBool q9.1 fun b10 => bif !b10 then (some (.agg [.int .i64 2, .int .i64 n2, .int .i64 0], q9.2)) else ((vidx 3 a1 n2).bind fun p11 => (rdc q9.2 p11.1 (p11.2 + 0) 1).bind fun l12 => uncons l12 fun c13 l14 => castStr c13 fun s15 => isNil l14 <| (hcall G k n_spec_LexName [.str s15] q9.2).bind fun q16 => castBool q16.1 fun b17 => bif !b17 then (some (.agg [.int .i64 2, .int .i64 n2, .int .i64 0], q16.2)) else ((vidx 3 a1 n2).bind fun p18 => (rdc q16.2 p18.1 (p18.2 + 0) 1).bind fun l19 => uncons l19 fun c20 l21 => castStr c20 fun s22 => isNil l21 <| (hcall G k n_spec_l9Part [a1, .str s22] q16.2).bind fun q23 => castInt .i64 q23.1 fun n24 => bif decide (n24 < n2) then (some (.agg [.int .i64 3, .int .i64 n2, .int .i64 0], q23.2)) else ((spec_l9Form.L0 k k [.v (.int .i64 n2), .box [.int .i64 0, .int .i64 0, .int .i64 0], .box [c5, c7], .v (.int .i64 0)] q23.2).bind (spec_l9Form.A0 k))))) := by
  kernel_rfl
theorem spec_l9Form.L0_step (k m : Nat) (n1 : Int) (n2 : Int) (n3 : Int) (n4 : Int) (a5 : V) (a6 : V) (n7 : Int) (σ : Heap) : spec_l9Form.L0 k (m + 1) [.v (.int .i64 n1), .box [.int .i64 n2, .int .i64 n3, .int .i64 n4], .box [a5, a6], .v (.int .i64 n7)] σ = ((vlen a6).bind fun k8 => bif decide (n7 < (k8 : Int)) then ((vidx 6 a6 n7).bind fun p9 => (rdc σ p9.1 (p9.2 + 0) 1).bind fun l10 => uncons l10 fun c11 l12 => castStr c11 fun s13 => isNil l12 <| (hcall G k n_spec_l9Fun [.agg [a5, a6], .str s13] σ).bind fun q14 => castInt .i64 q14.1 fun n15 => bif decide (n15 < n7) then (some (.ret, [.box [.int .i64 3, .int .i64 n1, .int .i64 n7]], q14.2)) else (spec_l9Form.L0 k m [.v (.int .i64 n1), .box [.int .i64 n2, .int .i64 n3, .int .i64 n4], .box [a5, a6], .v (.int .i64 (IntKind.wrap .i64 (n7 + 1)))] q14.2)) else (some (.exit 0, [.box [.int .i64 n2, .int .i64 n3, .int .i64 n4]], σ))) := by
  kernel_rfl
theorem spec_l9Form.A0_x0 (k : Nat) (n1 : Int) (n2 : Int) (n3 : Int) (σ : Heap) : spec_l9Form.A0 k (.exit 0, [.box [.int .i64 n1, .int .i64 n2, .int .i64 n3]], σ) = (some (.agg [.int .i64 0, .int .i64 0, .int .i64 0], σ)) := by
  kernel_rfl
theorem spec_l9Form.A0_ret (k : Nat) (n1 : Int) (n2 : Int) (n3 : Int) (σ : Heap) : spec_l9Form.A0 k (.ret, [.box [.int .i64 n1, .int .i64 n2, .int .i64 n3]], σ) = (some (.agg [.int .i64 n1, .int .i64 n2, .int .i64 n3], σ)) := by
  kernel_rfl

/-! loop.example/smithy/spec.l9Ref: function 69 -/
theorem spec_l9Ref.eq (k : Nat) (a1 : V) (n2 : Int) (n3 : Int) (σ : Heap) : hcall G (k + 1) n_spec_l9Ref [a1, .int .i64 n2, .int .i64 n3] σ = ((vidx 3 a1 n2).bind fun p4 => (rdc σ p4.1 (p4.2 + 1 + 0) 1).bind fun l5 => uncons l5 fun c6 l7 => isNil l7 <| (vidx 2 c6 n3).bind fun p8 => (rdc σ p8.1 p8.2 2).bind fun l9 => uncons l9 fun c10 l11 => castStr c10 fun s12 => uncons l11 fun c13 l14 => castStr c13 fun s15 => isNil l14 <| bif !decide (s12 = (⟨#[]⟩ : ByteArray)) then ((hcall G k n_spec_l9Part [a1, .str s12] σ).bind fun q16 => castInt .i64 q16.1 fun n17 => bif decide (0 ≤ n17) then ((vidx 3 a1 n17).bind fun p18 => (rdc q16.2 p18.1 (p18.2 + 1) 2).bind fun l19 => uncons l19 fun c20 l21 => uncons l21 fun c22 l23 => isNil l23 <| (hcall G k n_spec_l9Fun [.agg [c20, c22], .str s15] q16.2).bind fun q24 => castInt .i64 q24.1 fun n25 => bif decide (n25 < 0) then (some (.agg [.int .i64 4, .int .i64 n2, .int .i64 n3], q24.2)) else (bif !decide (s12 = (⟨#[]⟩ : ByteArray)) then ((vidx 3 a1 n17).bind fun p26 => (rdc q24.2 p26.1 (p26.2 + 1 + 1) 1).bind fun l27 => uncons l27 fun c28 l29 => isNil l29 <| (vidx 6 c28 n25).bind fun p30 => (rdc q24.2 p30.1 (p30.2 + 1) 1).bind fun l31 => uncons l31 fun c32 l33 => castBool c32 fun b34 => isNil l33 <| bif !b34 then (some (.agg [.int .i64 5, .int .i64 n2, .int .i64 n3], q24.2)) else (some (.agg [.int .i64 0, .int .i64 0, .int .i64 0], q24.2))) else (some (.agg [.int .i64 0, .int .i64 0, .int .i64 0], q24.2)))) else (bif decide ((-1) < 0) then (some (.agg [.int .i64 4, .int .i64 n2, .int .i64 n3], q16.2)) else (bif !decide (s12 = (⟨#[]⟩ : ByteArray)) then ((vidx 3 a1 n17).bind fun p35 => (rdc q16.2 p35.1 (p35.2 + 1 + 1) 1).bind fun l36 => uncons l36 fun c37 l38 => isNil l38 <| (vidx 6 c37 (-1)).bind fun p39 => (rdc q16.2 p39.1 (p39.2 + 1) 1).bind fun l40 => uncons l40 fun c41 l42 => castBool c41 fun b43 => isNil l42 <| bif !b43 then (some (.agg [.int .i64 5, .int .i64 n2, .int .i64 n3], q16.2)) else (some (.agg [.int .i64 0, .int .i64 0, .int .i64 0], q16.2))) else (some (.agg [.int .i64 0, .int .i64 0, .int .i64 0], q16.2))))) else (bif decide (0 ≤ n2) then ((vidx 3 a1 n2).bind fun p44 => (rdc σ p44.1 (p44.2 + 1) 2).bind fun l45 => uncons l45 fun c46 l47 => uncons l47 fun c48 l49 => isNil l49 <| (hcall G k n_spec_l9Fun [.agg [c46, c48], .str s15] σ).bind fun q50 => castInt .i64 q50.1 fun n51 => bif decide (n51 < 0) then (some (.agg [.int .i64 4, .int .i64 n2, .int .i64 n3], q50.2)) else (bif !decide (s12 = (⟨#[]⟩ : ByteArray)) then ((vidx 3 a1 n2).bind fun p52 => (rdc q50.2 p52.1 (p52.2 + 1 + 1) 1).bind fun l53 => uncons l53 fun c54 l55 => isNil l55 <| (vidx 6 c54 n51).bind fun p56 => (rdc q50.2 p56.1 (p56.2 + 1) 1).bind fun l57 => uncons l57 fun c58 l59 => castBool c58 fun b60 => isNil l59 <| bif !b60 then (some (.agg [.int .i64 5, .int .i64 n2, .int .i64 n3], q50.2)) else (some (.agg [.int .i64 0, .int .i64 0, .int .i64 0], q50.2))) else (some (.agg [.int .i64 0, .int .i64 0, .int .i64 0], q50.2)))) else (bif decide ((-1) < 0) then (some (.agg [.int .i64 4, .int .i64 n2, .int .i64 n3], σ)) else (bif !decide (s12 = (⟨#[]⟩ : ByteArray)) then ((vidx 3 a1 n2).bind fun p61 => (rdc σ p61.1 (p61.2 + 1 + 1) 1).bind fun l62 => uncons l62 fun c63 l64 => isNil l64 <| (vidx 6 c63 (-1)).bind fun p65 => (rdc σ p65.1 (p65.2 + 1) 1).bind fun l66 => uncons l66 fun c67 l68 => castBool c67 fun b69 => isNil l68 <| bif !b69 then (some (.agg [.int .i64 5, .int .i64 n2, .int .i64 n3], σ)) else (some (.agg [.int .i64 0, .int .i64 0, .int .i64 0], σ))) else (some (.agg [.int .i64 0, .int .i64 0, .int .i64 0], σ)))))) := by
  kernel_rfl
end Go.A
