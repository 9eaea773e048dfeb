/- The functions' equations. -/
import Derived.Test.YtjadancpencnnaaEG
namespace Go.A
open Go.HM Go.Proofs
set_option linter.unusedVariables false
set_option maxRecDepth 1000000
set_option maxHeartbeats 4000000

/-! loop.example/smithy/laws.eqStringS: function 14 -/
noncomputable def laws_eqStringS.L0 (k : Nat) : Nat → List T → Heap → Option (Ex × List T × Heap) := hloop (hx (G.env n_laws_eqStringS k) k 26 (subc (bodyOf Try.f14) [1, 1, 0, 1, 0, 0]) 0) 26 (G.msk n_laws_eqStringS 0).1 (G.msk n_laws_eqStringS 0).2
noncomputable def laws_eqStringS.A0 (k : Nat) : Ex × List T × Heap → Option (V × Heap) := fun r => aft (G.env n_laws_eqStringS k) k 26 (bodyOf Try.f14) [1, 1, 0, 1, 0] 0 (ck G.P Try.f14) r.1 (unpick 26 (G.msk n_laws_eqStringS 0).2 r.2.1) r.2.2
theorem laws_eqStringS.eq (k : Nat) (a1 : V) (a2 : V) (σ : Heap) : hcall G (k + 1) n_laws_eqStringS [a1, a2] σ = ((vlen a1).bind fun k3 => (vlen a2).bind fun k4 => bif !decide ((k3 : Int) = (k4 : Int)) then (some (.bool false, σ)) else ((laws_eqStringS.L0 k k [.v a1, .v a2, .v (.int .i64 0)] σ).bind (laws_eqStringS.A0 k))) := by
  kernel_rfl
theorem laws_eqStringS.L0_step (k m : Nat) (a1 : V) (a2 : V) (n3 : Int) (σ : Heap) : laws_eqStringS.L0 k (m + 1) [.v a1, .v a2, .v (.int .i64 n3)] σ = ((vlen a1).bind fun k4 => bif decide (n3 < (k4 : Int)) then ((vidx 1 a1 n3).bind fun p5 => (rdc σ p5.1 p5.2 1).bind fun l6 => uncons l6 fun c7 l8 => castStr c7 fun s9 => isNil l8 <| (vidx 1 a2 n3).bind fun p10 => (rdc σ p10.1 p10.2 1).bind fun l11 => uncons l11 fun c12 l13 => castStr c12 fun s14 => isNil l13 <| bif !decide (s9 = s14) then (some (.ret, [.v (.bool false)], σ)) else (laws_eqStringS.L0 k m [.v a1, .v a2, .v (.int .i64 (IntKind.wrap .i64 (n3 + 1)))] σ)) else (some (.exit 0, [.bot], σ))) := by
  kernel_rfl
theorem laws_eqStringS.A0_x0 (k : Nat) (t1 : T) (σ : Heap) : laws_eqStringS.A0 k (.exit 0, [t1], σ) = (some (.bool true, σ)) := by
  kernel_rfl
theorem laws_eqStringS.A0_ret (k : Nat) (b1 : Bool) (σ : Heap) : laws_eqStringS.A0 k (.ret, [.v (.bool b1)], σ) = (some (.bool b1, σ)) := by
  kernel_rfl

/-! loop.example/smithy/laws.szGraphNode: function 44 -/
theorem laws_szGraphNode.eq (k : Nat) (s1 : ByteArray) (a2 : V) (n3 : Int) (σ : Heap) : hcall G (k + 1) n_laws_szGraphNode [.agg [.str s1, a2], .int .i64 n3] σ = (bif decide (IntKind.wrap .i64 (n3 - (s1.size : Int)) < 0) then (some (.int .i64 (-1), σ)) else ((hcall G k n_laws_szStringS [a2, .int .i64 (IntKind.wrap .i64 (n3 - (s1.size : Int)))] σ).bind fun q4 => castInt .i64 q4.1 fun n5 => bif decide (n5 < 0) then (some (.int .i64 (-1), q4.2)) else (some (.int .i64 n5, q4.2)))) := by
  kernel_rfl

/-! loop.example/smithy/laws.szGraphNodeS: function 15 -/
noncomputable def laws_szGraphNodeS.L0 (k : Nat) : Nat → List T → Heap → Option (Ex × List T × Heap) := hloop (hx (G.env n_laws_szGraphNodeS k) k 27 (subc (bodyOf Try.f15) [1, 1, 1, 0, 1, 0, 0]) 0) 27 (G.msk n_laws_szGraphNodeS 0).1 (G.msk n_laws_szGraphNodeS 0).2
noncomputable def laws_szGraphNodeS.A0 (k : Nat) : Ex × List T × Heap → Option (V × Heap) := fun r => aft (G.env n_laws_szGraphNodeS k) k 27 (bodyOf Try.f15) [1, 1, 1, 0, 1, 0] 0 (ck G.P Try.f15) r.1 (unpick 27 (G.msk n_laws_szGraphNodeS 0).2 r.2.1) r.2.2
theorem laws_szGraphNodeS.eq (k : Nat) (a1 : V) (n2 : Int) (σ : Heap) : hcall G (k + 1) n_laws_szGraphNodeS [a1, .int .i64 n2] σ = ((vlen a1).bind fun k3 => bif decide (IntKind.wrap .i64 (n2 - (k3 : Int)) < 0) then (some (.int .i64 (-1), σ)) else ((laws_szGraphNodeS.L0 k k [.v a1, .v (.int .i64 (IntKind.wrap .i64 (n2 - (k3 : Int)))), .v (.int .i64 0)] σ).bind (laws_szGraphNodeS.A0 k))) := by
  kernel_rfl
theorem laws_szGraphNodeS.L0_step (k m : Nat) (a1 : V) (n2 : Int) (n3 : Int) (σ : Heap) : laws_szGraphNodeS.L0 k (m + 1) [.v a1, .v (.int .i64 n2), .v (.int .i64 n3)] σ = ((vlen a1).bind fun k4 => bif decide (n3 < (k4 : Int)) then ((vidx 2 a1 n3).bind fun p5 => (rdc σ p5.1 p5.2 2).bind fun l6 => uncons l6 fun c7 l8 => castStr c7 fun s9 => uncons l8 fun c10 l11 => isNil l11 <| (hcall G k n_laws_szGraphNode [.agg [.str s9, c10], .int .i64 n2] σ).bind fun q12 => castInt .i64 q12.1 fun n13 => bif decide (n13 < 0) then (some (.ret, [.v (.int .i64 n13), .v (.int .i64 (-1))], q12.2)) else (laws_szGraphNodeS.L0 k m [.v a1, .v (.int .i64 n13), .v (.int .i64 (IntKind.wrap .i64 (n3 + 1)))] q12.2)) else (some (.exit 0, [.v (.int .i64 n2), .bot], σ))) := by
  kernel_rfl
theorem laws_szGraphNodeS.A0_x0 (k : Nat) (n1 : Int) (t2 : T) (σ : Heap) : laws_szGraphNodeS.A0 k (.exit 0, [.v (.int .i64 n1), t2], σ) = (some (.int .i64 n1, σ)) := by
  kernel_rfl
theorem laws_szGraphNodeS.A0_ret (k : Nat) (t1 : T) (n2 : Int) (σ : Heap) : laws_szGraphNodeS.A0 k (.ret, [t1, .v (.int .i64 n2)], σ) = (some (.int .i64 n2, σ)) := by
  kernel_rfl

/-! loop.example/smithy/laws.toGraphNode: function 48 -/
theorem laws_toGraphNode.eq (k : Nat) (s1 : ByteArray) (a2 : V) (σ : Heap) : hcall G (k + 1) n_laws_toGraphNode [.agg [.str s1, a2]] σ = ((hcall G k n_laws_toStringS [a2] σ).bind fun q3 => one q3.1 <| some (.agg [.str s1, q3.1], q3.2)) := by
  kernel_rfl

/-! loop.example/smithy/laws.toGraphNodeS: function 17 -/
noncomputable def laws_toGraphNodeS.L0 (k : Nat) : Nat → List T → Heap → Option (Ex × List T × Heap) := hloop (hx (G.env n_laws_toGraphNodeS k) k 23 (subc (bodyOf Try.f17) [1, 1, 0, 1, 0, 0]) 0) 23 (G.msk n_laws_toGraphNodeS 0).1 (G.msk n_laws_toGraphNodeS 0).2
noncomputable def laws_toGraphNodeS.A0 (k : Nat) : Ex × List T × Heap → Option (V × Heap) := fun r => aft (G.env n_laws_toGraphNodeS k) k 23 (bodyOf Try.f17) [1, 1, 0, 1, 0] 0 (ck G.P Try.f17) r.1 (unpick 23 (G.msk n_laws_toGraphNodeS 0).2 r.2.1) r.2.2
theorem laws_toGraphNodeS.eq (k : Nat) (a1 : V) (σ : Heap) : hcall G (k + 1) n_laws_toGraphNodeS [a1] σ = ((vlen a1).bind fun k2 => if 0 ≤ (k2 : Int) ∧ (k2 : Int) * 40 ≤ 2 ^ 46 ∧ (k2 : Int) ≤ 2 ^ 46 then ((laws_toGraphNodeS.L0 k k [.v a1, .v (.sl σ.length 0 ((k2 : Int) : Int).toNat true), .v (.int .i64 0)] (hnew σ 2 (List.replicate ((k2 : Int) : Int).toNat [.str (⟨#[]⟩ : ByteArray), .nils]).flatten)).bind (laws_toGraphNodeS.A0 k)) else none) := by
  kernel_rfl
theorem laws_toGraphNodeS.L0_step (k m : Nat) (a1 : V) (a2 : V) (n3 : Int) (σ : Heap) : laws_toGraphNodeS.L0 k (m + 1) [.v a1, .v a2, .v (.int .i64 n3)] σ = ((vlen a1).bind fun k4 => bif decide (n3 < (k4 : Int)) then ((vidx 2 a1 n3).bind fun p5 => (rdc σ p5.1 p5.2 2).bind fun l6 => uncons l6 fun c7 l8 => castStr c7 fun s9 => uncons l8 fun c10 l11 => isNil l11 <| (hcall G k n_laws_toGraphNode [.agg [.str s9, c10]] σ).bind fun q12 => castAgg q12.1 fun l13 => uncons l13 fun c14 l15 => castStr c14 fun s16 => uncons l15 fun c17 l18 => isNil l18 <| (vidx 2 a2 n3).bind fun p19 => (wrc q12.2 p19.1 p19.2 [.str s16, c17]).bind fun h20 => laws_toGraphNodeS.L0 k m [.v a1, .v a2, .v (.int .i64 (IntKind.wrap .i64 (n3 + 1)))] h20) else (some (.exit 0, [.bot, .v a2], σ))) := by
  kernel_rfl
theorem laws_toGraphNodeS.A0_x0 (k : Nat) (t1 : T) (a2 : V) (σ : Heap) : laws_toGraphNodeS.A0 k (.exit 0, [t1, .v a2], σ) = (some (a2, σ)) := by
  kernel_rfl

/-! loop.example/smithy/laws.eqGraphNode: function 55 -/
theorem laws_eqGraphNode.eq (k : Nat) (s1 : ByteArray) (a2 : V) (s3 : ByteArray) (a4 : V) (σ : Heap) : hcall G (k + 1) n_laws_eqGraphNode [.agg [.str s1, a2], .agg [.str s3, a4]] σ = (bif !decide (s1 = s3) then (some (.bool false, σ)) else ((hcall G k n_laws_eqStringS [a2, a4] σ).bind fun q5 => castBool q5.1 fun b6 => bif !b6 then (some (.bool false, q5.2)) else (some (.bool true, q5.2)))) := by
  kernel_rfl

/-! loop.example/smithy/laws.eqGraphNodeS: function 19 -/
noncomputable def laws_eqGraphNodeS.L0 (k : Nat) : Nat → List T → Heap → Option (Ex × List T × Heap) := hloop (hx (G.env n_laws_eqGraphNodeS k) k 27 (subc (bodyOf Try.f19) [1, 1, 0, 1, 0, 0]) 0) 27 (G.msk n_laws_eqGraphNodeS 0).1 (G.msk n_laws_eqGraphNodeS 0).2
noncomputable def laws_eqGraphNodeS.A0 (k : Nat) : Ex × List T × Heap → Option (V × Heap) := fun r => aft (G.env n_laws_eqGraphNodeS k) k 27 (bodyOf Try.f19) [1, 1, 0, 1, 0] 0 (ck G.P Try.f19) r.1 (unpick 27 (G.msk n_laws_eqGraphNodeS 0).2 r.2.1) r.2.2
theorem laws_eqGraphNodeS.eq (k : Nat) (a1 : V) (a2 : V) (σ : Heap) : hcall G (k + 1) n_laws_eqGraphNodeS [a1, a2] σ = ((vlen a1).bind fun k3 => (vlen a2).bind fun k4 => bif !decide ((k3 : Int) = (k4 : Int)) then (some (.bool false, σ)) else ((laws_eqGraphNodeS.L0 k k [.v a1, .v a2, .v (.int .i64 0)] σ).bind (laws_eqGraphNodeS.A0 k))) := by
  kernel_rfl
theorem laws_eqGraphNodeS.L0_step (k m : Nat) (a1 : V) (a2 : V) (n3 : Int) (σ : Heap) : laws_eqGraphNodeS.L0 k (m + 1) [.v a1, .v a2, .v (.int .i64 n3)] σ = ((vlen a1).bind fun k4 => bif decide (n3 < (k4 : Int)) then ((vidx 2 a1 n3).bind fun p5 => (rdc σ p5.1 p5.2 2).bind fun l6 => uncons l6 fun c7 l8 => castStr c7 fun s9 => uncons l8 fun c10 l11 => isNil l11 <| (vidx 2 a2 n3).bind fun p12 => (rdc σ p12.1 p12.2 2).bind fun l13 => uncons l13 fun c14 l15 => castStr c14 fun s16 => uncons l15 fun c17 l18 => isNil l18 <| (hcall G k n_laws_eqGraphNode [.agg [.str s9, c10], .agg [.str s16, c17]] σ).bind fun q19 => castBool q19.1 fun b20 => bif !b20 then (some (.ret, [.v (.bool false)], q19.2)) else (laws_eqGraphNodeS.L0 k m [.v a1, .v a2, .v (.int .i64 (IntKind.wrap .i64 (n3 + 1)))] q19.2)) else (some (.exit 0, [.bot], σ))) := by
  kernel_rfl
theorem laws_eqGraphNodeS.A0_x0 (k : Nat) (t1 : T) (σ : Heap) : laws_eqGraphNodeS.A0 k (.exit 0, [t1], σ) = (some (.bool true, σ)) := by
  kernel_rfl
theorem laws_eqGraphNodeS.A0_ret (k : Nat) (b1 : Bool) (σ : Heap) : laws_eqGraphNodeS.A0 k (.ret, [.v (.bool b1)], σ) = (some (.bool b1, σ)) := by
  kernel_rfl

/-! loop.example/smithy/spec.l9Base: function 60 -/
noncomputable def spec_l9Base.L0 (k : Nat) : Nat → List T → Heap → Option (Ex × List T × Heap) := hloop (hx (G.env n_spec_l9Base k) k 22 (subc (bodyOf Try.f60) [1, 1, 0, 1, 0, 0]) 0) 22 (G.msk n_spec_l9Base 0).1 (G.msk n_spec_l9Base 0).2
noncomputable def spec_l9Base.A0 (k : Nat) : Ex × List T × Heap → Option (V × Heap) := fun r => aft (G.env n_spec_l9Base k) k 22 (bodyOf Try.f60) [1, 1, 0, 1, 0] 0 (ck G.P Try.f60) r.1 (unpick 22 (G.msk n_spec_l9Base 0).2 r.2.1) r.2.2
theorem spec_l9Base.eq (k : Nat) (a1 : V) (n2 : Int) (σ : Heap) : hcall G (k + 1) n_spec_l9Base [a1, .int .i64 n2] σ = ((spec_l9Base.L0 k k [.v a1, .v (.int .i64 n2), .v (.int .i64 0), .v (.int .i64 0)] σ).bind (spec_l9Base.A0 k)) := by
  kernel_rfl
theorem spec_l9Base.L0_step (k m : Nat) (a1 : V) (n2 : Int) (n3 : Int) (n4 : Int) (σ : Heap) : spec_l9Base.L0 k (m + 1) [.v a1, .v (.int .i64 n2), .v (.int .i64 n3), .v (.int .i64 n4)] σ = (bif decide (n4 < n2) then ((vidx 3 a1 n4).bind fun p5 => (rdc σ p5.1 (p5.2 + 1 + 1) 1).bind fun l6 => uncons l6 fun c7 l8 => isNil l8 <| (vlen c7).bind fun k9 => spec_l9Base.L0 k m [.v a1, .v (.int .i64 n2), .v (.int .i64 (IntKind.wrap .i64 (n3 + (k9 : Int)))), .v (.int .i64 (IntKind.wrap .i64 (n4 + 1)))] σ) else (some (.exit 0, [.bot, .v (.int .i64 n3)], σ))) := by
  kernel_rfl
theorem spec_l9Base.A0_x0 (k : Nat) (t1 : T) (n2 : Int) (σ : Heap) : spec_l9Base.A0 k (.exit 0, [t1, .v (.int .i64 n2)], σ) = (some (.int .i64 n2, σ)) := by
  kernel_rfl

/-! loop.example/smithy/spec.LinkFind: function 24 -/
theorem spec_LinkFind.eq (k : Nat) (a1 : V) (s2 : ByteArray) (s3 : ByteArray) (σ : Heap) : hcall G (k + 1) n_spec_LinkFind [a1, .str s2, .str s3] σ = ((vlen a1).bind fun k4 => bif decide (8 < (k4 : Int)) then (some (.tuple [.int .i64 0, .bool false], σ)) else ((hcall G k n_spec_l9Part [a1, .str s2] σ).bind fun q5 => castInt .i64 q5.1 fun n6 => bif decide (n6 < 0) then (some (.tuple [.int .i64 0, .bool false], q5.2)) else ((vidx 3 a1 n6).bind fun p7 => (rdc q5.2 p7.1 (p7.2 + 1) 2).bind fun l8 => uncons l8 fun c9 l10 => uncons l10 fun c11 l12 => isNil l12 <| (hcall G k n_spec_l9Fun [.agg [c9, c11], .str s3] q5.2).bind fun q13 => castInt .i64 q13.1 fun n14 => bif decide (n14 < 0) then (some (.tuple [.int .i64 0, .bool false], q13.2)) else ((hcall G k n_spec_l9Base [a1, .int .i64 n6] q13.2).bind fun q15 => castInt .i64 q15.1 fun n16 => some (.tuple [.int .i64 (IntKind.wrap .i64 (n16 + n14)), .bool true], q15.2))))) := by
  kernel_rfl

/-! loop.example/smithy/impl.firstFun: function 64 -/
noncomputable def impl_firstFun.L0 (k : Nat) : Nat → List T → Heap → Option (Ex × List T × Heap) := hloop (hx (G.env n_impl_firstFun k) k 24 (subc (bodyOf Try.f64) [1, 1, 0, 1, 0, 0]) 0) 24 (G.msk n_impl_firstFun 0).1 (G.msk n_impl_firstFun 0).2
noncomputable def impl_firstFun.A0 (k : Nat) : Ex × List T × Heap → Option (V × Heap) := fun r => aft (G.env n_impl_firstFun k) k 24 (bodyOf Try.f64) [1, 1, 0, 1, 0] 0 (ck G.P Try.f64) r.1 (unpick 24 (G.msk n_impl_firstFun 0).2 r.2.1) r.2.2
theorem impl_firstFun.eq (k : Nat) (a1 : V) (n2 : Int) (σ : Heap) : hcall G (k + 1) n_impl_firstFun [a1, .int .i64 n2] σ = ((vslice 3 a1 none (some n2)).bind fun a3 => (vlen a3).bind fun k4 => (impl_firstFun.L0 k k [.v (.int .i64 0), .v a3, .v (.int .i64 (k4 : Int)), .v (.int .i64 0)] σ).bind (impl_firstFun.A0 k)) := by
  kernel_rfl
theorem impl_firstFun.L0_step (k m : Nat) (n1 : Int) (a2 : V) (n3 : Int) (n4 : Int) (σ : Heap) : impl_firstFun.L0 k (m + 1) [.v (.int .i64 n1), .v a2, .v (.int .i64 n3), .v (.int .i64 n4)] σ = (bif decide (n4 < n3) then ((vidx 3 a2 n4).bind fun p5 => (rdc σ p5.1 p5.2 3).bind fun l6 => uncons l6 fun c7 l8 => castStr c7 fun s9 => uncons l8 fun c10 l11 => uncons l11 fun c12 l13 => isNil l13 <| (vlen c12).bind fun k14 => impl_firstFun.L0 k m [.v (.int .i64 (IntKind.wrap .i64 (n1 + (k14 : Int)))), .v a2, .v (.int .i64 n3), .v (.int .i64 (IntKind.wrap .i64 (n4 + 1)))] σ) else (some (.exit 0, [.bot, .v (.int .i64 n1)], σ))) := by
  kernel_rfl
theorem impl_firstFun.A0_x0 (k : Nat) (t1 : T) (n2 : Int) (σ : Heap) : impl_firstFun.A0 k (.exit 0, [t1, .v (.int .i64 n2)], σ) = (some (.int .i64 n2, σ)) := by
  kernel_rfl

/-! loop.example/smithy/impl.LinkFind: function 26 -/
theorem impl_LinkFind.eq (k : Nat) (a1 : V) (s2 : ByteArray) (s3 : ByteArray) (σ : Heap) : hcall G (k + 1) n_impl_LinkFind [a1, .str s2, .str s3] σ = ((hcall G k n_impl_partAt [a1, .str s2] σ).bind fun q4 => castInt .i64 q4.1 fun n5 => (vlen a1).bind fun k6 => bif decide (8 < (k6 : Int)) then (some (.tuple [.int .i64 0, .bool false], q4.2)) else (bif decide (n5 < 0) then (some (.tuple [.int .i64 0, .bool false], q4.2)) else ((vidx 3 a1 n5).bind fun p7 => (rdc q4.2 p7.1 (p7.2 + 1) 2).bind fun l8 => uncons l8 fun c9 l10 => uncons l10 fun c11 l12 => isNil l12 <| (hcall G k n_impl_funIn [.agg [c9, c11], .str s3] q4.2).bind fun q13 => castInt .i64 q13.1 fun n14 => bif decide (n14 < 0) then (some (.tuple [.int .i64 0, .bool false], q13.2)) else ((hcall G k n_impl_firstFun [a1, .int .i64 n5] q13.2).bind fun q15 => castInt .i64 q15.1 fun n16 => some (.tuple [.int .i64 (IntKind.wrap .i64 (n16 + n14)), .bool true], q15.2))))) := by
  kernel_rfl
end Go.A
