/- The functions' equations. -/
import Derived.Test.YtjadancpencnnaaEG
namespace Go.A
open Go.HM Go.Proofs
set_option linter.unusedVariables false
set_option maxRecDepth 1000000
set_option maxHeartbeats 4000000

/-! loop.example/smithy/laws.eqStringS: function 14 -/
noncomputable def laws_eqStringS.L0 (k : Nat) : Nat → List T → Heap → Option (Ex × List T × Heap) := hloop (hx (G.env n_laws_eqStringS k) k 26 (subc (bodyOf Try.f14) [1, 1, 0, 1, 0, 0]) 0) 26 (G.msk n_laws_eqStringS 0).1 (G.msk n_laws_eqStringS 0).2
noncomputable def laws_eqStringS.A0 (k : Nat) : Ex × List T × Heap → Option (V × Heap) := fun r => aft (G.env n_laws_eqStringS k) k 26 (bodyOf Try.f14) [1, 1, 0, 1, 0] 0 (ck G.P Try.f14) r.1 (unpick 26 (G.msk n_laws_eqStringS 0).2 r.2.1) r.2.2
theorem laws_eqStringS.eq (k : Nat) (a1 : V) (a2 : V) (σ : Heap) : hcall G (k + 1) n_laws_eqStringS [a1, a2] σ = ((vlen a1).bind fun k3 => (vlen a2).bind fun k4 => bif !decide ((k3 : Int) = (k4 : Int)) then (some (.bool false, σ)) else ((laws_eqStringS.L0 k k [.v a1, .v a2, .v (.int .i64 0)] σ).bind (laws_eqStringS.A0 k))) := by
  kernel_rfl
theorem laws_eqStringS.L0_step (k m : Nat) (a1 : V) (a2 : V) (n3 : Int) (σ : Heap) : laws_eqStringS.L0 k (m + 1) [.v a1, .v a2, .v (.int .i64 n3)] σ = ((vlen a1).bind fun k4 => bif decide (n3 < (k4 : Int)) then ((vidx 1 a1 n3).bind fun p5 => (rdc σ p5.1 p5.2 1).bind fun l6 => uncons l6 fun c7 l8 => castStr c7 fun s9 => isNil l8 <| (vidx 1 a2 n3).bind fun p10 => (rdc σ p10.1 p10.2 1).bind fun l11 => uncons l11 fun c12 l13 => castStr c12 fun s14 => isNil l13 <| bif !decide (s9 = s14) then (some (.ret, [.v (.bool false)], σ)) else (laws_eqStringS.L0 k m [.v a1, .v a2, .v (.int .i64 (IntKind.wrap .i64 (n3 + 1)))] σ)) else (some (.exit 0, [.bot], σ))) := by
  kernel_rfl
theorem laws_eqStringS.A0_x0 (k : Nat) (t1 : T) (σ : Heap) : laws_eqStringS.A0 k (.exit 0, [t1], σ) = (some (.bool true, σ)) := by
  kernel_rfl
theorem laws_eqStringS.A0_ret (k : Nat) (b1 : Bool) (σ : Heap) : laws_eqStringS.A0 k (.ret, [.v (.bool b1)], σ) = (some (.bool b1, σ)) := by
  kernel_rfl

/-! loop.example/smithy/laws.szStringS: function 10 -/
noncomputable def laws_szStringS.L0 (k : Nat) : Nat → List T → Heap → Option (Ex × List T × Heap) := hloop (hx (G.env n_laws_szStringS k) k 28 (subc (bodyOf Try.f10) [1, 1, 1, 0, 1, 0, 0]) 0) 28 (G.msk n_laws_szStringS 0).1 (G.msk n_laws_szStringS 0).2
noncomputable def laws_szStringS.A0 (k : Nat) : Ex × List T × Heap → Option (V × Heap) := fun r => aft (G.env n_laws_szStringS k) k 28 (bodyOf Try.f10) [1, 1, 1, 0, 1, 0] 0 (ck G.P Try.f10) r.1 (unpick 28 (G.msk n_laws_szStringS 0).2 r.2.1) r.2.2
theorem laws_szStringS.eq (k : Nat) (a1 : V) (n2 : Int) (σ : Heap) : hcall G (k + 1) n_laws_szStringS [a1, .int .i64 n2] σ = ((vlen a1).bind fun k3 => bif decide (IntKind.wrap .i64 (n2 - (k3 : Int)) < 0) then (some (.int .i64 (-1), σ)) else ((laws_szStringS.L0 k k [.v a1, .v (.int .i64 (IntKind.wrap .i64 (n2 - (k3 : Int)))), .v (.int .i64 0)] σ).bind (laws_szStringS.A0 k))) := by
  kernel_rfl
theorem laws_szStringS.L0_step (k m : Nat) (a1 : V) (n2 : Int) (n3 : Int) (σ : Heap) : laws_szStringS.L0 k (m + 1) [.v a1, .v (.int .i64 n2), .v (.int .i64 n3)] σ = ((vlen a1).bind fun k4 => bif decide (n3 < (k4 : Int)) then ((vidx 1 a1 n3).bind fun p5 => (rdc σ p5.1 p5.2 1).bind fun l6 => uncons l6 fun c7 l8 => castStr c7 fun s9 => isNil l8 <| bif decide (IntKind.wrap .i64 (n2 - (s9.size : Int)) < 0) then (some (.ret, [.v (.int .i64 (IntKind.wrap .i64 (n2 - (s9.size : Int)))), .v (.int .i64 (-1))], σ)) else (laws_szStringS.L0 k m [.v a1, .v (.int .i64 (IntKind.wrap .i64 (n2 - (s9.size : Int)))), .v (.int .i64 (IntKind.wrap .i64 (n3 + 1)))] σ)) else (some (.exit 0, [.v (.int .i64 n2), .bot], σ))) := by
  kernel_rfl
theorem laws_szStringS.A0_x0 (k : Nat) (n1 : Int) (t2 : T) (σ : Heap) : laws_szStringS.A0 k (.exit 0, [.v (.int .i64 n1), t2], σ) = (some (.int .i64 n1, σ)) := by
  kernel_rfl
theorem laws_szStringS.A0_ret (k : Nat) (t1 : T) (n2 : Int) (σ : Heap) : laws_szStringS.A0 k (.ret, [t1, .v (.int .i64 n2)], σ) = (some (.int .i64 n2, σ)) := by
  kernel_rfl

/-! loop.example/smithy/laws.szGraphNode: function 44 -/
theorem laws_szGraphNode.eq (k : Nat) (s1 : ByteArray) (a2 : V) (n3 : Int) (σ : Heap) : hcall G (k + 1) n_laws_szGraphNode [.agg [.str s1, a2], .int .i64 n3] σ = (bif decide (IntKind.wrap .i64 (n3 - (s1.size : Int)) < 0) then (some (.int .i64 (-1), σ)) else ((hcall G k n_laws_szStringS [a2, .int .i64 (IntKind.wrap .i64 (n3 - (s1.size : Int)))] σ).bind fun q4 => castInt .i64 q4.1 fun n5 => bif decide (n5 < 0) then (some (.int .i64 (-1), q4.2)) else (some (.int .i64 n5, q4.2)))) := by
  kernel_rfl

/-! loop.example/smithy/laws.szGraphNodeS: function 15 -/
noncomputable def laws_szGraphNodeS.L0 (k : Nat) : Nat → List T → Heap → Option (Ex × List T × Heap) := hloop (hx (G.env n_laws_szGraphNodeS k) k 27 (subc (bodyOf Try.f15) [1, 1, 1, 0, 1, 0, 0]) 0) 27 (G.msk n_laws_szGraphNodeS 0).1 (G.msk n_laws_szGraphNodeS 0).2
noncomputable def laws_szGraphNodeS.A0 (k : Nat) : Ex × List T × Heap → Option (V × Heap) := fun r => aft (G.env n_laws_szGraphNodeS k) k 27 (bodyOf Try.f15) [1, 1, 1, 0, 1, 0] 0 (ck G.P Try.f15) r.1 (unpick 27 (G.msk n_laws_szGraphNodeS 0).2 r.2.1) r.2.2
theorem laws_szGraphNodeS.eq (k : Nat) (a1 : V) (n2 : Int) (σ : Heap) : hcall G (k + 1) n_laws_szGraphNodeS [a1, .int .i64 n2] σ = ((vlen a1).bind fun k3 => bif decide (IntKind.wrap .i64 (n2 - (k3 : Int)) < 0) then (some (.int .i64 (-1), σ)) else ((laws_szGraphNodeS.L0 k k [.v a1, .v (.int .i64 (IntKind.wrap .i64 (n2 - (k3 : Int)))), .v (.int .i64 0)] σ).bind (laws_szGraphNodeS.A0 k))) := by
  kernel_rfl
theorem laws_szGraphNodeS.L0_step (k m : Nat) (a1 : V) (n2 : Int) (n3 : Int) (σ : Heap) : laws_szGraphNodeS.L0 k (m + 1) [.v a1, .v (.int .i64 n2), .v (.int .i64 n3)] σ = ((vlen a1).bind fun k4 => bif decide (n3 < (k4 : Int)) then ((vidx 2 a1 n3).bind fun p5 => (rdc σ p5.1 p5.2 2).bind fun l6 => uncons l6 fun c7 l8 => castStr c7 fun s9 => uncons l8 fun c10 l11 => isNil l11 <| (hcall G k n_laws_szGraphNode [.agg [.str s9, c10], .int .i64 n2] σ).bind fun q12 => castInt .i64 q12.1 fun n13 => bif decide (n13 < 0) then (some (.ret, [.v (.int .i64 n13), .v (.int .i64 (-1))], q12.2)) else (laws_szGraphNodeS.L0 k m [.v a1, .v (.int .i64 n13), .v (.int .i64 (IntKind.wrap .i64 (n3 + 1)))] q12.2)) else (some (.exit 0, [.v (.int .i64 n2), .bot], σ))) := by
  kernel_rfl
theorem laws_szGraphNodeS.A0_x0 (k : Nat) (n1 : Int) (t2 : T) (σ : Heap) : laws_szGraphNodeS.A0 k (.exit 0, [.v (.int .i64 n1), t2], σ) = (some (.int .i64 n1, σ)) := by
  kernel_rfl
theorem laws_szGraphNodeS.A0_ret (k : Nat) (t1 : T) (n2 : Int) (σ : Heap) : laws_szGraphNodeS.A0 k (.ret, [t1, .v (.int .i64 n2)], σ) = (some (.int .i64 n2, σ)) := by
  kernel_rfl

/-! loop.example/smithy/spec.GraphOk: function 45 -/
noncomputable def spec_GraphOk.L0 (k : Nat) : Nat → List T → Heap → Option (Ex × List T × Heap) := hloop (hx (G.env n_spec_GraphOk k) k 38 (subc (bodyOf Try.f45) [1, 1, 0, 1, 0, 0]) 0) 38 (G.msk n_spec_GraphOk 0).1 (G.msk n_spec_GraphOk 0).2
noncomputable def spec_GraphOk.A0 (k : Nat) : Ex × List T × Heap → Option (V × Heap) := fun r => aft (G.env n_spec_GraphOk k) k 38 (bodyOf Try.f45) [1, 1, 0, 1, 0] 0 (ck G.P Try.f45) r.1 (unpick 38 (G.msk n_spec_GraphOk 0).2 r.2.1) r.2.2
theorem spec_GraphOk.eq (k : Nat) (a1 : V) (σ : Heap) : hcall G (k + 1) n_spec_GraphOk [a1] σ = ((vlen a1).bind fun k2 => bif decide (8 < (k2 : Int)) then (some (.bool false, σ)) else ((spec_GraphOk.L0 k k [.v a1, .v (.int .i64 0)] σ).bind (spec_GraphOk.A0 k))) := by
  kernel_rfl
theorem spec_GraphOk.L0_step (k m : Nat) (a1 : V) (n2 : Int) (σ : Heap) : spec_GraphOk.L0 k (m + 1) [.v a1, .v (.int .i64 n2)] σ = ((vlen a1).bind fun k3 => bif decide (n2 < (k3 : Int)) then (bif decide (0 < n2) then ((vidx 2 a1 n2).bind fun p4 => (rdc σ p4.1 (p4.2 + 0) 1).bind fun l5 => uncons l5 fun c6 l7 => castStr c6 fun s8 => isNil l7 <| (vidx 2 a1 (IntKind.wrap .i64 (n2 - 1))).bind fun p9 => (rdc σ p9.1 (p9.2 + 0) 1).bind fun l10 => uncons l10 fun c11 l12 => castStr c11 fun s13 => isNil l12 <| bif !Op.bytesLess s13.toList s8.toList then (some (.ret, [.v (.bool false)], σ)) else ((vidx 2 a1 n2).bind fun p14 => (rdc σ p14.1 (p14.2 + 1) 1).bind fun l15 => uncons l15 fun c16 l17 => isNil l17 <| (vlen c16).bind fun k18 => bif decide (4 < (k18 : Int)) then (some (.ret, [.v (.bool false)], σ)) else (spec_GraphOk.L0 k m [.v a1, .v (.int .i64 (IntKind.wrap .i64 (n2 + 1)))] σ))) else ((vidx 2 a1 n2).bind fun p19 => (rdc σ p19.1 (p19.2 + 1) 1).bind fun l20 => uncons l20 fun c21 l22 => isNil l22 <| (vlen c21).bind fun k23 => bif decide (4 < (k23 : Int)) then (some (.ret, [.v (.bool false)], σ)) else (spec_GraphOk.L0 k m [.v a1, .v (.int .i64 (IntKind.wrap .i64 (n2 + 1)))] σ))) else (some (.exit 0, [.bot], σ))) := by
  kernel_rfl
theorem spec_GraphOk.A0_x0 (k : Nat) (t1 : T) (σ : Heap) : spec_GraphOk.A0 k (.exit 0, [t1], σ) = (some (.bool true, σ)) := by
  kernel_rfl
theorem spec_GraphOk.A0_ret (k : Nat) (b1 : Bool) (σ : Heap) : spec_GraphOk.A0 k (.ret, [.v (.bool b1)], σ) = (some (.bool b1, σ)) := by
  kernel_rfl

/-! loop.example/smithy/spec.l5Has: function 46 -/
noncomputable def spec_l5Has.L0 (k : Nat) : Nat → List T → Heap → Option (Ex × List T × Heap) := hloop (hx (G.env n_spec_l5Has k) k 18 (subc (bodyOf Try.f46) [1, 0, 1, 0, 0]) 0) 18 (G.msk n_spec_l5Has 0).1 (G.msk n_spec_l5Has 0).2
noncomputable def spec_l5Has.A0 (k : Nat) : Ex × List T × Heap → Option (V × Heap) := fun r => aft (G.env n_spec_l5Has k) k 18 (bodyOf Try.f46) [1, 0, 1, 0] 0 (ck G.P Try.f46) r.1 (unpick 18 (G.msk n_spec_l5Has 0).2 r.2.1) r.2.2
theorem spec_l5Has.eq (k : Nat) (a1 : V) (s2 : ByteArray) (σ : Heap) : hcall G (k + 1) n_spec_l5Has [a1, .str s2] σ = ((spec_l5Has.L0 k k [.v a1, .v (.str s2), .v (.int .i64 0)] σ).bind (spec_l5Has.A0 k)) := by
  kernel_rfl
theorem spec_l5Has.L0_step (k m : Nat) (a1 : V) (s2 : ByteArray) (n3 : Int) (σ : Heap) : spec_l5Has.L0 k (m + 1) [.v a1, .v (.str s2), .v (.int .i64 n3)] σ = ((vlen a1).bind fun k4 => bif decide (n3 < (k4 : Int)) then ((vidx 1 a1 n3).bind fun p5 => (rdc σ p5.1 p5.2 1).bind fun l6 => uncons l6 fun c7 l8 => castStr c7 fun s9 => isNil l8 <| bif decide (s9 = s2) then (some (.ret, [.v (.bool true)], σ)) else (spec_l5Has.L0 k m [.v a1, .v (.str s2), .v (.int .i64 (IntKind.wrap .i64 (n3 + 1)))] σ)) else (some (.exit 0, [.bot], σ))) := by
  kernel_rfl
theorem spec_l5Has.A0_x0 (k : Nat) (t1 : T) (σ : Heap) : spec_l5Has.A0 k (.exit 0, [t1], σ) = (some (.bool false, σ)) := by
  kernel_rfl
theorem spec_l5Has.A0_ret (k : Nat) (b1 : Bool) (σ : Heap) : spec_l5Has.A0 k (.ret, [.v (.bool b1)], σ) = (some (.bool b1, σ)) := by
  kernel_rfl

/-! loop.example/smithy/spec.l5Ready: function 47 -/
noncomputable def spec_l5Ready.L0 (k : Nat) : Nat → List T → Heap → Option (Ex × List T × Heap) := hloop (hx (G.env n_spec_l5Ready k) k 21 (subc (bodyOf Try.f47) [1, 0, 1, 0, 0]) 0) 21 (G.msk n_spec_l5Ready 0).1 (G.msk n_spec_l5Ready 0).2
noncomputable def spec_l5Ready.A0 (k : Nat) : Ex × List T × Heap → Option (V × Heap) := fun r => aft (G.env n_spec_l5Ready k) k 21 (bodyOf Try.f47) [1, 0, 1, 0] 0 (ck G.P Try.f47) r.1 (unpick 21 (G.msk n_spec_l5Ready 0).2 r.2.1) r.2.2
theorem spec_l5Ready.eq (k : Nat) (s1 : ByteArray) (a2 : V) (a3 : V) (σ : Heap) : hcall G (k + 1) n_spec_l5Ready [.agg [.str s1, a2], a3] σ = ((spec_l5Ready.L0 k k [.v a3, .box [.str s1, a2], .v (.int .i64 0)] σ).bind (spec_l5Ready.A0 k)) := by
  kernel_rfl
theorem spec_l5Ready.L0_step (k m : Nat) (a1 : V) (s2 : ByteArray) (a3 : V) (n4 : Int) (σ : Heap) : spec_l5Ready.L0 k (m + 1) [.v a1, .box [.str s2, a3], .v (.int .i64 n4)] σ = ((vlen a3).bind fun k5 => bif decide (n4 < (k5 : Int)) then ((vidx 1 a3 n4).bind fun p6 => (rdc σ p6.1 p6.2 1).bind fun l7 => uncons l7 fun c8 l9 => castStr c8 fun s10 => isNil l9 <| (hcall G k n_spec_l5Has [a1, .str s10] σ).bind fun q11 => castBool q11.1 fun b12 => bif !b12 then (some (.ret, [.v (.bool false)], q11.2)) else (spec_l5Ready.L0 k m [.v a1, .box [.str s2, a3], .v (.int .i64 (IntKind.wrap .i64 (n4 + 1)))] q11.2)) else (some (.exit 0, [.bot], σ))) := by
  kernel_rfl
theorem spec_l5Ready.A0_x0 (k : Nat) (t1 : T) (σ : Heap) : spec_l5Ready.A0 k (.exit 0, [t1], σ) = (some (.bool true, σ)) := by
  kernel_rfl
theorem spec_l5Ready.A0_ret (k : Nat) (b1 : Bool) (σ : Heap) : spec_l5Ready.A0 k (.ret, [.v (.bool b1)], σ) = (some (.bool b1, σ)) := by
  kernel_rfl

/-! loop.example/smithy/spec.GraphOrder: function 16 -/
noncomputable def spec_GraphOrder.L1 (k : Nat) : Nat → List T → Heap → Option (Ex × List T × Heap) := hloop (hx (G.env n_spec_GraphOrder k) k 47 (subc (bodyOf Try.f16) [1, 1, 1, 0, 1, 0, 0, 1, 0, 1, 1, 0, 0]) 2) 47 (G.msk n_spec_GraphOrder 2).1 (G.msk n_spec_GraphOrder 2).2
noncomputable def spec_GraphOrder.L0 (k : Nat) : Nat → List T → Heap → Option (Ex × List T × Heap) := hloop (hx (G.env n_spec_GraphOrder k) k 47 (subc (bodyOf Try.f16) [1, 1, 1, 0, 1, 0, 0]) 0) 47 (G.msk n_spec_GraphOrder 0).1 (G.msk n_spec_GraphOrder 0).2
noncomputable def spec_GraphOrder.A0 (k : Nat) : Ex × List T × Heap → Option (V × Heap) := fun r => aft (G.env n_spec_GraphOrder k) k 47 (bodyOf Try.f16) [1, 1, 1, 0, 1, 0] 0 (ck G.P Try.f16) r.1 (unpick 47 (G.msk n_spec_GraphOrder 0).2 r.2.1) r.2.2
noncomputable def spec_GraphOrder.A1 (k m : Nat) : Ex × List T × Heap → Option (Ex × List T × Heap) := fun r => aft (G.env n_spec_GraphOrder k) k 47 (subc (bodyOf Try.f16) [1, 1, 1, 0, 1, 0, 0]) [1, 0, 1, 1, 0] 0 (lk (spec_GraphOrder.L0 k m) (G.msk n_spec_GraphOrder 0).1 (G.msk n_spec_GraphOrder 0).2) r.1 (unpick 47 (G.msk n_spec_GraphOrder 2).2 r.2.1) r.2.2
theorem spec_GraphOrder.eq (k : Nat) (a1 : V) (σ : Heap) : hcall G (k + 1) n_spec_GraphOrder [a1] σ = ((hcall G k n_spec_GraphOk [a1] (hnew σ 1 [])).bind fun q2 => castBool q2.1 fun b3 => bif !b3 then (some ((.sl σ.length 0 0 true), q2.2)) else ((spec_GraphOrder.L0 k k [.v a1, .v (.sl σ.length 0 0 true), .v (.bool true)] q2.2).bind (spec_GraphOrder.A0 k))) := by
  kernel_rfl
theorem spec_GraphOrder.L0_step (k m : Nat) (a1 : V) (a2 : V) (b3 : Bool) (σ : Heap) : spec_GraphOrder.L0 k (m + 1) [.v a1, .v a2, .v (.bool b3)] σ = (bif b3 then ((spec_GraphOrder.L1 k k [.v a1, .v a2, .v (.bool false), .v (.int .i64 0)] σ).bind (spec_GraphOrder.A1 k m)) else (some (.exit 0, [.bot, .v a2], σ))) := by
  kernel_rfl
theorem spec_GraphOrder.A0_x0 (k : Nat) (t1 : T) (a2 : V) (σ : Heap) : spec_GraphOrder.A0 k (.exit 0, [t1, .v a2], σ) = (some (a2, σ)) := by
  kernel_rfl
theorem spec_GraphOrder.L1_step (k m : Nat) (a1 : V) (a2 : V) (b3 : Bool) (n4 : Int) (σ : Heap) : spec_GraphOrder.L1 k (m + 1) [.v a1, .v a2, .v (.bool b3), .v (.int .i64 n4)] σ = ((vlen a1).bind fun k5 => bif decide (n4 < (k5 : Int)) then (bif !b3 then ((vidx 2 a1 n4).bind fun p6 => (rdc σ p6.1 (p6.2 + 0) 1).bind fun l7 => uncons l7 fun c8 l9 => castStr c8 fun s10 => isNil l9 <| (hcall G k n_spec_l5Has [a2, .str s10] σ).bind fun q11 => castBool q11.1 fun b12 => bif !b12 then ((vidx 2 a1 n4).bind fun p13 => (rdc q11.2 p13.1 p13.2 2).bind fun l14 => uncons l14 fun c15 l16 => castStr c15 fun s17 => uncons l16 fun c18 l19 => isNil l19 <| (hcall G k n_spec_l5Ready [.agg [.str s17, c18], a2] q11.2).bind fun q20 => castBool q20.1 fun b21 => bif b21 then ((vidx 2 a1 n4).bind fun p22 => (rdc q20.2 p22.1 (p22.2 + 0) 1).bind fun l23 => uncons l23 fun c24 l25 => castStr c24 fun s26 => isNil l25 <| (vappend 1 16 q20.2 a2 1 [.str s26]).bind fun q27 => spec_GraphOrder.L1 k m [.v a1, .v q27.1, .v (.bool true), .v (.int .i64 (IntKind.wrap .i64 (n4 + 1)))] q27.2) else (spec_GraphOrder.L1 k m [.v a1, .v a2, .v (.bool b3), .v (.int .i64 (IntKind.wrap .i64 (n4 + 1)))] q20.2)) else (spec_GraphOrder.L1 k m [.v a1, .v a2, .v (.bool b3), .v (.int .i64 (IntKind.wrap .i64 (n4 + 1)))] q11.2)) else (some (.exit 2, [.v a1, .bot, .v a2, .v (.bool b3)], σ))) else (some (.exit 2, [.v a1, .bot, .v a2, .v (.bool b3)], σ))) := by
  kernel_rfl
theorem spec_GraphOrder.A1_x2 (k m : Nat) (a1 : V) (t2 : T) (a3 : V) (b4 : Bool) (σ : Heap) : spec_GraphOrder.A1 k m (.exit 2, [.v a1, t2, .v a3, .v (.bool b4)], σ) = (spec_GraphOrder.L0 k m [.v a1, .v a3, .v (.bool b4)] σ) := by
  kernel_rfl

/-! loop.example/smithy/laws.toStringS: function 12 -/
noncomputable def laws_toStringS.L0 (k : Nat) : Nat → List T → Heap → Option (Ex × List T × Heap) := hloop (hx (G.env n_laws_toStringS k) k 22 (subc (bodyOf Try.f12) [1, 1, 0, 1, 0, 0]) 0) 22 (G.msk n_laws_toStringS 0).1 (G.msk n_laws_toStringS 0).2
noncomputable def laws_toStringS.A0 (k : Nat) : Ex × List T × Heap → Option (V × Heap) := fun r => aft (G.env n_laws_toStringS k) k 22 (bodyOf Try.f12) [1, 1, 0, 1, 0] 0 (ck G.P Try.f12) r.1 (unpick 22 (G.msk n_laws_toStringS 0).2 r.2.1) r.2.2
theorem laws_toStringS.eq (k : Nat) (a1 : V) (σ : Heap) : hcall G (k + 1) n_laws_toStringS [a1] σ = ((vlen a1).bind fun k2 => if 0 ≤ (k2 : Int) ∧ (k2 : Int) * 16 ≤ 2 ^ 46 ∧ (k2 : Int) ≤ 2 ^ 46 then ((laws_toStringS.L0 k k [.v a1, .v (.sl σ.length 0 ((k2 : Int) : Int).toNat true), .v (.int .i64 0)] (hnew σ 1 (List.replicate ((k2 : Int) : Int).toNat [.str (⟨#[]⟩ : ByteArray)]).flatten)).bind (laws_toStringS.A0 k)) else none) := by
  kernel_rfl
theorem laws_toStringS.L0_step (k m : Nat) (a1 : V) (a2 : V) (n3 : Int) (σ : Heap) : laws_toStringS.L0 k (m + 1) [.v a1, .v a2, .v (.int .i64 n3)] σ = ((vlen a1).bind fun k4 => bif decide (n3 < (k4 : Int)) then ((vidx 1 a1 n3).bind fun p5 => (rdc σ p5.1 p5.2 1).bind fun l6 => uncons l6 fun c7 l8 => castStr c7 fun s9 => isNil l8 <| (vidx 1 a2 n3).bind fun p10 => (wrc σ p10.1 p10.2 [.str s9]).bind fun h11 => laws_toStringS.L0 k m [.v a1, .v a2, .v (.int .i64 (IntKind.wrap .i64 (n3 + 1)))] h11) else (some (.exit 0, [.bot, .v a2], σ))) := by
  kernel_rfl
theorem laws_toStringS.A0_x0 (k : Nat) (t1 : T) (a2 : V) (σ : Heap) : laws_toStringS.A0 k (.exit 0, [t1, .v a2], σ) = (some (a2, σ)) := by
  kernel_rfl

/-! loop.example/smithy/laws.toGraphNode: function 48 -/
theorem laws_toGraphNode.eq (k : Nat) (s1 : ByteArray) (a2 : V) (σ : Heap) : hcall G (k + 1) n_laws_toGraphNode [.agg [.str s1, a2]] σ = ((hcall G k n_laws_toStringS [a2] σ).bind fun q3 => one q3.1 <| some (.agg [.str s1, q3.1], q3.2)) := by
  kernel_rfl

/-! loop.example/smithy/laws.toGraphNodeS: function 17 -/
noncomputable def laws_toGraphNodeS.L0 (k : Nat) : Nat → List T → Heap → Option (Ex × List T × Heap) := hloop (hx (G.env n_laws_toGraphNodeS k) k 23 (subc (bodyOf Try.f17) [1, 1, 0, 1, 0, 0]) 0) 23 (G.msk n_laws_toGraphNodeS 0).1 (G.msk n_laws_toGraphNodeS 0).2
noncomputable def laws_toGraphNodeS.A0 (k : Nat) : Ex × List T × Heap → Option (V × Heap) := fun r => aft (G.env n_laws_toGraphNodeS k) k 23 (bodyOf Try.f17) [1, 1, 0, 1, 0] 0 (ck G.P Try.f17) r.1 (unpick 23 (G.msk n_laws_toGraphNodeS 0).2 r.2.1) r.2.2
theorem laws_toGraphNodeS.eq (k : Nat) (a1 : V) (σ : Heap) : hcall G (k + 1) n_laws_toGraphNodeS [a1] σ = ((vlen a1).bind fun k2 => if 0 ≤ (k2 : Int) ∧ (k2 : Int) * 40 ≤ 2 ^ 46 ∧ (k2 : Int) ≤ 2 ^ 46 then ((laws_toGraphNodeS.L0 k k [.v a1, .v (.sl σ.length 0 ((k2 : Int) : Int).toNat true), .v (.int .i64 0)] (hnew σ 2 (List.replicate ((k2 : Int) : Int).toNat [.str (⟨#[]⟩ : ByteArray), .nils]).flatten)).bind (laws_toGraphNodeS.A0 k)) else none) := by
  kernel_rfl
theorem laws_toGraphNodeS.L0_step (k m : Nat) (a1 : V) (a2 : V) (n3 : Int) (σ : Heap) : laws_toGraphNodeS.L0 k (m + 1) [.v a1, .v a2, .v (.int .i64 n3)] σ = ((vlen a1).bind fun k4 => bif decide (n3 < (k4 : Int)) then ((vidx 2 a1 n3).bind fun p5 => (rdc σ p5.1 p5.2 2).bind fun l6 => uncons l6 fun c7 l8 => castStr c7 fun s9 => uncons l8 fun c10 l11 => isNil l11 <| (hcall G k n_laws_toGraphNode [.agg [.str s9, c10]] σ).bind fun q12 => castAgg q12.1 fun l13 => uncons l13 fun c14 l15 => castStr c14 fun s16 => uncons l15 fun c17 l18 => isNil l18 <| (vidx 2 a2 n3).bind fun p19 => (wrc q12.2 p19.1 p19.2 [.str s16, c17]).bind fun h20 => laws_toGraphNodeS.L0 k m [.v a1, .v a2, .v (.int .i64 (IntKind.wrap .i64 (n3 + 1)))] h20) else (some (.exit 0, [.bot, .v a2], σ))) := by
  kernel_rfl
theorem laws_toGraphNodeS.A0_x0 (k : Nat) (t1 : T) (a2 : V) (σ : Heap) : laws_toGraphNodeS.A0 k (.exit 0, [t1, .v a2], σ) = (some (a2, σ)) := by
  kernel_rfl

/-! loop.example/smithy/impl.GraphOk: function 49 -/
noncomputable def impl_GraphOk.L0 (k : Nat) : Nat → List T → Heap → Option (Ex × List T × Heap) := hloop (hx (G.env n_impl_GraphOk k) k 35 (subc (bodyOf Try.f49) [1, 0, 1, 0, 0]) 0) 35 (G.msk n_impl_GraphOk 0).1 (G.msk n_impl_GraphOk 0).2
noncomputable def impl_GraphOk.A0 (k : Nat) : Ex × List T × Heap → Option (V × Heap) := fun r => aft (G.env n_impl_GraphOk k) k 35 (bodyOf Try.f49) [1, 0, 1, 0] 0 (ck G.P Try.f49) r.1 (unpick 35 (G.msk n_impl_GraphOk 0).2 r.2.1) r.2.2
theorem impl_GraphOk.eq (k : Nat) (a1 : V) (σ : Heap) : hcall G (k + 1) n_impl_GraphOk [a1] σ = ((vlen a1).bind fun k2 => (impl_GraphOk.L0 k k [.v a1, .v a1, .v (.int .i64 (k2 : Int)), .v (.int .i64 0)] σ).bind (impl_GraphOk.A0 k)) := by
  kernel_rfl
theorem impl_GraphOk.L0_step (k m : Nat) (a1 : V) (a2 : V) (n3 : Int) (n4 : Int) (σ : Heap) : impl_GraphOk.L0 k (m + 1) [.v a1, .v a2, .v (.int .i64 n3), .v (.int .i64 n4)] σ = (bif decide (n4 < n3) then ((vidx 2 a2 n4).bind fun p5 => (rdc σ p5.1 p5.2 2).bind fun l6 => uncons l6 fun c7 l8 => castStr c7 fun s9 => uncons l8 fun c10 l11 => isNil l11 <| (vlen c10).bind fun k12 => bif decide (4 < (k12 : Int)) then (some (.ret, [.v a1, .v (.bool false)], σ)) else (bif decide (0 < n4) then ((vidx 2 a1 (IntKind.wrap .i64 (n4 - 1))).bind fun p13 => (rdc σ p13.1 (p13.2 + 0) 1).bind fun l14 => uncons l14 fun c15 l16 => castStr c15 fun s17 => isNil l16 <| bif !Op.bytesLess s17.toList s9.toList then (some (.ret, [.v a1, .v (.bool false)], σ)) else (impl_GraphOk.L0 k m [.v a1, .v a2, .v (.int .i64 n3), .v (.int .i64 (IntKind.wrap .i64 (n4 + 1)))] σ)) else (impl_GraphOk.L0 k m [.v a1, .v a2, .v (.int .i64 n3), .v (.int .i64 (IntKind.wrap .i64 (n4 + 1)))] σ))) else (some (.exit 0, [.v a1, .bot], σ))) := by
  kernel_rfl
theorem impl_GraphOk.A0_x0 (k : Nat) (a1 : V) (t2 : T) (σ : Heap) : impl_GraphOk.A0 k (.exit 0, [.v a1, t2], σ) = ((vlen a1).bind fun k3 => some (.bool (decide ((k3 : Int) ≤ 8)), σ)) := by
  kernel_rfl
theorem impl_GraphOk.A0_ret (k : Nat) (t1 : T) (b2 : Bool) (σ : Heap) : impl_GraphOk.A0 k (.ret, [t1, .v (.bool b2)], σ) = (some (.bool b2, σ)) := by
  kernel_rfl

/-! slices.IndexFunc[[]loop.example/smithy/impl.GraphNode,loop.example/smithy/impl.GraphNode]: function 50 -/
noncomputable def slices_IndexFunc_impl_GraphNode_impl_GraphNode.L0 (k : Nat) : Nat → List T → Heap → Option (Ex × List T × Heap) := hloop (hx (G.env n_slices_IndexFunc_impl_GraphNode_impl_GraphNode k) k 19 (subc (bodyOf Try.f50) [1, 0, 1, 0, 0]) 0) 19 (G.msk n_slices_IndexFunc_impl_GraphNode_impl_GraphNode 0).1 (G.msk n_slices_IndexFunc_impl_GraphNode_impl_GraphNode 0).2
noncomputable def slices_IndexFunc_impl_GraphNode_impl_GraphNode.A0 (k : Nat) : Ex × List T × Heap → Option (V × Heap) := fun r => aft (G.env n_slices_IndexFunc_impl_GraphNode_impl_GraphNode k) k 19 (bodyOf Try.f50) [1, 0, 1, 0] 0 (ck G.P Try.f50) r.1 (unpick 19 (G.msk n_slices_IndexFunc_impl_GraphNode_impl_GraphNode 0).2 r.2.1) r.2.2
theorem slices_IndexFunc_impl_GraphNode_impl_GraphNode.eq (k : Nat) (a1 : V) (a2 : V) (σ : Heap) : hcall G (k + 1) n_slices_IndexFunc_impl_GraphNode_impl_GraphNode [a1, a2] σ = ((vlen a1).bind fun k3 => (slices_IndexFunc_impl_GraphNode_impl_GraphNode.L0 k k [.v a1, .v a2, .v (.int .i64 (k3 : Int)), .v (.int .i64 0)] σ).bind (slices_IndexFunc_impl_GraphNode_impl_GraphNode.A0 k)) := by
  kernel_rfl
theorem slices_IndexFunc_impl_GraphNode_impl_GraphNode.L0_step (k m : Nat) (a1 : V) (a2 : V) (n3 : Int) (n4 : Int) (σ : Heap) : slices_IndexFunc_impl_GraphNode_impl_GraphNode.L0 k (m + 1) [.v a1, .v a2, .v (.int .i64 n3), .v (.int .i64 n4)] σ = (bif decide (n4 < n3) then ((vidx 2 a1 n4).bind fun p5 => (rdc σ p5.1 p5.2 2).bind fun l6 => uncons l6 fun c7 l8 => castStr c7 fun s9 => uncons l8 fun c10 l11 => isNil l11 <| castFn a2 fun f13 l14 => (hcall G k f13 ([.agg [.str s9, c10]] ++ l14) σ).bind fun q12 => castBool q12.1 fun b15 => bif b15 then (some (.ret, [.v (.int .i64 n4)], q12.2)) else (slices_IndexFunc_impl_GraphNode_impl_GraphNode.L0 k m [.v a1, .v a2, .v (.int .i64 n3), .v (.int .i64 (IntKind.wrap .i64 (n4 + 1)))] q12.2)) else (some (.exit 0, [.bot], σ))) := by
  kernel_rfl
theorem slices_IndexFunc_impl_GraphNode_impl_GraphNode.A0_x0 (k : Nat) (t1 : T) (σ : Heap) : slices_IndexFunc_impl_GraphNode_impl_GraphNode.A0 k (.exit 0, [t1], σ) = (some (.int .i64 (-1), σ)) := by
  kernel_rfl
theorem slices_IndexFunc_impl_GraphNode_impl_GraphNode.A0_ret (k : Nat) (n1 : Int) (σ : Heap) : slices_IndexFunc_impl_GraphNode_impl_GraphNode.A0 k (.ret, [.v (.int .i64 n1)], σ) = (some (.int .i64 n1, σ)) := by
  kernel_rfl

/-! slices.Index[[]string,string]: function 83 -/
noncomputable def slices_Index_string_string.L0 (k : Nat) : Nat → List T → Heap → Option (Ex × List T × Heap) := hloop (hx (G.env n_slices_Index_string_string k) k 19 (subc (bodyOf Try.f83) [1, 0, 1, 0, 0]) 0) 19 (G.msk n_slices_Index_string_string 0).1 (G.msk n_slices_Index_string_string 0).2
noncomputable def slices_Index_string_string.A0 (k : Nat) : Ex × List T × Heap → Option (V × Heap) := fun r => aft (G.env n_slices_Index_string_string k) k 19 (bodyOf Try.f83) [1, 0, 1, 0] 0 (ck G.P Try.f83) r.1 (unpick 19 (G.msk n_slices_Index_string_string 0).2 r.2.1) r.2.2
theorem slices_Index_string_string.eq (k : Nat) (a1 : V) (s2 : ByteArray) (σ : Heap) : hcall G (k + 1) n_slices_Index_string_string [a1, .str s2] σ = ((vlen a1).bind fun k3 => (slices_Index_string_string.L0 k k [.v a1, .v (.str s2), .v (.int .i64 (k3 : Int)), .v (.int .i64 0)] σ).bind (slices_Index_string_string.A0 k)) := by
  kernel_rfl
theorem slices_Index_string_string.L0_step (k m : Nat) (a1 : V) (s2 : ByteArray) (n3 : Int) (n4 : Int) (σ : Heap) : slices_Index_string_string.L0 k (m + 1) [.v a1, .v (.str s2), .v (.int .i64 n3), .v (.int .i64 n4)] σ = (bif decide (n4 < n3) then ((vidx 1 a1 n4).bind fun p5 => (rdc σ p5.1 p5.2 1).bind fun l6 => uncons l6 fun c7 l8 => castStr c7 fun s9 => isNil l8 <| bif decide (s2 = s9) then (some (.ret, [.v (.int .i64 n4)], σ)) else (slices_Index_string_string.L0 k m [.v a1, .v (.str s2), .v (.int .i64 n3), .v (.int .i64 (IntKind.wrap .i64 (n4 + 1)))] σ)) else (some (.exit 0, [.bot], σ))) := by
  kernel_rfl
theorem slices_Index_string_string.A0_x0 (k : Nat) (t1 : T) (σ : Heap) : slices_Index_string_string.A0 k (.exit 0, [t1], σ) = (some (.int .i64 (-1), σ)) := by
  kernel_rfl
theorem slices_Index_string_string.A0_ret (k : Nat) (n1 : Int) (σ : Heap) : slices_Index_string_string.A0 k (.ret, [.v (.int .i64 n1)], σ) = (some (.int .i64 n1, σ)) := by
  kernel_rfl

/-! slices.Contains[[]string,string]: function 52 -/
theorem slices_Contains_string_string.eq (k : Nat) (a1 : V) (s2 : ByteArray) (σ : Heap) : hcall G (k + 1) n_slices_Contains_string_string [a1, .str s2] σ = ((hcall G k n_slices_Index_string_string [a1, .str s2] σ).bind fun q3 => castInt .i64 q3.1 fun n4 => some (.bool (decide (0 ≤ n4)), q3.2)) := by
  kernel_rfl

/-! slices.IndexFunc[[]string,string]: function 84 -/
noncomputable def slices_IndexFunc_string_string.L0 (k : Nat) : Nat → List T → Heap → Option (Ex × List T × Heap) := hloop (hx (G.env n_slices_IndexFunc_string_string k) k 19 (subc (bodyOf Try.f84) [1, 0, 1, 0, 0]) 0) 19 (G.msk n_slices_IndexFunc_string_string 0).1 (G.msk n_slices_IndexFunc_string_string 0).2
noncomputable def slices_IndexFunc_string_string.A0 (k : Nat) : Ex × List T × Heap → Option (V × Heap) := fun r => aft (G.env n_slices_IndexFunc_string_string k) k 19 (bodyOf Try.f84) [1, 0, 1, 0] 0 (ck G.P Try.f84) r.1 (unpick 19 (G.msk n_slices_IndexFunc_string_string 0).2 r.2.1) r.2.2
theorem slices_IndexFunc_string_string.eq (k : Nat) (a1 : V) (a2 : V) (σ : Heap) : hcall G (k + 1) n_slices_IndexFunc_string_string [a1, a2] σ = ((vlen a1).bind fun k3 => (slices_IndexFunc_string_string.L0 k k [.v a1, .v a2, .v (.int .i64 (k3 : Int)), .v (.int .i64 0)] σ).bind (slices_IndexFunc_string_string.A0 k)) := by
  kernel_rfl
theorem slices_IndexFunc_string_string.L0_step (k m : Nat) (a1 : V) (a2 : V) (n3 : Int) (n4 : Int) (σ : Heap) : slices_IndexFunc_string_string.L0 k (m + 1) [.v a1, .v a2, .v (.int .i64 n3), .v (.int .i64 n4)] σ = (bif decide (n4 < n3) then ((vidx 1 a1 n4).bind fun p5 => (rdc σ p5.1 p5.2 1).bind fun l6 => uncons l6 fun c7 l8 => castStr c7 fun s9 => isNil l8 <| castFn a2 fun f11 l12 => (hcall G k f11 ([.str s9] ++ l12) σ).bind fun q10 => castBool q10.1 fun b13 => bif b13 then (some (.ret, [.v (.int .i64 n4)], q10.2)) else (slices_IndexFunc_string_string.L0 k m [.v a1, .v a2, .v (.int .i64 n3), .v (.int .i64 (IntKind.wrap .i64 (n4 + 1)))] q10.2)) else (some (.exit 0, [.bot], σ))) := by
  kernel_rfl
theorem slices_IndexFunc_string_string.A0_x0 (k : Nat) (t1 : T) (σ : Heap) : slices_IndexFunc_string_string.A0 k (.exit 0, [t1], σ) = (some (.int .i64 (-1), σ)) := by
  kernel_rfl
theorem slices_IndexFunc_string_string.A0_ret (k : Nat) (n1 : Int) (σ : Heap) : slices_IndexFunc_string_string.A0 k (.ret, [.v (.int .i64 n1)], σ) = (some (.int .i64 n1, σ)) := by
  kernel_rfl

/-! slices.ContainsFunc[[]string,string]: function 53 -/
theorem slices_ContainsFunc_string_string.eq (k : Nat) (a1 : V) (a2 : V) (σ : Heap) : hcall G (k + 1) n_slices_ContainsFunc_string_string [a1, a2] σ = ((hcall G k n_slices_IndexFunc_string_string [a1, a2] σ).bind fun q3 => castInt .i64 q3.1 fun n4 => some (.bool (decide (0 ≤ n4)), q3.2)) := by
  kernel_rfl

/-! loop.example/smithy/impl.GraphOrder$1$1: function 54 -/
theorem impl_GraphOrder_1_1.eq (k : Nat) (s1 : ByteArray) (a2 : V) (σ : Heap) : hcall G (k + 1) n_impl_GraphOrder_1_1 [.str s1, a2] σ = (castPtr a2 fun r3 o4 => (rdc σ r3 o4 1).bind fun l5 => uncons l5 fun c6 l7 => isNil l7 <| (hcall G k n_slices_Contains_string_string [c6, .str s1] σ).bind fun q8 => castBool q8.1 fun b9 => some (.bool (!b9), q8.2)) := by
  kernel_rfl

/-! loop.example/smithy/impl.GraphOrder$1: function 51 -/
theorem impl_GraphOrder_1.eq (k : Nat) (s1 : ByteArray) (a2 : V) (a3 : V) (σ : Heap) : hcall G (k + 1) n_impl_GraphOrder_1 [.agg [.str s1, a2], a3] σ = (castPtr a3 fun r4 o5 => (rdc σ r4 o5 1).bind fun l6 => uncons l6 fun c7 l8 => isNil l8 <| (hcall G k n_slices_Contains_string_string [c7, .str s1] σ).bind fun q9 => castBool q9.1 fun b10 => bif !b10 then ((hcall G k n_slices_ContainsFunc_string_string [a2, .fn n_impl_GraphOrder_1_1 [a3]] q9.2).bind fun q11 => castBool q11.1 fun b12 => some (.bool (!b12), q11.2)) else (some (.bool false, q9.2))) := by
  kernel_rfl

/-! loop.example/smithy/impl.GraphOrder: function 18 -/
noncomputable def impl_GraphOrder.L0 (k : Nat) : Nat → List T → Heap → Option (Ex × List T × Heap) := hloop (hx (G.env n_impl_GraphOrder k) k 23 (subc (bodyOf Try.f18) [1, 1, 1, 0, 0]) 0) 23 (G.msk n_impl_GraphOrder 0).1 (G.msk n_impl_GraphOrder 0).2
noncomputable def impl_GraphOrder.A0 (k : Nat) : Ex × List T × Heap → Option (V × Heap) := fun r => aft (G.env n_impl_GraphOrder k) k 23 (bodyOf Try.f18) [1, 1, 1, 0] 0 (ck G.P Try.f18) r.1 (unpick 23 (G.msk n_impl_GraphOrder 0).2 r.2.1) r.2.2
theorem impl_GraphOrder.eq (k : Nat) (a1 : V) (σ : Heap) : hcall G (k + 1) n_impl_GraphOrder [a1] σ = ((hcall G k n_impl_GraphOk [a1] σ).bind fun q2 => castBool q2.1 fun b3 => bif !b3 then (some (.nils, q2.2)) else ((wrc (hnew (hnew q2.2 1 []) 1 [.nils]) ((hnew q2.2 1 []).length) 0 [(.sl q2.2.length 0 0 true)]).bind fun h4 => (impl_GraphOrder.L0 k k [.v a1, .v (.ptr ((hnew q2.2 1 []).length) 0)] h4).bind (impl_GraphOrder.A0 k))) := by
  kernel_rfl
theorem impl_GraphOrder.L0_step (k m : Nat) (a1 : V) (a2 : V) (σ : Heap) : impl_GraphOrder.L0 k (m + 1) [.v a1, .v a2] σ = ((hcall G k n_slices_IndexFunc_impl_GraphNode_impl_GraphNode [a1, .fn n_impl_GraphOrder_1 [a2]] σ).bind fun q3 => castInt .i64 q3.1 fun n4 => bif decide (n4 < 0) then (castPtr a2 fun r5 o6 => (rdc q3.2 r5 o6 1).bind fun l7 => uncons l7 fun c8 l9 => isNil l9 <| some (.ret, [.v c8], q3.2)) else (castPtr a2 fun r10 o11 => castPtr a2 fun r12 o13 => (rdc q3.2 r12 o13 1).bind fun l14 => uncons l14 fun c15 l16 => isNil l16 <| (vidx 2 a1 n4).bind fun p17 => (rdc q3.2 p17.1 (p17.2 + 0) 1).bind fun l18 => uncons l18 fun c19 l20 => castStr c19 fun s21 => isNil l20 <| (vappend 1 16 (unprot [r10] q3.2 (prot [r10] q3.2)) c15 1 [.str s21]).bind fun q22 => one q22.1 <| castPtr a2 fun r23 o24 => (wrc q22.2 r23 o24 [q22.1]).bind fun h25 => impl_GraphOrder.L0 k m [.v a1, .v a2] h25)) := by
  kernel_rfl
theorem impl_GraphOrder.A0_ret (k : Nat) (a1 : V) (σ : Heap) : impl_GraphOrder.A0 k (.ret, [.v a1], σ) = (some (a1, σ)) := by
  kernel_rfl

/-! loop.example/smithy/laws.eqGraphNode: function 55 -/
theorem laws_eqGraphNode.eq (k : Nat) (s1 : ByteArray) (a2 : V) (s3 : ByteArray) (a4 : V) (σ : Heap) : hcall G (k + 1) n_laws_eqGraphNode [.agg [.str s1, a2], .agg [.str s3, a4]] σ = (bif !decide (s1 = s3) then (some (.bool false, σ)) else ((hcall G k n_laws_eqStringS [a2, a4] σ).bind fun q5 => castBool q5.1 fun b6 => bif !b6 then (some (.bool false, q5.2)) else (some (.bool true, q5.2)))) := by
  kernel_rfl

/-! loop.example/smithy/laws.eqGraphNodeS: function 19 -/
noncomputable def laws_eqGraphNodeS.L0 (k : Nat) : Nat → List T → Heap → Option (Ex × List T × Heap) := hloop (hx (G.env n_laws_eqGraphNodeS k) k 27 (subc (bodyOf Try.f19) [1, 1, 0, 1, 0, 0]) 0) 27 (G.msk n_laws_eqGraphNodeS 0).1 (G.msk n_laws_eqGraphNodeS 0).2
noncomputable def laws_eqGraphNodeS.A0 (k : Nat) : Ex × List T × Heap → Option (V × Heap) := fun r => aft (G.env n_laws_eqGraphNodeS k) k 27 (bodyOf Try.f19) [1, 1, 0, 1, 0] 0 (ck G.P Try.f19) r.1 (unpick 27 (G.msk n_laws_eqGraphNodeS 0).2 r.2.1) r.2.2
theorem laws_eqGraphNodeS.eq (k : Nat) (a1 : V) (a2 : V) (σ : Heap) : hcall G (k + 1) n_laws_eqGraphNodeS [a1, a2] σ = ((vlen a1).bind fun k3 => (vlen a2).bind fun k4 => bif !decide ((k3 : Int) = (k4 : Int)) then (some (.bool false, σ)) else ((laws_eqGraphNodeS.L0 k k [.v a1, .v a2, .v (.int .i64 0)] σ).bind (laws_eqGraphNodeS.A0 k))) := by
  kernel_rfl
theorem laws_eqGraphNodeS.L0_step (k m : Nat) (a1 : V) (a2 : V) (n3 : Int) (σ : Heap) : laws_eqGraphNodeS.L0 k (m + 1) [.v a1, .v a2, .v (.int .i64 n3)] σ = ((vlen a1).bind fun k4 => bif decide (n3 < (k4 : Int)) then ((vidx 2 a1 n3).bind fun p5 => (rdc σ p5.1 p5.2 2).bind fun l6 => uncons l6 fun c7 l8 => castStr c7 fun s9 => uncons l8 fun c10 l11 => isNil l11 <| (vidx 2 a2 n3).bind fun p12 => (rdc σ p12.1 p12.2 2).bind fun l13 => uncons l13 fun c14 l15 => castStr c14 fun s16 => uncons l15 fun c17 l18 => isNil l18 <| (hcall G k n_laws_eqGraphNode [.agg [.str s9, c10], .agg [.str s16, c17]] σ).bind fun q19 => castBool q19.1 fun b20 => bif !b20 then (some (.ret, [.v (.bool false)], q19.2)) else (laws_eqGraphNodeS.L0 k m [.v a1, .v a2, .v (.int .i64 (IntKind.wrap .i64 (n3 + 1)))] q19.2)) else (some (.exit 0, [.bot], σ))) := by
  kernel_rfl
theorem laws_eqGraphNodeS.A0_x0 (k : Nat) (t1 : T) (σ : Heap) : laws_eqGraphNodeS.A0 k (.exit 0, [t1], σ) = (some (.bool true, σ)) := by
  kernel_rfl
theorem laws_eqGraphNodeS.A0_ret (k : Nat) (b1 : Bool) (σ : Heap) : laws_eqGraphNodeS.A0 k (.ret, [.v (.bool b1)], σ) = (some (.bool b1, σ)) := by
  kernel_rfl

/-! loop.example/smithy/laws.markText: function 56 -/
noncomputable def laws_markText.L0 (k : Nat) : Nat → List T → Heap → Option (Ex × List T × Heap) := hloop (hx (G.env n_laws_markText k) k 20 (subc (bodyOf Try.f56) [1, 1, 1, 0, 0, 0]) 0) 20 (G.msk n_laws_markText 0).1 (G.msk n_laws_markText 0).2
noncomputable def laws_markText.A0 (k : Nat) : Ex × List T × Heap → Option (V × Heap) := fun r => aft (G.env n_laws_markText k) k 20 (bodyOf Try.f56) [1, 1, 1, 0, 0] 0 (ck G.P Try.f56) r.1 (unpick 20 (G.msk n_laws_markText 0).2 r.2.1) r.2.2
theorem laws_markText.eq (k : Nat) (n1 : Int) (σ : Heap) : hcall G (k + 1) n_laws_markText [.int .i64 n1] σ = (bif decide (n1 ≤ 0) then (some (.str (⟨#[109, 48]⟩ : ByteArray), σ)) else ((laws_markText.L0 k k [.v (.int .i64 n1), .v (.str (⟨#[]⟩ : ByteArray))] σ).bind (laws_markText.A0 k))) := by
  kernel_rfl
theorem laws_markText.L0_step (k m : Nat) (n1 : Int) (s2 : ByteArray) (σ : Heap) : laws_markText.L0 k (m + 1) [.v (.int .i64 n1), .v (.str s2)] σ = (bif decide (0 < n1) then ((bytesOf [.int .u8 (IntKind.wrap .u8 (IntKind.wrap .i64 (48 + (Int.tmod n1 10))))] .empty).bind fun s3 => if s3.size + s2.size ≤ 2 ^ 62 then (laws_markText.L0 k m [.v (.int .i64 (IntKind.wrap .i64 (Int.tdiv n1 10))), .v (.str (s3 ++ s2))] σ) else none) else (some (.exit 0, [.bot, .v (.str s2)], σ))) := by
  kernel_rfl
theorem laws_markText.A0_x0 (k : Nat) (t1 : T) (s2 : ByteArray) (σ : Heap) : laws_markText.A0 k (.exit 0, [t1, .v (.str s2)], σ) = (if (⟨#[109]⟩ : ByteArray).size + s2.size ≤ 2 ^ 62 then (some (.str ((⟨#[109]⟩ : ByteArray) ++ s2), σ)) else none) := by
  kernel_rfl

/-! loop.example/smithy/laws.markStringS: function 21 -/
noncomputable def laws_markStringS.L0 (k : Nat) : Nat → List T → Heap → Option (Ex × List T × Heap) := hloop (hx (G.env n_laws_markStringS k) k 20 (subc (bodyOf Try.f21) [1, 0, 1, 0, 0]) 0) 20 (G.msk n_laws_markStringS 0).1 (G.msk n_laws_markStringS 0).2
noncomputable def laws_markStringS.A0 (k : Nat) : Ex × List T × Heap → Option (V × Heap) := fun r => aft (G.env n_laws_markStringS k) k 20 (bodyOf Try.f21) [1, 0, 1, 0] 0 (ck G.P Try.f21) r.1 (unpick 20 (G.msk n_laws_markStringS 0).2 r.2.1) r.2.2
theorem laws_markStringS.eq (k : Nat) (a1 : V) (n2 : Int) (σ : Heap) : hcall G (k + 1) n_laws_markStringS [a1, .int .i64 n2] σ = ((laws_markStringS.L0 k k [.v a1, .v (.int .i64 n2), .v (.int .i64 0)] σ).bind (laws_markStringS.A0 k)) := by
  kernel_rfl
theorem laws_markStringS.L0_step (k m : Nat) (a1 : V) (n2 : Int) (n3 : Int) (σ : Heap) : laws_markStringS.L0 k (m + 1) [.v a1, .v (.int .i64 n2), .v (.int .i64 n3)] σ = ((vlen a1).bind fun k4 => bif decide (n3 < (k4 : Int)) then ((hcall G k n_laws_markText [.int .i64 n2] σ).bind fun q5 => castStr q5.1 fun s6 => (vidx 1 a1 n3).bind fun p7 => (wrc q5.2 p7.1 p7.2 [.str s6]).bind fun h8 => laws_markStringS.L0 k m [.v a1, .v (.int .i64 (IntKind.wrap .i64 (n2 + 1))), .v (.int .i64 (IntKind.wrap .i64 (n3 + 1)))] h8) else (some (.exit 0, [.v (.int .i64 n2), .bot], σ))) := by
  kernel_rfl
theorem laws_markStringS.A0_x0 (k : Nat) (n1 : Int) (t2 : T) (σ : Heap) : laws_markStringS.A0 k (.exit 0, [.v (.int .i64 n1), t2], σ) = (some (.int .i64 n1, σ)) := by
  kernel_rfl

/-! loop.example/smithy/laws.markGraphNodeS: function 20 -/
noncomputable def laws_markGraphNodeS.L0 (k : Nat) : Nat → List T → Heap → Option (Ex × List T × Heap) := hloop (hx (G.env n_laws_markGraphNodeS k) k 28 (subc (bodyOf Try.f20) [1, 0, 1, 0, 0]) 0) 28 (G.msk n_laws_markGraphNodeS 0).1 (G.msk n_laws_markGraphNodeS 0).2
noncomputable def laws_markGraphNodeS.A0 (k : Nat) : Ex × List T × Heap → Option (V × Heap) := fun r => aft (G.env n_laws_markGraphNodeS k) k 28 (bodyOf Try.f20) [1, 0, 1, 0] 0 (ck G.P Try.f20) r.1 (unpick 28 (G.msk n_laws_markGraphNodeS 0).2 r.2.1) r.2.2
theorem laws_markGraphNodeS.eq (k : Nat) (a1 : V) (n2 : Int) (σ : Heap) : hcall G (k + 1) n_laws_markGraphNodeS [a1, .int .i64 n2] σ = ((laws_markGraphNodeS.L0 k k [.v a1, .v (.int .i64 n2), .v (.int .i64 0)] σ).bind (laws_markGraphNodeS.A0 k)) := by
  kernel_rfl
theorem laws_markGraphNodeS.L0_step (k m : Nat) (a1 : V) (n2 : Int) (n3 : Int) (σ : Heap) : laws_markGraphNodeS.L0 k (m + 1) [.v a1, .v (.int .i64 n2), .v (.int .i64 n3)] σ = ((vlen a1).bind fun k4 => bif decide (n3 < (k4 : Int)) then ((hcall G k n_laws_markText [.int .i64 n2] σ).bind fun q5 => castStr q5.1 fun s6 => (vidx 2 a1 n3).bind fun p7 => (wrc q5.2 p7.1 (p7.2 + 0) [.str s6]).bind fun h8 => (vidx 2 a1 n3).bind fun p9 => (rdc h8 p9.1 (p9.2 + 1) 1).bind fun l10 => uncons l10 fun c11 l12 => isNil l12 <| (hcall G k n_laws_markStringS [c11, .int .i64 (IntKind.wrap .i64 (n2 + 1))] h8).bind fun q13 => castInt .i64 q13.1 fun n14 => laws_markGraphNodeS.L0 k m [.v a1, .v (.int .i64 n14), .v (.int .i64 (IntKind.wrap .i64 (n3 + 1)))] q13.2) else (some (.exit 0, [.v (.int .i64 n2), .bot], σ))) := by
  kernel_rfl
theorem laws_markGraphNodeS.A0_x0 (k : Nat) (n1 : Int) (t2 : T) (σ : Heap) : laws_markGraphNodeS.A0 k (.exit 0, [.v (.int .i64 n1), t2], σ) = (some (.int .i64 n1, σ)) := by
  kernel_rfl

/-! loop.example/smithy/laws.heldStringS: function 22 -/
noncomputable def laws_heldStringS.L0 (k : Nat) : Nat → List T → Heap → Option (Ex × List T × Heap) := hloop (hx (G.env n_laws_heldStringS k) k 22 (subc (bodyOf Try.f22) [1, 0, 1, 0, 0]) 0) 22 (G.msk n_laws_heldStringS 0).1 (G.msk n_laws_heldStringS 0).2
noncomputable def laws_heldStringS.A0 (k : Nat) : Ex × List T × Heap → Option (V × Heap) := fun r => aft (G.env n_laws_heldStringS k) k 22 (bodyOf Try.f22) [1, 0, 1, 0] 0 (ck G.P Try.f22) r.1 (unpick 22 (G.msk n_laws_heldStringS 0).2 r.2.1) r.2.2
theorem laws_heldStringS.eq (k : Nat) (a1 : V) (n2 : Int) (σ : Heap) : hcall G (k + 1) n_laws_heldStringS [a1, .int .i64 n2] σ = ((laws_heldStringS.L0 k k [.v a1, .v (.int .i64 n2), .v (.int .i64 0)] σ).bind (laws_heldStringS.A0 k)) := by
  kernel_rfl
theorem laws_heldStringS.L0_step (k m : Nat) (a1 : V) (n2 : Int) (n3 : Int) (σ : Heap) : laws_heldStringS.L0 k (m + 1) [.v a1, .v (.int .i64 n2), .v (.int .i64 n3)] σ = ((vlen a1).bind fun k4 => bif decide (n3 < (k4 : Int)) then ((vidx 1 a1 n3).bind fun p5 => (rdc σ p5.1 p5.2 1).bind fun l6 => uncons l6 fun c7 l8 => castStr c7 fun s9 => isNil l8 <| (hcall G k n_laws_markText [.int .i64 n2] (prot [p5.1] σ)).bind fun q10 => castStr q10.1 fun s11 => bif !decide (s9 = s11) then (some (.ret, [.v (.int .i64 n2), .v (.int .i64 (-1))], unprot [p5.1] σ q10.2)) else (laws_heldStringS.L0 k m [.v a1, .v (.int .i64 (IntKind.wrap .i64 (n2 + 1))), .v (.int .i64 (IntKind.wrap .i64 (n3 + 1)))] (unprot [p5.1] σ q10.2))) else (some (.exit 0, [.v (.int .i64 n2), .bot], σ))) := by
  kernel_rfl
theorem laws_heldStringS.A0_x0 (k : Nat) (n1 : Int) (t2 : T) (σ : Heap) : laws_heldStringS.A0 k (.exit 0, [.v (.int .i64 n1), t2], σ) = (some (.int .i64 n1, σ)) := by
  kernel_rfl
theorem laws_heldStringS.A0_ret (k : Nat) (t1 : T) (n2 : Int) (σ : Heap) : laws_heldStringS.A0 k (.ret, [t1, .v (.int .i64 n2)], σ) = (some (.int .i64 n2, σ)) := by
  kernel_rfl

/-! loop.example/smithy/laws.FnExactGraphOrder: function 4 -/
theorem laws_FnExactGraphOrder.eq (k : Nat) (a1 : V) (σ : Heap) : hcall G (k + 1) n_laws_FnExactGraphOrder [a1] σ = ((hcall G k n_laws_szGraphNodeS [a1, .int .i64 1048576] σ).bind fun q2 => castInt .i64 q2.1 fun n3 => bif decide (n3 < 0) then (some (.bool true, q2.2)) else ((hcall G k n_laws_toGraphNodeS [a1] q2.2).bind fun q4 => (hcall G k n_spec_GraphOrder [q4.1] q4.2).bind fun q5 => (hcall G k n_laws_toGraphNodeS [a1] q5.2).bind fun q6 => (hcall G k n_impl_GraphOrder [q6.1] q6.2).bind fun q7 => (hcall G k n_laws_eqStringS [q7.1, q5.1] q7.2).bind fun q8 => castBool q8.1 fun b9 => bif !b9 then (some (.bool false, q8.2)) else ((hcall G k n_laws_toGraphNodeS [a1] q8.2).bind fun q10 => (hcall G k n_laws_eqGraphNodeS [q6.1, q10.1] q10.2).bind fun q11 => castBool q11.1 fun b12 => bif !b12 then (some (.bool false, q11.2)) else ((hcall G k n_laws_markGraphNodeS [q6.1, .int .i64 1] q11.2).bind fun q13 => castInt .i64 q13.1 fun n14 => bif decide (n14 < 0) then (some (.bool false, q13.2)) else ((hcall G k n_laws_eqStringS [q7.1, q5.1] q13.2).bind fun q15 => castBool q15.1 fun b16 => bif !b16 then (some (.bool false, q15.2)) else ((hcall G k n_laws_markStringS [q7.1, .int .i64 1] q15.2).bind fun q17 => castInt .i64 q17.1 fun n18 => (hcall G k n_laws_heldStringS [q7.1, .int .i64 1] q17.2).bind fun q19 => castInt .i64 q19.1 fun n20 => bif decide (n20 < 0) then (some (.bool false, q19.2)) else (bif !decide (n20 = n18) then (some (.bool false, q19.2)) else ((hcall G k n_laws_toGraphNodeS [a1] q19.2).bind fun q21 => (hcall G k n_impl_GraphOrder [q21.1] q21.2).bind fun q22 => (hcall G k n_laws_eqStringS [q22.1, q5.1] q22.2).bind fun q23 => castBool q23.1 fun b24 => bif !b24 then (some (.bool false, q23.2)) else ((hcall G k n_laws_heldStringS [q7.1, .int .i64 1] q23.2).bind fun q25 => castInt .i64 q25.1 fun n26 => bif decide (n26 < 0) then (some (.bool false, q25.2)) else (bif !decide (n26 = n18) then (some (.bool false, q25.2)) else (some (.bool true, q25.2)))))))))))) := by
  kernel_rfl

/-! loop.example/smithy/laws.szCodeRef: function 119 -/
theorem laws_szCodeRef.eq (k : Nat) (s1 : ByteArray) (s2 : ByteArray) (n3 : Int) (σ : Heap) : hcall G (k + 1) n_laws_szCodeRef [.agg [.str s1, .str s2], .int .i64 n3] σ = (bif decide (IntKind.wrap .i64 (n3 - (s1.size : Int)) < 0) then (some (.int .i64 (-1), σ)) else (bif decide (IntKind.wrap .i64 ((IntKind.wrap .i64 (n3 - (s1.size : Int))) - (s2.size : Int)) < 0) then (some (.int .i64 (-1), σ)) else (some (.int .i64 (IntKind.wrap .i64 ((IntKind.wrap .i64 (n3 - (s1.size : Int))) - (s2.size : Int))), σ)))) := by
  kernel_rfl

/-! loop.example/smithy/laws.szCodeRefS: function 102 -/
noncomputable def laws_szCodeRefS.L0 (k : Nat) : Nat → List T → Heap → Option (Ex × List T × Heap) := hloop (hx (G.env n_laws_szCodeRefS k) k 27 (subc (bodyOf Try.f102) [1, 1, 1, 0, 1, 0, 0]) 0) 27 (G.msk n_laws_szCodeRefS 0).1 (G.msk n_laws_szCodeRefS 0).2
noncomputable def laws_szCodeRefS.A0 (k : Nat) : Ex × List T × Heap → Option (V × Heap) := fun r => aft (G.env n_laws_szCodeRefS k) k 27 (bodyOf Try.f102) [1, 1, 1, 0, 1, 0] 0 (ck G.P Try.f102) r.1 (unpick 27 (G.msk n_laws_szCodeRefS 0).2 r.2.1) r.2.2
theorem laws_szCodeRefS.eq (k : Nat) (a1 : V) (n2 : Int) (σ : Heap) : hcall G (k + 1) n_laws_szCodeRefS [a1, .int .i64 n2] σ = ((vlen a1).bind fun k3 => bif decide (IntKind.wrap .i64 (n2 - (k3 : Int)) < 0) then (some (.int .i64 (-1), σ)) else ((laws_szCodeRefS.L0 k k [.v a1, .v (.int .i64 (IntKind.wrap .i64 (n2 - (k3 : Int)))), .v (.int .i64 0)] σ).bind (laws_szCodeRefS.A0 k))) := by
  kernel_rfl
theorem laws_szCodeRefS.L0_step (k m : Nat) (a1 : V) (n2 : Int) (n3 : Int) (σ : Heap) : laws_szCodeRefS.L0 k (m + 1) [.v a1, .v (.int .i64 n2), .v (.int .i64 n3)] σ = ((vlen a1).bind fun k4 => bif decide (n3 < (k4 : Int)) then ((vidx 2 a1 n3).bind fun p5 => (rdc σ p5.1 p5.2 2).bind fun l6 => uncons l6 fun c7 l8 => castStr c7 fun s9 => uncons l8 fun c10 l11 => castStr c10 fun s12 => isNil l11 <| (hcall G k n_laws_szCodeRef [.agg [.str s9, .str s12], .int .i64 n2] σ).bind fun q13 => castInt .i64 q13.1 fun n14 => bif decide (n14 < 0) then (some (.ret, [.v (.int .i64 n14), .v (.int .i64 (-1))], q13.2)) else (laws_szCodeRefS.L0 k m [.v a1, .v (.int .i64 n14), .v (.int .i64 (IntKind.wrap .i64 (n3 + 1)))] q13.2)) else (some (.exit 0, [.v (.int .i64 n2), .bot], σ))) := by
  kernel_rfl
theorem laws_szCodeRefS.A0_x0 (k : Nat) (n1 : Int) (t2 : T) (σ : Heap) : laws_szCodeRefS.A0 k (.exit 0, [.v (.int .i64 n1), t2], σ) = (some (.int .i64 n1, σ)) := by
  kernel_rfl
theorem laws_szCodeRefS.A0_ret (k : Nat) (t1 : T) (n2 : Int) (σ : Heap) : laws_szCodeRefS.A0 k (.ret, [t1, .v (.int .i64 n2)], σ) = (some (.int .i64 n2, σ)) := by
  kernel_rfl

/-! loop.example/smithy/laws.szIntS: function 143 -/
theorem laws_szIntS.eq (k : Nat) (a1 : V) (n2 : Int) (σ : Heap) : hcall G (k + 1) n_laws_szIntS [a1, .int .i64 n2] σ = ((vlen a1).bind fun k3 => bif decide (IntKind.wrap .i64 (n2 - (k3 : Int)) < 0) then (some (.int .i64 (-1), σ)) else (some (.int .i64 (IntKind.wrap .i64 (n2 - (k3 : Int))), σ))) := by
  kernel_rfl

/-! loop.example/smithy/laws.szCodeInsS: function 144 -/
theorem laws_szCodeInsS.eq (k : Nat) (a1 : V) (n2 : Int) (σ : Heap) : hcall G (k + 1) n_laws_szCodeInsS [a1, .int .i64 n2] σ = ((vlen a1).bind fun k3 => bif decide (IntKind.wrap .i64 (n2 - (k3 : Int)) < 0) then (some (.int .i64 (-1), σ)) else (some (.int .i64 (IntKind.wrap .i64 (n2 - (k3 : Int))), σ))) := by
  kernel_rfl

/-! loop.example/smithy/laws.szCodeFun: function 120 -/
theorem laws_szCodeFun.eq (k : Nat) (s1 : ByteArray) (b2 : Bool) (a3 : V) (n4 : Int) (n5 : Int) (a6 : V) (n7 : Int) (σ : Heap) : hcall G (k + 1) n_laws_szCodeFun [.agg [.str s1, .bool b2, a3, .int .i64 n4, .int .i64 n5, a6], .int .i64 n7] σ = (bif decide (IntKind.wrap .i64 (n7 - (s1.size : Int)) < 0) then (some (.int .i64 (-1), σ)) else ((hcall G k n_laws_szIntS [a3, .int .i64 (IntKind.wrap .i64 (n7 - (s1.size : Int)))] σ).bind fun q8 => castInt .i64 q8.1 fun n9 => bif decide (n9 < 0) then (some (.int .i64 (-1), q8.2)) else ((hcall G k n_laws_szCodeInsS [a6, .int .i64 n9] q8.2).bind fun q10 => castInt .i64 q10.1 fun n11 => bif decide (n11 < 0) then (some (.int .i64 (-1), q10.2)) else (some (.int .i64 n11, q10.2))))) := by
  kernel_rfl

/-! loop.example/smithy/laws.szCodeFunS: function 103 -/
noncomputable def laws_szCodeFunS.L0 (k : Nat) : Nat → List T → Heap → Option (Ex × List T × Heap) := hloop (hx (G.env n_laws_szCodeFunS k) k 27 (subc (bodyOf Try.f103) [1, 1, 1, 0, 1, 0, 0]) 0) 27 (G.msk n_laws_szCodeFunS 0).1 (G.msk n_laws_szCodeFunS 0).2
noncomputable def laws_szCodeFunS.A0 (k : Nat) : Ex × List T × Heap → Option (V × Heap) := fun r => aft (G.env n_laws_szCodeFunS k) k 27 (bodyOf Try.f103) [1, 1, 1, 0, 1, 0] 0 (ck G.P Try.f103) r.1 (unpick 27 (G.msk n_laws_szCodeFunS 0).2 r.2.1) r.2.2
theorem laws_szCodeFunS.eq (k : Nat) (a1 : V) (n2 : Int) (σ : Heap) : hcall G (k + 1) n_laws_szCodeFunS [a1, .int .i64 n2] σ = ((vlen a1).bind fun k3 => bif decide (IntKind.wrap .i64 (n2 - (k3 : Int)) < 0) then (some (.int .i64 (-1), σ)) else ((laws_szCodeFunS.L0 k k [.v a1, .v (.int .i64 (IntKind.wrap .i64 (n2 - (k3 : Int)))), .v (.int .i64 0)] σ).bind (laws_szCodeFunS.A0 k))) := by
  kernel_rfl
theorem laws_szCodeFunS.L0_step (k m : Nat) (a1 : V) (n2 : Int) (n3 : Int) (σ : Heap) : laws_szCodeFunS.L0 k (m + 1) [.v a1, .v (.int .i64 n2), .v (.int .i64 n3)] σ = ((vlen a1).bind fun k4 => bif decide (n3 < (k4 : Int)) then ((vidx 6 a1 n3).bind fun p5 => (rdc σ p5.1 p5.2 6).bind fun l6 => uncons l6 fun c7 l8 => castStr c7 fun s9 => uncons l8 fun c10 l11 => castBool c10 fun b12 => uncons l11 fun c13 l14 => uncons l14 fun c15 l16 => castInt .i64 c15 fun n17 => uncons l16 fun c18 l19 => castInt .i64 c18 fun n20 => uncons l19 fun c21 l22 => isNil l22 <| (hcall G k n_laws_szCodeFun [.agg [.str s9, .bool b12, c13, .int .i64 n17, .int .i64 n20, c21], .int .i64 n2] σ).bind fun q23 => castInt .i64 q23.1 fun n24 => bif decide (n24 < 0) then (some (.ret, [.v (.int .i64 n24), .v (.int .i64 (-1))], q23.2)) else (laws_szCodeFunS.L0 k m [.v a1, .v (.int .i64 n24), .v (.int .i64 (IntKind.wrap .i64 (n3 + 1)))] q23.2)) else (some (.exit 0, [.v (.int .i64 n2), .bot], σ))) := by
  kernel_rfl
theorem laws_szCodeFunS.A0_x0 (k : Nat) (n1 : Int) (t2 : T) (σ : Heap) : laws_szCodeFunS.A0 k (.exit 0, [.v (.int .i64 n1), t2], σ) = (some (.int .i64 n1, σ)) := by
  kernel_rfl
theorem laws_szCodeFunS.A0_ret (k : Nat) (t1 : T) (n2 : Int) (σ : Heap) : laws_szCodeFunS.A0 k (.ret, [t1, .v (.int .i64 n2)], σ) = (some (.int .i64 n2, σ)) := by
  kernel_rfl

/-! loop.example/smithy/laws.szCodeObj: function 85 -/
theorem laws_szCodeObj.eq (k : Nat) (a1 : V) (a2 : V) (n3 : Int) (σ : Heap) : hcall G (k + 1) n_laws_szCodeObj [.agg [a1, a2], .int .i64 n3] σ = ((hcall G k n_laws_szCodeRefS [a1, .int .i64 n3] σ).bind fun q4 => castInt .i64 q4.1 fun n5 => bif decide (n5 < 0) then (some (.int .i64 (-1), q4.2)) else ((hcall G k n_laws_szCodeFunS [a2, .int .i64 n5] q4.2).bind fun q6 => castInt .i64 q6.1 fun n7 => bif decide (n7 < 0) then (some (.int .i64 (-1), q6.2)) else (some (.int .i64 n7, q6.2)))) := by
  kernel_rfl

/-! loop.example/smithy/laws.szLinkPart: function 57 -/
theorem laws_szLinkPart.eq (k : Nat) (s1 : ByteArray) (a2 : V) (a3 : V) (n4 : Int) (σ : Heap) : hcall G (k + 1) n_laws_szLinkPart [.agg [.str s1, a2, a3], .int .i64 n4] σ = (bif decide (IntKind.wrap .i64 (n4 - (s1.size : Int)) < 0) then (some (.int .i64 (-1), σ)) else ((hcall G k n_laws_szCodeObj [.agg [a2, a3], .int .i64 (IntKind.wrap .i64 (n4 - (s1.size : Int)))] σ).bind fun q5 => castInt .i64 q5.1 fun n6 => bif decide (n6 < 0) then (some (.int .i64 (-1), q5.2)) else (some (.int .i64 n6, q5.2)))) := by
  kernel_rfl

/-! loop.example/smithy/laws.szLinkPartS: function 23 -/
noncomputable def laws_szLinkPartS.L0 (k : Nat) : Nat → List T → Heap → Option (Ex × List T × Heap) := hloop (hx (G.env n_laws_szLinkPartS k) k 27 (subc (bodyOf Try.f23) [1, 1, 1, 0, 1, 0, 0]) 0) 27 (G.msk n_laws_szLinkPartS 0).1 (G.msk n_laws_szLinkPartS 0).2
noncomputable def laws_szLinkPartS.A0 (k : Nat) : Ex × List T × Heap → Option (V × Heap) := fun r => aft (G.env n_laws_szLinkPartS k) k 27 (bodyOf Try.f23) [1, 1, 1, 0, 1, 0] 0 (ck G.P Try.f23) r.1 (unpick 27 (G.msk n_laws_szLinkPartS 0).2 r.2.1) r.2.2
theorem laws_szLinkPartS.eq (k : Nat) (a1 : V) (n2 : Int) (σ : Heap) : hcall G (k + 1) n_laws_szLinkPartS [a1, .int .i64 n2] σ = ((vlen a1).bind fun k3 => bif decide (IntKind.wrap .i64 (n2 - (k3 : Int)) < 0) then (some (.int .i64 (-1), σ)) else ((laws_szLinkPartS.L0 k k [.v a1, .v (.int .i64 (IntKind.wrap .i64 (n2 - (k3 : Int)))), .v (.int .i64 0)] σ).bind (laws_szLinkPartS.A0 k))) := by
  kernel_rfl
theorem laws_szLinkPartS.L0_step (k m : Nat) (a1 : V) (n2 : Int) (n3 : Int) (σ : Heap) : laws_szLinkPartS.L0 k (m + 1) [.v a1, .v (.int .i64 n2), .v (.int .i64 n3)] σ = ((vlen a1).bind fun k4 => bif decide (n3 < (k4 : Int)) then ((vidx 3 a1 n3).bind fun p5 => (rdc σ p5.1 p5.2 3).bind fun l6 => uncons l6 fun c7 l8 => castStr c7 fun s9 => uncons l8 fun c10 l11 => uncons l11 fun c12 l13 => isNil l13 <| (hcall G k n_laws_szLinkPart [.agg [.str s9, c10, c12], .int .i64 n2] σ).bind fun q14 => castInt .i64 q14.1 fun n15 => bif decide (n15 < 0) then (some (.ret, [.v (.int .i64 n15), .v (.int .i64 (-1))], q14.2)) else (laws_szLinkPartS.L0 k m [.v a1, .v (.int .i64 n15), .v (.int .i64 (IntKind.wrap .i64 (n3 + 1)))] q14.2)) else (some (.exit 0, [.v (.int .i64 n2), .bot], σ))) := by
  kernel_rfl
theorem laws_szLinkPartS.A0_x0 (k : Nat) (n1 : Int) (t2 : T) (σ : Heap) : laws_szLinkPartS.A0 k (.exit 0, [.v (.int .i64 n1), t2], σ) = (some (.int .i64 n1, σ)) := by
  kernel_rfl
theorem laws_szLinkPartS.A0_ret (k : Nat) (t1 : T) (n2 : Int) (σ : Heap) : laws_szLinkPartS.A0 k (.ret, [t1, .v (.int .i64 n2)], σ) = (some (.int .i64 n2, σ)) := by
  kernel_rfl

/-! loop.example/smithy/laws.toCodeRef: function 121 -/
theorem laws_toCodeRef.eq (k : Nat) (s1 : ByteArray) (s2 : ByteArray) (σ : Heap) : hcall G (k + 1) n_laws_toCodeRef [.agg [.str s1, .str s2]] σ = (some (.agg [.str s1, .str s2], σ)) := by
  kernel_rfl

/-! loop.example/smithy/laws.toCodeRefS: function 104 -/
noncomputable def laws_toCodeRefS.L0 (k : Nat) : Nat → List T → Heap → Option (Ex × List T × Heap) := hloop (hx (G.env n_laws_toCodeRefS k) k 23 (subc (bodyOf Try.f104) [1, 1, 0, 1, 0, 0]) 0) 23 (G.msk n_laws_toCodeRefS 0).1 (G.msk n_laws_toCodeRefS 0).2
noncomputable def laws_toCodeRefS.A0 (k : Nat) : Ex × List T × Heap → Option (V × Heap) := fun r => aft (G.env n_laws_toCodeRefS k) k 23 (bodyOf Try.f104) [1, 1, 0, 1, 0] 0 (ck G.P Try.f104) r.1 (unpick 23 (G.msk n_laws_toCodeRefS 0).2 r.2.1) r.2.2
theorem laws_toCodeRefS.eq (k : Nat) (a1 : V) (σ : Heap) : hcall G (k + 1) n_laws_toCodeRefS [a1] σ = ((vlen a1).bind fun k2 => if 0 ≤ (k2 : Int) ∧ (k2 : Int) * 32 ≤ 2 ^ 46 ∧ (k2 : Int) ≤ 2 ^ 46 then ((laws_toCodeRefS.L0 k k [.v a1, .v (.sl σ.length 0 ((k2 : Int) : Int).toNat true), .v (.int .i64 0)] (hnew σ 2 (List.replicate ((k2 : Int) : Int).toNat [.str (⟨#[]⟩ : ByteArray), .str (⟨#[]⟩ : ByteArray)]).flatten)).bind (laws_toCodeRefS.A0 k)) else none) := by
  kernel_rfl
theorem laws_toCodeRefS.L0_step (k m : Nat) (a1 : V) (a2 : V) (n3 : Int) (σ : Heap) : laws_toCodeRefS.L0 k (m + 1) [.v a1, .v a2, .v (.int .i64 n3)] σ = ((vlen a1).bind fun k4 => bif decide (n3 < (k4 : Int)) then ((vidx 2 a1 n3).bind fun p5 => (rdc σ p5.1 p5.2 2).bind fun l6 => uncons l6 fun c7 l8 => castStr c7 fun s9 => uncons l8 fun c10 l11 => castStr c10 fun s12 => isNil l11 <| (hcall G k n_laws_toCodeRef [.agg [.str s9, .str s12]] σ).bind fun q13 => castAgg q13.1 fun l14 => uncons l14 fun c15 l16 => castStr c15 fun s17 => uncons l16 fun c18 l19 => castStr c18 fun s20 => isNil l19 <| (vidx 2 a2 n3).bind fun p21 => (wrc q13.2 p21.1 p21.2 [.str s17, .str s20]).bind fun h22 => laws_toCodeRefS.L0 k m [.v a1, .v a2, .v (.int .i64 (IntKind.wrap .i64 (n3 + 1)))] h22) else (some (.exit 0, [.bot, .v a2], σ))) := by
  kernel_rfl
theorem laws_toCodeRefS.A0_x0 (k : Nat) (t1 : T) (a2 : V) (σ : Heap) : laws_toCodeRefS.A0 k (.exit 0, [t1, .v a2], σ) = (some (a2, σ)) := by
  kernel_rfl

/-! loop.example/smithy/laws.toIntS: function 145 -/
noncomputable def laws_toIntS.L0 (k : Nat) : Nat → List T → Heap → Option (Ex × List T × Heap) := hloop (hx (G.env n_laws_toIntS k) k 22 (subc (bodyOf Try.f145) [1, 1, 0, 1, 0, 0]) 0) 22 (G.msk n_laws_toIntS 0).1 (G.msk n_laws_toIntS 0).2
noncomputable def laws_toIntS.A0 (k : Nat) : Ex × List T × Heap → Option (V × Heap) := fun r => aft (G.env n_laws_toIntS k) k 22 (bodyOf Try.f145) [1, 1, 0, 1, 0] 0 (ck G.P Try.f145) r.1 (unpick 22 (G.msk n_laws_toIntS 0).2 r.2.1) r.2.2
theorem laws_toIntS.eq (k : Nat) (a1 : V) (σ : Heap) : hcall G (k + 1) n_laws_toIntS [a1] σ = ((vlen a1).bind fun k2 => if 0 ≤ (k2 : Int) ∧ (k2 : Int) * 8 ≤ 2 ^ 46 ∧ (k2 : Int) ≤ 2 ^ 46 then ((laws_toIntS.L0 k k [.v a1, .v (.sl σ.length 0 ((k2 : Int) : Int).toNat true), .v (.int .i64 0)] (hnew σ 1 (List.replicate ((k2 : Int) : Int).toNat [.int .i64 0]).flatten)).bind (laws_toIntS.A0 k)) else none) := by
  kernel_rfl
theorem laws_toIntS.L0_step (k m : Nat) (a1 : V) (a2 : V) (n3 : Int) (σ : Heap) : laws_toIntS.L0 k (m + 1) [.v a1, .v a2, .v (.int .i64 n3)] σ = ((vlen a1).bind fun k4 => bif decide (n3 < (k4 : Int)) then ((vidx 1 a1 n3).bind fun p5 => (rdc σ p5.1 p5.2 1).bind fun l6 => uncons l6 fun c7 l8 => castInt .i64 c7 fun n9 => isNil l8 <| (vidx 1 a2 n3).bind fun p10 => (wrc σ p10.1 p10.2 [.int .i64 n9]).bind fun h11 => laws_toIntS.L0 k m [.v a1, .v a2, .v (.int .i64 (IntKind.wrap .i64 (n3 + 1)))] h11) else (some (.exit 0, [.bot, .v a2], σ))) := by
  kernel_rfl
theorem laws_toIntS.A0_x0 (k : Nat) (t1 : T) (a2 : V) (σ : Heap) : laws_toIntS.A0 k (.exit 0, [t1, .v a2], σ) = (some (a2, σ)) := by
  kernel_rfl

/-! loop.example/smithy/laws.toCodeIns: function 157 -/
theorem laws_toCodeIns.eq (k : Nat) (n1 : Int) (n2 : Int) (σ : Heap) : hcall G (k + 1) n_laws_toCodeIns [.agg [.int .i64 n1, .int .i64 n2]] σ = (some (.agg [.int .i64 n1, .int .i64 n2], σ)) := by
  kernel_rfl

/-! loop.example/smithy/laws.toCodeInsS: function 146 -/
noncomputable def laws_toCodeInsS.L0 (k : Nat) : Nat → List T → Heap → Option (Ex × List T × Heap) := hloop (hx (G.env n_laws_toCodeInsS k) k 23 (subc (bodyOf Try.f146) [1, 1, 0, 1, 0, 0]) 0) 23 (G.msk n_laws_toCodeInsS 0).1 (G.msk n_laws_toCodeInsS 0).2
noncomputable def laws_toCodeInsS.A0 (k : Nat) : Ex × List T × Heap → Option (V × Heap) := fun r => aft (G.env n_laws_toCodeInsS k) k 23 (bodyOf Try.f146) [1, 1, 0, 1, 0] 0 (ck G.P Try.f146) r.1 (unpick 23 (G.msk n_laws_toCodeInsS 0).2 r.2.1) r.2.2
theorem laws_toCodeInsS.eq (k : Nat) (a1 : V) (σ : Heap) : hcall G (k + 1) n_laws_toCodeInsS [a1] σ = ((vlen a1).bind fun k2 => if 0 ≤ (k2 : Int) ∧ (k2 : Int) * 16 ≤ 2 ^ 46 ∧ (k2 : Int) ≤ 2 ^ 46 then ((laws_toCodeInsS.L0 k k [.v a1, .v (.sl σ.length 0 ((k2 : Int) : Int).toNat true), .v (.int .i64 0)] (hnew σ 2 (List.replicate ((k2 : Int) : Int).toNat [.int .i64 0, .int .i64 0]).flatten)).bind (laws_toCodeInsS.A0 k)) else none) := by
  kernel_rfl
theorem laws_toCodeInsS.L0_step (k m : Nat) (a1 : V) (a2 : V) (n3 : Int) (σ : Heap) : laws_toCodeInsS.L0 k (m + 1) [.v a1, .v a2, .v (.int .i64 n3)] σ = ((vlen a1).bind fun k4 => bif decide (n3 < (k4 : Int)) then ((vidx 2 a1 n3).bind fun p5 => (rdc σ p5.1 p5.2 2).bind fun l6 => uncons l6 fun c7 l8 => castInt .i64 c7 fun n9 => uncons l8 fun c10 l11 => castInt .i64 c10 fun n12 => isNil l11 <| (hcall G k n_laws_toCodeIns [.agg [.int .i64 n9, .int .i64 n12]] σ).bind fun q13 => castAgg q13.1 fun l14 => uncons l14 fun c15 l16 => castInt .i64 c15 fun n17 => uncons l16 fun c18 l19 => castInt .i64 c18 fun n20 => isNil l19 <| (vidx 2 a2 n3).bind fun p21 => (wrc q13.2 p21.1 p21.2 [.int .i64 n17, .int .i64 n20]).bind fun h22 => laws_toCodeInsS.L0 k m [.v a1, .v a2, .v (.int .i64 (IntKind.wrap .i64 (n3 + 1)))] h22) else (some (.exit 0, [.bot, .v a2], σ))) := by
  kernel_rfl
theorem laws_toCodeInsS.A0_x0 (k : Nat) (t1 : T) (a2 : V) (σ : Heap) : laws_toCodeInsS.A0 k (.exit 0, [t1, .v a2], σ) = (some (a2, σ)) := by
  kernel_rfl

/-! loop.example/smithy/laws.toCodeFun: function 122 -/
theorem laws_toCodeFun.eq (k : Nat) (s1 : ByteArray) (b2 : Bool) (a3 : V) (n4 : Int) (n5 : Int) (a6 : V) (σ : Heap) : hcall G (k + 1) n_laws_toCodeFun [.agg [.str s1, .bool b2, a3, .int .i64 n4, .int .i64 n5, a6]] σ = ((hcall G k n_laws_toIntS [a3] σ).bind fun q7 => one q7.1 <| (hcall G k n_laws_toCodeInsS [a6] q7.2).bind fun q8 => one q8.1 <| some (.agg [.str s1, .bool b2, q7.1, .int .i64 n4, .int .i64 n5, q8.1], q8.2)) := by
  kernel_rfl
end Go.A
