/- The functions' equations. -/
import Derived.Test.YtpkfajjkkmnmcaaDoorEG
namespace Go.R
open Go.HM Go.Proofs
set_option linter.unusedVariables false
set_option maxRecDepth 1000000
set_option maxHeartbeats 4000000

/-! loop.example/smithy/spec.l23Cut: function 9 -/
noncomputable def spec_l23Cut.L0 (k : Nat) : Nat → List T → Heap → Option (Ex × List T × Heap) := hloop (hx (G.env n_spec_l23Cut k) k 36 (subc (bodyOf Tryd.f9) [1, 1, 1, 0, 1, 0, 0]) 0) 36 (G.msk n_spec_l23Cut 0).1 (G.msk n_spec_l23Cut 0).2
noncomputable def spec_l23Cut.A0 (k : Nat) : Ex × List T × Heap → Option (V × Heap) := fun r => aft (G.env n_spec_l23Cut k) k 36 (bodyOf Tryd.f9) [1, 1, 1, 0, 1, 0] 0 (ck G.P Tryd.f9) r.1 (unpick 36 (G.msk n_spec_l23Cut 0).2 r.2.1) r.2.2
theorem spec_l23Cut.eq (k : Nat) (s1 : ByteArray) (n2 : Int) (σ : Heap) : hcall G (k + 1) n_spec_l23Cut [.str s1, .int .u8 n2] σ = ((spec_l23Cut.L0 k k [.v (.str s1), .v (.int .u8 n2), .v (.sl σ.length 0 0 true), .v (.int .i64 0), .v (.int .i64 0)] (hnew σ 1 [])).bind (spec_l23Cut.A0 k)) := by
  kernel_rfl
theorem spec_l23Cut.L0_step (k m : Nat) (s1 : ByteArray) (n2 : Int) (a3 : V) (n4 : Int) (n5 : Int) (σ : Heap) : spec_l23Cut.L0 k (m + 1) [.v (.str s1), .v (.int .u8 n2), .v a3, .v (.int .i64 n4), .v (.int .i64 n5)] σ = (bif decide (n5 ≤ (s1.size : Int)) then (bif decide (n5 = (s1.size : Int)) then ((ssub s1 (some n4) (some n5)).bind fun s6 => (vappend 1 16 σ a3 1 [.str s6]).bind fun q7 => spec_l23Cut.L0 k m [.v (.str s1), .v (.int .u8 n2), .v q7.1, .v (.int .i64 (IntKind.wrap .i64 (n5 + 1))), .v (.int .i64 (IntKind.wrap .i64 (n5 + 1)))] q7.2) else ((sbyte s1 n5).bind fun n8 => bif decide (n8 = n2) then ((ssub s1 (some n4) (some n5)).bind fun s9 => (vappend 1 16 σ a3 1 [.str s9]).bind fun q10 => spec_l23Cut.L0 k m [.v (.str s1), .v (.int .u8 n2), .v q10.1, .v (.int .i64 (IntKind.wrap .i64 (n5 + 1))), .v (.int .i64 (IntKind.wrap .i64 (n5 + 1)))] q10.2) else (spec_l23Cut.L0 k m [.v (.str s1), .v (.int .u8 n2), .v a3, .v (.int .i64 n4), .v (.int .i64 (IntKind.wrap .i64 (n5 + 1)))] σ))) else (some (.exit 0, [.bot, .v a3], σ))) := by
  kernel_rfl
theorem spec_l23Cut.A0_x0 (k : Nat) (t1 : T) (a2 : V) (σ : Heap) : spec_l23Cut.A0 k (.exit 0, [t1, .v a2], σ) = (some (a2, σ)) := by
  kernel_rfl

/-! loop.example/smithy/spec.l23Find: function 24 -/
noncomputable def spec_l23Find.L0 (k : Nat) : Nat → List T → Heap → Option (Ex × List T × Heap) := hloop (hx (G.env n_spec_l23Find k) k 18 (subc (bodyOf Tryd.f24) [1, 0, 1, 0, 0]) 0) 18 (G.msk n_spec_l23Find 0).1 (G.msk n_spec_l23Find 0).2
noncomputable def spec_l23Find.A0 (k : Nat) : Ex × List T × Heap → Option (V × Heap) := fun r => aft (G.env n_spec_l23Find k) k 18 (bodyOf Tryd.f24) [1, 0, 1, 0] 0 (ck G.P Tryd.f24) r.1 (unpick 18 (G.msk n_spec_l23Find 0).2 r.2.1) r.2.2
theorem spec_l23Find.eq (k : Nat) (s1 : ByteArray) (n2 : Int) (σ : Heap) : hcall G (k + 1) n_spec_l23Find [.str s1, .int .u8 n2] σ = ((spec_l23Find.L0 k k [.v (.str s1), .v (.int .u8 n2), .v (.int .i64 0)] σ).bind (spec_l23Find.A0 k)) := by
  kernel_rfl
theorem spec_l23Find.L0_step (k m : Nat) (s1 : ByteArray) (n2 : Int) (n3 : Int) (σ : Heap) : spec_l23Find.L0 k (m + 1) [.v (.str s1), .v (.int .u8 n2), .v (.int .i64 n3)] σ = (bif decide (n3 < (s1.size : Int)) then ((sbyte s1 n3).bind fun n4 => bif decide (n4 = n2) then (some (.ret, [.v (.int .i64 n3)], σ)) else (spec_l23Find.L0 k m [.v (.str s1), .v (.int .u8 n2), .v (.int .i64 (IntKind.wrap .i64 (n3 + 1)))] σ)) else (some (.exit 0, [.bot], σ))) := by
  kernel_rfl
theorem spec_l23Find.A0_x0 (k : Nat) (t1 : T) (σ : Heap) : spec_l23Find.A0 k (.exit 0, [t1], σ) = (some (.int .i64 (-1), σ)) := by
  kernel_rfl
theorem spec_l23Find.A0_ret (k : Nat) (n1 : Int) (σ : Heap) : spec_l23Find.A0 k (.ret, [.v (.int .i64 n1)], σ) = (some (.int .i64 n1, σ)) := by
  kernel_rfl

/-! loop.example/smithy/spec.TreeType: function 29 -/
theorem spec_TreeType.eq (k : Nat) (n1 : Int) (σ : Heap) : hcall G (k + 1) n_spec_TreeType [.int .i64 n1] σ = (bif decide (n1 < 1) then (some (.str (⟨#[]⟩ : ByteArray), σ)) else (bif decide (3 < n1) then (some (.str (⟨#[]⟩ : ByteArray), σ)) else ((vidx 1 (.sl σ.length 0 3 true) (IntKind.wrap .i64 (n1 - 1))).bind fun p2 => (rdc (hnew σ 1 [.str (⟨#[105, 110, 116]⟩ : ByteArray), .str (⟨#[98, 111, 111, 108]⟩ : ByteArray), .str (⟨#[114, 111, 119]⟩ : ByteArray)]) p2.1 p2.2 1).bind fun l3 => uncons l3 fun c4 l5 => castStr c4 fun s6 => isNil l5 <| some (.str s6, hnew σ 1 [.str (⟨#[105, 110, 116]⟩ : ByteArray), .str (⟨#[98, 111, 111, 108]⟩ : ByteArray), .str (⟨#[114, 111, 119]⟩ : ByteArray)])))) := by
  kernel_rfl

/-! loop.example/smithy/spec.l3Kind: function 26 -/
noncomputable def spec_l3Kind.L0 (k : Nat) : Nat → List T → Heap → Option (Ex × List T × Heap) := hloop (hx (G.env n_spec_l3Kind k) k 13 (subc (bodyOf Tryd.f26) [1, 0, 1, 0, 0]) 0) 13 (G.msk n_spec_l3Kind 0).1 (G.msk n_spec_l3Kind 0).2
noncomputable def spec_l3Kind.A0 (k : Nat) : Ex × List T × Heap → Option (V × Heap) := fun r => aft (G.env n_spec_l3Kind k) k 13 (bodyOf Tryd.f26) [1, 0, 1, 0] 0 (ck G.P Tryd.f26) r.1 (unpick 13 (G.msk n_spec_l3Kind 0).2 r.2.1) r.2.2
theorem spec_l3Kind.eq (k : Nat) (s1 : ByteArray) (σ : Heap) : hcall G (k + 1) n_spec_l3Kind [.str s1] σ = ((spec_l3Kind.L0 k k [.v (.str s1), .v (.int .i64 1)] σ).bind (spec_l3Kind.A0 k)) := by
  kernel_rfl
theorem spec_l3Kind.L0_step (k m : Nat) (s1 : ByteArray) (n2 : Int) (σ : Heap) : spec_l3Kind.L0 k (m + 1) [.v (.str s1), .v (.int .i64 n2)] σ = (bif decide (n2 ≤ 3) then ((hcall G k n_spec_TreeType [.int .i64 n2] σ).bind fun q3 => castStr q3.1 fun s4 => bif decide (s4 = s1) then (some (.ret, [.v (.int .i64 n2)], q3.2)) else (spec_l3Kind.L0 k m [.v (.str s1), .v (.int .i64 (IntKind.wrap .i64 (n2 + 1)))] q3.2)) else (some (.exit 0, [.bot], σ))) := by
  kernel_rfl
theorem spec_l3Kind.A0_x0 (k : Nat) (t1 : T) (σ : Heap) : spec_l3Kind.A0 k (.exit 0, [t1], σ) = (some (.int .i64 0, σ)) := by
  kernel_rfl
theorem spec_l3Kind.A0_ret (k : Nat) (n1 : Int) (σ : Heap) : spec_l3Kind.A0 k (.ret, [.v (.int .i64 n1)], σ) = (some (.int .i64 n1, σ)) := by
  kernel_rfl

/-! loop.example/smithy/spec.l3Kinds: function 25 -/
noncomputable def spec_l3Kinds.L0 (k : Nat) : Nat → List T → Heap → Option (Ex × List T × Heap) := hloop (hx (G.env n_spec_l3Kinds k) k 27 (subc (bodyOf Tryd.f25) [1, 1, 1, 1, 0, 1, 0, 0]) 0) 27 (G.msk n_spec_l3Kinds 0).1 (G.msk n_spec_l3Kinds 0).2
noncomputable def spec_l3Kinds.A0 (k : Nat) : Ex × List T × Heap → Option (V × Heap) := fun r => aft (G.env n_spec_l3Kinds k) k 27 (bodyOf Tryd.f25) [1, 1, 1, 1, 0, 1, 0] 0 (ck G.P Tryd.f25) r.1 (unpick 27 (G.msk n_spec_l3Kinds 0).2 r.2.1) r.2.2
theorem spec_l3Kinds.eq (k : Nat) (s1 : ByteArray) (σ : Heap) : hcall G (k + 1) n_spec_l3Kinds [.str s1] σ = (bif decide (s1 = (⟨#[]⟩ : ByteArray)) then (some ((.sl σ.length 0 0 true), hnew σ 1 [])) else ((hcall G k n_spec_l23Cut [.str s1, .int .u8 44] (hnew σ 1 [])).bind fun q2 => (spec_l3Kinds.L0 k k [.v (.sl σ.length 0 0 true), .v q2.1, .v (.int .i64 0)] q2.2).bind (spec_l3Kinds.A0 k))) := by
  kernel_rfl
theorem spec_l3Kinds.L0_step (k m : Nat) (a1 : V) (a2 : V) (n3 : Int) (σ : Heap) : spec_l3Kinds.L0 k (m + 1) [.v a1, .v a2, .v (.int .i64 n3)] σ = ((vlen a2).bind fun k4 => bif decide (n3 < (k4 : Int)) then ((vidx 1 a2 n3).bind fun p5 => (rdc σ p5.1 p5.2 1).bind fun l6 => uncons l6 fun c7 l8 => castStr c7 fun s9 => isNil l8 <| (hcall G k n_spec_l3Kind [.str s9] σ).bind fun q10 => castInt .i64 q10.1 fun n11 => (vappend 1 8 q10.2 a1 1 [.int .i64 n11]).bind fun q12 => spec_l3Kinds.L0 k m [.v q12.1, .v a2, .v (.int .i64 (IntKind.wrap .i64 (n3 + 1)))] q12.2) else (some (.exit 0, [.bot, .v a1], σ))) := by
  kernel_rfl
theorem spec_l3Kinds.A0_x0 (k : Nat) (t1 : T) (a2 : V) (σ : Heap) : spec_l3Kinds.A0 k (.exit 0, [t1, .v a2], σ) = (some (a2, σ)) := by
  kernel_rfl

/-! loop.example/smithy/spec.l3Line: function 10 -/
theorem spec_l3Line.eq (k : Nat) (s1 : ByteArray) (σ : Heap) : hcall G (k + 1) n_spec_l3Line [.str s1] σ = ((hcall G k n_spec_l23Find [.str s1, .int .u8 40] σ).bind fun q2 => castInt .i64 q2.1 fun n3 => (hcall G k n_spec_l23Find [.str s1, .int .u8 41] q2.2).bind fun q4 => castInt .i64 q4.1 fun n5 => bif decide (n3 < 0) then (some (.agg [.str (⟨#[]⟩ : ByteArray), .nils, .int .i64 0], q4.2)) else (bif decide (n5 < n3) then (some (.agg [.str (⟨#[]⟩ : ByteArray), .nils, .int .i64 0], q4.2)) else ((ssub s1 none (some n3)).bind fun s6 => (ssub s1 (some (IntKind.wrap .i64 (n3 + 1))) (some n5)).bind fun s7 => (ssub s1 (some (IntKind.wrap .i64 (n5 + 1))) none).bind fun s8 => (hcall G k n_spec_l3Kinds [.str s7] q4.2).bind fun q9 => (hcall G k n_spec_l3Kind [.str s8] q9.2).bind fun q10 => castInt .i64 q10.1 fun n11 => one q9.1 <| some (.agg [.str s6, q9.1, .int .i64 n11], q10.2)))) := by
  kernel_rfl

/-! loop.example/smithy/spec.l1Kept: function 54 -/
noncomputable def spec_l1Kept.L0 (k : Nat) : Nat → List T → Heap → Option (Ex × List T × Heap) := hloop (hx (G.env n_spec_l1Kept k) k 18 (subc (bodyOf Tryd.f54) [1, 1, 0, 1, 0, 0]) 0) 18 (G.msk n_spec_l1Kept 0).1 (G.msk n_spec_l1Kept 0).2
noncomputable def spec_l1Kept.A0 (k : Nat) : Ex × List T × Heap → Option (V × Heap) := fun r => aft (G.env n_spec_l1Kept k) k 18 (bodyOf Tryd.f54) [1, 1, 0, 1, 0] 0 (ck G.P Tryd.f54) r.1 (unpick 18 (G.msk n_spec_l1Kept 0).2 r.2.1) r.2.2
theorem spec_l1Kept.eq (k : Nat) (s1 : ByteArray) (σ : Heap) : hcall G (k + 1) n_spec_l1Kept [.str s1] σ = ((spec_l1Kept.L0 k k [.v (.str s1), .v (.sl σ.length 0 19 true), .v (.int .i64 0)] (hnew σ 1 [.str (⟨#[117, 115, 101]⟩ : ByteArray), .str (⟨#[102, 117, 110]⟩ : ByteArray), .str (⟨#[112, 117, 98]⟩ : ByteArray), .str (⟨#[109, 97, 105, 110]⟩ : ByteArray), .str (⟨#[105, 110, 116]⟩ : ByteArray), .str (⟨#[98, 111, 111, 108]⟩ : ByteArray), .str (⟨#[114, 111, 119]⟩ : ByteArray), .str (⟨#[105, 102]⟩ : ByteArray), .str (⟨#[108, 101, 116]⟩ : ByteArray), .str (⟨#[116, 114, 117, 101]⟩ : ByteArray), .str (⟨#[102, 97, 108, 115, 101]⟩ : ByteArray), .str (⟨#[97, 110, 100]⟩ : ByteArray), .str (⟨#[111, 114]⟩ : ByteArray), .str (⟨#[110, 111, 116]⟩ : ByteArray), .str (⟨#[97, 116]⟩ : ByteArray), .str (⟨#[108, 101, 110]⟩ : ByteArray), .str (⟨#[112, 117, 116]⟩ : ByteArray), .str (⟨#[106, 111, 105, 110]⟩ : ByteArray), .str (⟨#[112, 114, 105, 110, 116]⟩ : ByteArray)])).bind (spec_l1Kept.A0 k)) := by
  kernel_rfl
theorem spec_l1Kept.L0_step (k m : Nat) (s1 : ByteArray) (a2 : V) (n3 : Int) (σ : Heap) : spec_l1Kept.L0 k (m + 1) [.v (.str s1), .v a2, .v (.int .i64 n3)] σ = ((vlen a2).bind fun k4 => bif decide (n3 < (k4 : Int)) then ((vidx 1 a2 n3).bind fun p5 => (rdc σ p5.1 p5.2 1).bind fun l6 => uncons l6 fun c7 l8 => castStr c7 fun s9 => isNil l8 <| bif decide (s9 = s1) then (some (.ret, [.v (.bool true)], σ)) else (spec_l1Kept.L0 k m [.v (.str s1), .v a2, .v (.int .i64 (IntKind.wrap .i64 (n3 + 1)))] σ)) else (some (.exit 0, [.bot], σ))) := by
  kernel_rfl
theorem spec_l1Kept.A0_x0 (k : Nat) (t1 : T) (σ : Heap) : spec_l1Kept.A0 k (.exit 0, [t1], σ) = (some (.bool false, σ)) := by
  kernel_rfl
theorem spec_l1Kept.A0_ret (k : Nat) (b1 : Bool) (σ : Heap) : spec_l1Kept.A0 k (.ret, [.v (.bool b1)], σ) = (some (.bool b1, σ)) := by
  kernel_rfl

/-! loop.example/smithy/spec.LexName: function 42 -/
noncomputable def spec_LexName.L0 (k : Nat) : Nat → List T → Heap → Option (Ex × List T × Heap) := hloop (hx (G.env n_spec_LexName k) k 32 (subc (bodyOf Tryd.f42) [1, 1, 0, 1, 0, 0]) 0) 32 (G.msk n_spec_LexName 0).1 (G.msk n_spec_LexName 0).2
noncomputable def spec_LexName.A0 (k : Nat) : Ex × List T × Heap → Option (V × Heap) := fun r => aft (G.env n_spec_LexName k) k 32 (bodyOf Tryd.f42) [1, 1, 0, 1, 0] 0 (ck G.P Tryd.f42) r.1 (unpick 32 (G.msk n_spec_LexName 0).2 r.2.1) r.2.2
theorem spec_LexName.eq (k : Nat) (s1 : ByteArray) (σ : Heap) : hcall G (k + 1) n_spec_LexName [.str s1] σ = (bif decide ((s1.size : Int) < 1) then (some (.bool false, σ)) else (bif decide (8 < (s1.size : Int)) then (some (.bool false, σ)) else ((hcall G k n_spec_l1Kept [.str s1] σ).bind fun q2 => castBool q2.1 fun b3 => bif b3 then (some (.bool false, q2.2)) else ((spec_LexName.L0 k k [.v (.str s1), .v (.int .i64 0)] q2.2).bind (spec_LexName.A0 k))))) := by
  kernel_rfl
theorem spec_LexName.L0_step (k m : Nat) (s1 : ByteArray) (n2 : Int) (σ : Heap) : spec_LexName.L0 k (m + 1) [.v (.str s1), .v (.int .i64 n2)] σ = (bif decide (n2 < (s1.size : Int)) then ((sbyte s1 n2).bind fun n3 => bif decide (n3 < 97) then (some (.ret, [.v (.bool false)], σ)) else ((sbyte s1 n2).bind fun n4 => bif decide (122 < n4) then (some (.ret, [.v (.bool false)], σ)) else (spec_LexName.L0 k m [.v (.str s1), .v (.int .i64 (IntKind.wrap .i64 (n2 + 1)))] σ))) else (some (.exit 0, [.bot], σ))) := by
  kernel_rfl
theorem spec_LexName.A0_x0 (k : Nat) (t1 : T) (σ : Heap) : spec_LexName.A0 k (.exit 0, [t1], σ) = (some (.bool true, σ)) := by
  kernel_rfl
theorem spec_LexName.A0_ret (k : Nat) (b1 : Bool) (σ : Heap) : spec_LexName.A0 k (.ret, [.v (.bool b1)], σ) = (some (.bool b1, σ)) := by
  kernel_rfl

/-! loop.example/smithy/spec.l3Sig: function 27 -/
noncomputable def spec_l3Sig.L0 (k : Nat) : Nat → List T → Heap → Option (Ex × List T × Heap) := hloop (hx (G.env n_spec_l3Sig k) k 34 (subc (bodyOf Tryd.f27) [1, 1, 0, 1, 0, 0]) 0) 34 (G.msk n_spec_l3Sig 0).1 (G.msk n_spec_l3Sig 0).2
noncomputable def spec_l3Sig.A0 (k : Nat) : Ex × List T × Heap → Option (V × Heap) := fun r => aft (G.env n_spec_l3Sig k) k 34 (bodyOf Tryd.f27) [1, 1, 0, 1, 0] 0 (ck G.P Tryd.f27) r.1 (unpick 34 (G.msk n_spec_l3Sig 0).2 r.2.1) r.2.2
theorem spec_l3Sig.eq (k : Nat) (s1 : ByteArray) (a2 : V) (n3 : Int) (σ : Heap) : hcall G (k + 1) n_spec_l3Sig [.agg [.str s1, a2, .int .i64 n3]] σ = ((hcall G k n_spec_LexName [.str s1] σ).bind fun q4 => castBool q4.1 fun b5 => bif !b5 then (some (.bool false, q4.2)) else ((vlen a2).bind fun k6 => bif decide (4 < (k6 : Int)) then (some (.bool false, q4.2)) else ((hcall G k n_spec_TreeType [.int .i64 n3] q4.2).bind fun q7 => castStr q7.1 fun s8 => bif decide (s8 = (⟨#[]⟩ : ByteArray)) then (some (.bool false, q7.2)) else ((spec_l3Sig.L0 k k [.box [.str s1, a2, .int .i64 n3], .v (.int .i64 0)] q7.2).bind (spec_l3Sig.A0 k))))) := by
  kernel_rfl
theorem spec_l3Sig.L0_step (k m : Nat) (s1 : ByteArray) (a2 : V) (n3 : Int) (n4 : Int) (σ : Heap) : spec_l3Sig.L0 k (m + 1) [.box [.str s1, a2, .int .i64 n3], .v (.int .i64 n4)] σ = ((vlen a2).bind fun k5 => bif decide (n4 < (k5 : Int)) then ((vidx 1 a2 n4).bind fun p6 => (rdc σ p6.1 p6.2 1).bind fun l7 => uncons l7 fun c8 l9 => castInt .i64 c8 fun n10 => isNil l9 <| (hcall G k n_spec_TreeType [.int .i64 n10] σ).bind fun q11 => castStr q11.1 fun s12 => bif decide (s12 = (⟨#[]⟩ : ByteArray)) then (some (.ret, [.v (.bool false)], q11.2)) else (spec_l3Sig.L0 k m [.box [.str s1, a2, .int .i64 n3], .v (.int .i64 (IntKind.wrap .i64 (n4 + 1)))] q11.2)) else (some (.exit 0, [.bot], σ))) := by
  kernel_rfl
theorem spec_l3Sig.A0_x0 (k : Nat) (t1 : T) (σ : Heap) : spec_l3Sig.A0 k (.exit 0, [t1], σ) = (some (.bool true, σ)) := by
  kernel_rfl
theorem spec_l3Sig.A0_ret (k : Nat) (b1 : Bool) (σ : Heap) : spec_l3Sig.A0 k (.ret, [.v (.bool b1)], σ) = (some (.bool b1, σ)) := by
  kernel_rfl

/-! loop.example/smithy/spec.FaceOk: function 11 -/
noncomputable def spec_FaceOk.L0 (k : Nat) : Nat → List T → Heap → Option (Ex × List T × Heap) := hloop (hx (G.env n_spec_FaceOk k) k 37 (subc (bodyOf Tryd.f11) [1, 1, 0, 1, 0, 0]) 0) 37 (G.msk n_spec_FaceOk 0).1 (G.msk n_spec_FaceOk 0).2
noncomputable def spec_FaceOk.A0 (k : Nat) : Ex × List T × Heap → Option (V × Heap) := fun r => aft (G.env n_spec_FaceOk k) k 37 (bodyOf Tryd.f11) [1, 1, 0, 1, 0] 0 (ck G.P Tryd.f11) r.1 (unpick 37 (G.msk n_spec_FaceOk 0).2 r.2.1) r.2.2
theorem spec_FaceOk.eq (k : Nat) (a1 : V) (σ : Heap) : hcall G (k + 1) n_spec_FaceOk [a1] σ = ((vlen a1).bind fun k2 => bif decide (8 < (k2 : Int)) then (some (.bool false, σ)) else ((spec_FaceOk.L0 k k [.v a1, .v (.int .i64 0)] σ).bind (spec_FaceOk.A0 k))) := by
  kernel_rfl
theorem spec_FaceOk.L0_step (k m : Nat) (a1 : V) (n2 : Int) (σ : Heap) : spec_FaceOk.L0 k (m + 1) [.v a1, .v (.int .i64 n2)] σ = ((vlen a1).bind fun k3 => bif decide (n2 < (k3 : Int)) then ((vidx 3 a1 n2).bind fun p4 => (rdc σ p4.1 p4.2 3).bind fun l5 => uncons l5 fun c6 l7 => castStr c6 fun s8 => uncons l7 fun c9 l10 => uncons l10 fun c11 l12 => castInt .i64 c11 fun n13 => isNil l12 <| (hcall G k n_spec_l3Sig [.agg [.str s8, c9, .int .i64 n13]] σ).bind fun q14 => castBool q14.1 fun b15 => bif !b15 then (some (.ret, [.v (.bool false)], q14.2)) else (bif decide (0 < n2) then ((vidx 3 a1 n2).bind fun p16 => (rdc q14.2 p16.1 (p16.2 + 0) 1).bind fun l17 => uncons l17 fun c18 l19 => castStr c18 fun s20 => isNil l19 <| (vidx 3 a1 (IntKind.wrap .i64 (n2 - 1))).bind fun p21 => (rdc q14.2 p21.1 (p21.2 + 0) 1).bind fun l22 => uncons l22 fun c23 l24 => castStr c23 fun s25 => isNil l24 <| bif !Op.bytesLess s25.toList s20.toList then (some (.ret, [.v (.bool false)], q14.2)) else (spec_FaceOk.L0 k m [.v a1, .v (.int .i64 (IntKind.wrap .i64 (n2 + 1)))] q14.2)) else (spec_FaceOk.L0 k m [.v a1, .v (.int .i64 (IntKind.wrap .i64 (n2 + 1)))] q14.2))) else (some (.exit 0, [.bot], σ))) := by
  kernel_rfl
theorem spec_FaceOk.A0_x0 (k : Nat) (t1 : T) (σ : Heap) : spec_FaceOk.A0 k (.exit 0, [t1], σ) = (some (.bool true, σ)) := by
  kernel_rfl
theorem spec_FaceOk.A0_ret (k : Nat) (b1 : Bool) (σ : Heap) : spec_FaceOk.A0 k (.ret, [.v (.bool b1)], σ) = (some (.bool b1, σ)) := by
  kernel_rfl

/-! loop.example/smithy/spec.l3Types: function 28 -/
noncomputable def spec_l3Types.L0 (k : Nat) : Nat → List T → Heap → Option (Ex × List T × Heap) := hloop (hx (G.env n_spec_l3Types k) k 23 (subc (bodyOf Tryd.f28) [1, 1, 0, 1, 0, 0]) 0) 23 (G.msk n_spec_l3Types 0).1 (G.msk n_spec_l3Types 0).2
noncomputable def spec_l3Types.A0 (k : Nat) : Ex × List T × Heap → Option (V × Heap) := fun r => aft (G.env n_spec_l3Types k) k 23 (bodyOf Tryd.f28) [1, 1, 0, 1, 0] 0 (ck G.P Tryd.f28) r.1 (unpick 23 (G.msk n_spec_l3Types 0).2 r.2.1) r.2.2
theorem spec_l3Types.eq (k : Nat) (a1 : V) (σ : Heap) : hcall G (k + 1) n_spec_l3Types [a1] σ = ((spec_l3Types.L0 k k [.v a1, .v (.str (⟨#[]⟩ : ByteArray)), .v (.int .i64 0)] σ).bind (spec_l3Types.A0 k)) := by
  kernel_rfl
theorem spec_l3Types.L0_step (k m : Nat) (a1 : V) (s2 : ByteArray) (n3 : Int) (σ : Heap) : spec_l3Types.L0 k (m + 1) [.v a1, .v (.str s2), .v (.int .i64 n3)] σ = ((vlen a1).bind fun k4 => bif decide (n3 < (k4 : Int)) then (bif decide (0 < n3) then (if s2.size + (⟨#[44]⟩ : ByteArray).size ≤ 2 ^ 62 then ((vidx 1 a1 n3).bind fun p5 => (rdc σ p5.1 p5.2 1).bind fun l6 => uncons l6 fun c7 l8 => castInt .i64 c7 fun n9 => isNil l8 <| (hcall G k n_spec_TreeType [.int .i64 n9] σ).bind fun q10 => castStr q10.1 fun s11 => if (s2 ++ (⟨#[44]⟩ : ByteArray)).size + s11.size ≤ 2 ^ 62 then (spec_l3Types.L0 k m [.v a1, .v (.str ((s2 ++ (⟨#[44]⟩ : ByteArray)) ++ s11)), .v (.int .i64 (IntKind.wrap .i64 (n3 + 1)))] q10.2) else none) else none) else ((vidx 1 a1 n3).bind fun p12 => (rdc σ p12.1 p12.2 1).bind fun l13 => uncons l13 fun c14 l15 => castInt .i64 c14 fun n16 => isNil l15 <| (hcall G k n_spec_TreeType [.int .i64 n16] σ).bind fun q17 => castStr q17.1 fun s18 => if s2.size + s18.size ≤ 2 ^ 62 then (spec_l3Types.L0 k m [.v a1, .v (.str (s2 ++ s18)), .v (.int .i64 (IntKind.wrap .i64 (n3 + 1)))] q17.2) else none)) else (some (.exit 0, [.bot, .v (.str s2)], σ))) := by
  kernel_rfl
theorem spec_l3Types.A0_x0 (k : Nat) (t1 : T) (s2 : ByteArray) (σ : Heap) : spec_l3Types.A0 k (.exit 0, [t1, .v (.str s2)], σ) = (some (.str s2, σ)) := by
  kernel_rfl

/-! loop.example/smithy/spec.FaceText: function 12 -/
noncomputable def spec_FaceText.L0 (k : Nat) : Nat → List T → Heap → Option (Ex × List T × Heap) := hloop (hx (G.env n_spec_FaceText k) k 39 (subc (bodyOf Tryd.f12) [1, 1, 1, 0, 1, 0, 0]) 0) 39 (G.msk n_spec_FaceText 0).1 (G.msk n_spec_FaceText 0).2
noncomputable def spec_FaceText.A0 (k : Nat) : Ex × List T × Heap → Option (V × Heap) := fun r => aft (G.env n_spec_FaceText k) k 39 (bodyOf Tryd.f12) [1, 1, 1, 0, 1, 0] 0 (ck G.P Tryd.f12) r.1 (unpick 39 (G.msk n_spec_FaceText 0).2 r.2.1) r.2.2
theorem spec_FaceText.eq (k : Nat) (a1 : V) (σ : Heap) : hcall G (k + 1) n_spec_FaceText [a1] σ = ((hcall G k n_spec_FaceOk [a1] σ).bind fun q2 => castBool q2.1 fun b3 => bif !b3 then (some (.str (⟨#[]⟩ : ByteArray), q2.2)) else ((spec_FaceText.L0 k k [.v a1, .v (.str (⟨#[]⟩ : ByteArray)), .v (.int .i64 0)] q2.2).bind (spec_FaceText.A0 k))) := by
  kernel_rfl
theorem spec_FaceText.L0_step (k m : Nat) (a1 : V) (s2 : ByteArray) (n3 : Int) (σ : Heap) : spec_FaceText.L0 k (m + 1) [.v a1, .v (.str s2), .v (.int .i64 n3)] σ = ((vlen a1).bind fun k4 => bif decide (n3 < (k4 : Int)) then ((vidx 3 a1 n3).bind fun p5 => (rdc σ p5.1 (p5.2 + 0) 1).bind fun l6 => uncons l6 fun c7 l8 => castStr c7 fun s9 => isNil l8 <| if s2.size + s9.size ≤ 2 ^ 62 then (if (s2 ++ s9).size + (⟨#[40]⟩ : ByteArray).size ≤ 2 ^ 62 then ((vidx 3 a1 n3).bind fun p10 => (rdc σ p10.1 (p10.2 + 1) 1).bind fun l11 => uncons l11 fun c12 l13 => isNil l13 <| (vidx 3 a1 n3).bind fun p14 => (rdc σ p14.1 (p14.2 + 2) 1).bind fun l15 => uncons l15 fun c16 l17 => castInt .i64 c16 fun n18 => isNil l17 <| (hcall G k n_spec_l3Types [c12] (prot [p14.1, p5.1] σ)).bind fun q19 => castStr q19.1 fun s20 => if ((s2 ++ s9) ++ (⟨#[40]⟩ : ByteArray)).size + s20.size ≤ 2 ^ 62 then (if (((s2 ++ s9) ++ (⟨#[40]⟩ : ByteArray)) ++ s20).size + (⟨#[41]⟩ : ByteArray).size ≤ 2 ^ 62 then ((hcall G k n_spec_TreeType [.int .i64 n18] (prot [p5.1] (unprot [p14.1, p5.1] σ q19.2))).bind fun q21 => castStr q21.1 fun s22 => if ((((s2 ++ s9) ++ (⟨#[40]⟩ : ByteArray)) ++ s20) ++ (⟨#[41]⟩ : ByteArray)).size + s22.size ≤ 2 ^ 62 then (if (((((s2 ++ s9) ++ (⟨#[40]⟩ : ByteArray)) ++ s20) ++ (⟨#[41]⟩ : ByteArray)) ++ s22).size + (⟨#[10]⟩ : ByteArray).size ≤ 2 ^ 62 then (spec_FaceText.L0 k m [.v a1, .v (.str ((((((s2 ++ s9) ++ (⟨#[40]⟩ : ByteArray)) ++ s20) ++ (⟨#[41]⟩ : ByteArray)) ++ s22) ++ (⟨#[10]⟩ : ByteArray))), .v (.int .i64 (IntKind.wrap .i64 (n3 + 1)))] (unprot [p5.1] (unprot [p14.1, p5.1] σ q19.2) q21.2)) else none) else none) else none) else none) else none) else none) else (some (.exit 0, [.bot, .v (.str s2)], σ))) := by
  kernel_rfl
theorem spec_FaceText.A0_x0 (k : Nat) (t1 : T) (s2 : ByteArray) (σ : Heap) : spec_FaceText.A0 k (.exit 0, [t1, .v (.str s2)], σ) = (some (.str s2, σ)) := by
  kernel_rfl

/-! loop.example/smithy/spec.FaceRead: function 4 -/
noncomputable def spec_FaceRead.L0 (k : Nat) : Nat → List T → Heap → Option (Ex × List T × Heap) := hloop (hx (G.env n_spec_FaceRead k) k 38 (subc (bodyOf Tryd.f4) [1, 1, 1, 1, 0, 1, 0, 0]) 0) 38 (G.msk n_spec_FaceRead 0).1 (G.msk n_spec_FaceRead 0).2
noncomputable def spec_FaceRead.A0 (k : Nat) : Ex × List T × Heap → Option (V × Heap) := fun r => aft (G.env n_spec_FaceRead k) k 38 (bodyOf Tryd.f4) [1, 1, 1, 1, 0, 1, 0] 0 (ck G.P Tryd.f4) r.1 (unpick 38 (G.msk n_spec_FaceRead 0).2 r.2.1) r.2.2
theorem spec_FaceRead.eq (k : Nat) (s1 : ByteArray) (σ : Heap) : hcall G (k + 1) n_spec_FaceRead [.str s1] σ = (bif decide (400 < (s1.size : Int)) then (some (.tuple [.nils, .bool false], σ)) else ((hcall G k n_spec_l23Cut [.str s1, .int .u8 10] σ).bind fun q2 => (spec_FaceRead.L0 k k [.v (.str s1), .v q2.1, .v (.sl q2.2.length 0 0 true), .v (.int .i64 0)] (hnew q2.2 3 [])).bind (spec_FaceRead.A0 k))) := by
  kernel_rfl
theorem spec_FaceRead.L0_step (k m : Nat) (s1 : ByteArray) (a2 : V) (a3 : V) (n4 : Int) (σ : Heap) : spec_FaceRead.L0 k (m + 1) [.v (.str s1), .v a2, .v a3, .v (.int .i64 n4)] σ = ((vlen a2).bind fun k5 => bif decide (IntKind.wrap .i64 (n4 + 1) < (k5 : Int)) then ((vidx 1 a2 n4).bind fun p6 => (rdc σ p6.1 p6.2 1).bind fun l7 => uncons l7 fun c8 l9 => castStr c8 fun s10 => isNil l9 <| (hcall G k n_spec_l3Line [.str s10] σ).bind fun q11 => castAgg q11.1 fun l12 => uncons l12 fun c13 l14 => castStr c13 fun s15 => uncons l14 fun c16 l17 => uncons l17 fun c18 l19 => castInt .i64 c18 fun n20 => isNil l19 <| (vappend 3 48 q11.2 a3 1 [.str s15, c16, .int .i64 n20]).bind fun q21 => spec_FaceRead.L0 k m [.v (.str s1), .v a2, .v q21.1, .v (.int .i64 (IntKind.wrap .i64 (n4 + 1)))] q21.2) else (some (.exit 0, [.v (.str s1), .bot, .bot, .v a3], σ))) := by
  kernel_rfl
theorem spec_FaceRead.A0_x0 (k : Nat) (s1 : ByteArray) (t2 : T) (t3 : T) (a4 : V) (σ : Heap) : spec_FaceRead.A0 k (.exit 0, [.v (.str s1), t2, t3, .v a4], σ) = ((hcall G k n_spec_FaceOk [a4] σ).bind fun q5 => castBool q5.1 fun b6 => bif !b6 then (some (.tuple [.nils, .bool false], q5.2)) else ((hcall G k n_spec_FaceText [a4] q5.2).bind fun q7 => castStr q7.1 fun s8 => bif !decide (s8 = s1) then (some (.tuple [.nils, .bool false], q7.2)) else (some (.tuple [a4, .bool true], q7.2)))) := by
  kernel_rfl

/-! internal/stringslite.HasSuffix: function 46 -/
theorem internal_stringslite_HasSuffix.eq (k : Nat) (s1 : ByteArray) (s2 : ByteArray) (σ : Heap) : hcall G (k + 1) n_internal_stringslite_HasSuffix [.str s1, .str s2] σ = (bif decide ((s2.size : Int) ≤ (s1.size : Int)) then ((ssub s1 (some (IntKind.wrap .i64 ((s1.size : Int) - (s2.size : Int)))) none).bind fun s3 => some (.bool (decide (s3 = s2)), σ)) else (some (.bool false, σ))) := by
  kernel_rfl

/-! internal/stringslite.TrimSuffix: function 31 -/
theorem internal_stringslite_TrimSuffix.eq (k : Nat) (s1 : ByteArray) (s2 : ByteArray) (σ : Heap) : hcall G (k + 1) n_internal_stringslite_TrimSuffix [.str s1, .str s2] σ = ((hcall G k n_internal_stringslite_HasSuffix [.str s1, .str s2] σ).bind fun q3 => castBool q3.1 fun b4 => bif b4 then ((ssub s1 none (some (IntKind.wrap .i64 ((s1.size : Int) - (s2.size : Int))))).bind fun s5 => some (.str s5, q3.2)) else (some (.str s1, q3.2))) := by
  kernel_rfl

/-! strings.TrimSuffix: function 14 -/
theorem strings_TrimSuffix.eq (k : Nat) (s1 : ByteArray) (s2 : ByteArray) (σ : Heap) : hcall G (k + 1) n_strings_TrimSuffix [.str s1, .str s2] σ = ((hcall G k n_internal_stringslite_TrimSuffix [.str s1, .str s2] σ).bind fun q3 => castStr q3.1 fun s4 => some (.str s4, q3.2)) := by
  kernel_rfl

/-! internal/stringslite.Cut: function 32 -/
theorem internal_stringslite_Cut.eq (k : Nat) (s1 : ByteArray) (s2 : ByteArray) (σ : Heap) : hcall G (k + 1) n_internal_stringslite_Cut [.str s1, .str s2] σ = ((hcall G k n_internal_stringslite_Index [.str s1, .str s2] σ).bind fun q3 => castInt .i64 q3.1 fun n4 => bif decide (0 ≤ n4) then ((ssub s1 none (some n4)).bind fun s5 => (ssub s1 (some (IntKind.wrap .i64 (n4 + (s2.size : Int)))) none).bind fun s6 => some (.tuple [.str s5, .str s6, .bool true], q3.2)) else (some (.tuple [.str s1, .str (⟨#[]⟩ : ByteArray), .bool false], q3.2))) := by
  kernel_rfl

/-! strings.Cut: function 15 -/
theorem strings_Cut.eq (k : Nat) (s1 : ByteArray) (s2 : ByteArray) (σ : Heap) : hcall G (k + 1) n_strings_Cut [.str s1, .str s2] σ = ((hcall G k n_internal_stringslite_Cut [.str s1, .str s2] σ).bind fun q3 => castTuple q3.1 fun l4 => uncons l4 fun c5 l6 => castStr c5 fun s7 => uncons l6 fun c8 l9 => castStr c8 fun s10 => uncons l9 fun c11 l12 => castBool c11 fun b13 => isNil l12 <| some (.tuple [.str s7, .str s10, .bool b13], q3.2)) := by
  kernel_rfl

/-! slices.Index[[]string,string]: function 33 -/
noncomputable def slices_Index_string_string.L0 (k : Nat) : Nat → List T → Heap → Option (Ex × List T × Heap) := hloop (hx (G.env n_slices_Index_string_string k) k 19 (subc (bodyOf Tryd.f33) [1, 0, 1, 0, 0]) 0) 19 (G.msk n_slices_Index_string_string 0).1 (G.msk n_slices_Index_string_string 0).2
noncomputable def slices_Index_string_string.A0 (k : Nat) : Ex × List T × Heap → Option (V × Heap) := fun r => aft (G.env n_slices_Index_string_string k) k 19 (bodyOf Tryd.f33) [1, 0, 1, 0] 0 (ck G.P Tryd.f33) r.1 (unpick 19 (G.msk n_slices_Index_string_string 0).2 r.2.1) r.2.2
theorem slices_Index_string_string.eq (k : Nat) (a1 : V) (s2 : ByteArray) (σ : Heap) : hcall G (k + 1) n_slices_Index_string_string [a1, .str s2] σ = ((vlen a1).bind fun k3 => (slices_Index_string_string.L0 k k [.v a1, .v (.str s2), .v (.int .i64 (k3 : Int)), .v (.int .i64 0)] σ).bind (slices_Index_string_string.A0 k)) := by
  kernel_rfl
theorem slices_Index_string_string.L0_step (k m : Nat) (a1 : V) (s2 : ByteArray) (n3 : Int) (n4 : Int) (σ : Heap) : slices_Index_string_string.L0 k (m + 1) [.v a1, .v (.str s2), .v (.int .i64 n3), .v (.int .i64 n4)] σ = (bif decide (n4 < n3) then ((vidx 1 a1 n4).bind fun p5 => (rdc σ p5.1 p5.2 1).bind fun l6 => uncons l6 fun c7 l8 => castStr c7 fun s9 => isNil l8 <| bif decide (s2 = s9) then (some (.ret, [.v (.int .i64 n4)], σ)) else (slices_Index_string_string.L0 k m [.v a1, .v (.str s2), .v (.int .i64 n3), .v (.int .i64 (IntKind.wrap .i64 (n4 + 1)))] σ)) else (some (.exit 0, [.bot], σ))) := by
  kernel_rfl
theorem slices_Index_string_string.A0_x0 (k : Nat) (t1 : T) (σ : Heap) : slices_Index_string_string.A0 k (.exit 0, [t1], σ) = (some (.int .i64 (-1), σ)) := by
  kernel_rfl
theorem slices_Index_string_string.A0_ret (k : Nat) (n1 : Int) (σ : Heap) : slices_Index_string_string.A0 k (.ret, [.v (.int .i64 n1)], σ) = (some (.int .i64 n1, σ)) := by
  kernel_rfl

/-! loop.example/smithy/impl.typeOf: function 17 -/
theorem impl_typeOf.eq (k : Nat) (s1 : ByteArray) (σ : Heap) : hcall G (k + 1) n_impl_typeOf [.str s1] σ = ((gwhole σ 0 0 3 1).bind fun a2 => (hcall G k n_slices_Index_string_string [a2, .str s1] σ).bind fun q3 => castInt .i64 q3.1 fun n4 => bif decide (n4 < 0) then (some (.int .i64 0, q3.2)) else (some (.int .i64 (IntKind.wrap .i64 (n4 + 1)), q3.2))) := by
  kernel_rfl

/-! loop.example/smithy/impl.readTypes: function 16 -/
noncomputable def impl_readTypes.L0 (k : Nat) : Nat → List T → Heap → Option (Ex × List T × Heap) := hloop (hx (G.env n_impl_readTypes k) k 24 (subc (bodyOf Tryd.f16) [1, 1, 1, 0, 1, 0, 0]) 0) 24 (G.msk n_impl_readTypes 0).1 (G.msk n_impl_readTypes 0).2
noncomputable def impl_readTypes.A0 (k : Nat) : Ex × List T × Heap → Option (V × Heap) := fun r => aft (G.env n_impl_readTypes k) k 24 (bodyOf Tryd.f16) [1, 1, 1, 0, 1, 0] 0 (ck G.P Tryd.f16) r.1 (unpick 24 (G.msk n_impl_readTypes 0).2 r.2.1) r.2.2
theorem impl_readTypes.eq (k : Nat) (s1 : ByteArray) (σ : Heap) : hcall G (k + 1) n_impl_readTypes [.str s1] σ = (bif decide (s1 = (⟨#[]⟩ : ByteArray)) then (some ((.sl σ.length 0 0 true), hnew σ 1 [])) else ((hcall G k n_strings_Split [.str s1, .str (⟨#[44]⟩ : ByteArray)] (hnew σ 1 [])).bind fun q2 => (vlen q2.1).bind fun k3 => (impl_readTypes.L0 k k [.v (.sl σ.length 0 0 true), .v q2.1, .v (.int .i64 (k3 : Int)), .v (.int .i64 0)] q2.2).bind (impl_readTypes.A0 k))) := by
  kernel_rfl
theorem impl_readTypes.L0_step (k m : Nat) (a1 : V) (a2 : V) (n3 : Int) (n4 : Int) (σ : Heap) : impl_readTypes.L0 k (m + 1) [.v a1, .v a2, .v (.int .i64 n3), .v (.int .i64 n4)] σ = (bif decide (n4 < n3) then ((vidx 1 a2 n4).bind fun p5 => (rdc σ p5.1 p5.2 1).bind fun l6 => uncons l6 fun c7 l8 => castStr c7 fun s9 => isNil l8 <| (hcall G k n_impl_typeOf [.str s9] σ).bind fun q10 => castInt .i64 q10.1 fun n11 => (vappend 1 8 q10.2 a1 1 [.int .i64 n11]).bind fun q12 => impl_readTypes.L0 k m [.v q12.1, .v a2, .v (.int .i64 n3), .v (.int .i64 (IntKind.wrap .i64 (n4 + 1)))] q12.2) else (some (.exit 0, [.bot, .v a1], σ))) := by
  kernel_rfl
theorem impl_readTypes.A0_x0 (k : Nat) (t1 : T) (a2 : V) (σ : Heap) : impl_readTypes.A0 k (.exit 0, [t1, .v a2], σ) = (some (a2, σ)) := by
  kernel_rfl

/-! loop.example/smithy/impl.inRange: function 48 -/
theorem impl_inRange.eq (k : Nat) (n1 : Int) (n2 : Int) (n3 : Int) (σ : Heap) : hcall G (k + 1) n_impl_inRange [.int .i64 n1, .int .i64 n2, .int .i64 n3] σ = (bif decide (n2 ≤ n1) then (some (.bool (decide (n1 ≤ n3)), σ)) else (some (.bool false, σ))) := by
  kernel_rfl

/-! slices.Contains[[]string,string]: function 62 -/
theorem slices_Contains_string_string.eq (k : Nat) (a1 : V) (s2 : ByteArray) (σ : Heap) : hcall G (k + 1) n_slices_Contains_string_string [a1, .str s2] σ = ((hcall G k n_slices_Index_string_string [a1, .str s2] σ).bind fun q3 => castInt .i64 q3.1 fun n4 => some (.bool (decide (0 ≤ n4)), q3.2)) := by
  kernel_rfl

/-! loop.example/smithy/impl.isOwn: function 49 -/
theorem impl_isOwn.eq (k : Nat) (s1 : ByteArray) (σ : Heap) : hcall G (k + 1) n_impl_isOwn [.str s1] σ = ((hcall G k n_slices_Contains_string_string [(.sl σ.length 0 19 true), .str s1] (hnew σ 1 [.str (⟨#[117, 115, 101]⟩ : ByteArray), .str (⟨#[102, 117, 110]⟩ : ByteArray), .str (⟨#[112, 117, 98]⟩ : ByteArray), .str (⟨#[109, 97, 105, 110]⟩ : ByteArray), .str (⟨#[105, 110, 116]⟩ : ByteArray), .str (⟨#[98, 111, 111, 108]⟩ : ByteArray), .str (⟨#[114, 111, 119]⟩ : ByteArray), .str (⟨#[105, 102]⟩ : ByteArray), .str (⟨#[108, 101, 116]⟩ : ByteArray), .str (⟨#[116, 114, 117, 101]⟩ : ByteArray), .str (⟨#[102, 97, 108, 115, 101]⟩ : ByteArray), .str (⟨#[97, 110, 100]⟩ : ByteArray), .str (⟨#[111, 114]⟩ : ByteArray), .str (⟨#[110, 111, 116]⟩ : ByteArray), .str (⟨#[97, 116]⟩ : ByteArray), .str (⟨#[108, 101, 110]⟩ : ByteArray), .str (⟨#[112, 117, 116]⟩ : ByteArray), .str (⟨#[106, 111, 105, 110]⟩ : ByteArray), .str (⟨#[112, 114, 105, 110, 116]⟩ : ByteArray)])).bind fun q2 => castBool q2.1 fun b3 => some (.bool b3, q2.2)) := by
  kernel_rfl

/-! loop.example/smithy/impl.LexName: function 34 -/
noncomputable def impl_LexName.L0 (k : Nat) : Nat → List T → Heap → Option (Ex × List T × Heap) := hloop (hx (G.env n_impl_LexName k) k 28 (subc (bodyOf Tryd.f34) [1, 0, 1, 0, 0]) 0) 28 (G.msk n_impl_LexName 0).1 (G.msk n_impl_LexName 0).2
noncomputable def impl_LexName.A0 (k : Nat) : Ex × List T × Heap → Option (V × Heap) := fun r => aft (G.env n_impl_LexName k) k 28 (bodyOf Tryd.f34) [1, 0, 1, 0] 0 (ck G.P Tryd.f34) r.1 (unpick 28 (G.msk n_impl_LexName 0).2 r.2.1) r.2.2
theorem impl_LexName.eq (k : Nat) (s1 : ByteArray) (σ : Heap) : hcall G (k + 1) n_impl_LexName [.str s1] σ = ((impl_LexName.L0 k k [.v (.str s1), .v (.int .i64 (s1.size : Int)), .v (.int .i64 0)] σ).bind (impl_LexName.A0 k)) := by
  kernel_rfl
theorem impl_LexName.L0_step (k m : Nat) (s1 : ByteArray) (n2 : Int) (n3 : Int) (σ : Heap) : impl_LexName.L0 k (m + 1) [.v (.str s1), .v (.int .i64 n2), .v (.int .i64 n3)] σ = (bif decide (n3 < n2) then ((sbyte s1 n3).bind fun n4 => bif decide (n4 < 97) then (some (.ret, [.v (.str s1), .v (.bool false)], σ)) else ((sbyte s1 n3).bind fun n5 => bif decide (122 < n5) then (some (.ret, [.v (.str s1), .v (.bool false)], σ)) else (impl_LexName.L0 k m [.v (.str s1), .v (.int .i64 n2), .v (.int .i64 (IntKind.wrap .i64 (n3 + 1)))] σ))) else (some (.exit 0, [.v (.str s1), .bot], σ))) := by
  kernel_rfl
theorem impl_LexName.A0_x0 (k : Nat) (s1 : ByteArray) (t2 : T) (σ : Heap) : impl_LexName.A0 k (.exit 0, [.v (.str s1), t2], σ) = ((hcall G k n_impl_inRange [.int .i64 (s1.size : Int), .int .i64 1, .int .i64 8] σ).bind fun q3 => castBool q3.1 fun b4 => bif b4 then ((hcall G k n_impl_isOwn [.str s1] q3.2).bind fun q5 => castBool q5.1 fun b6 => some (.bool (!b6), q5.2)) else (some (.bool false, q3.2))) := by
  kernel_rfl
theorem impl_LexName.A0_ret (k : Nat) (t1 : T) (b2 : Bool) (σ : Heap) : impl_LexName.A0 k (.ret, [t1, .v (.bool b2)], σ) = (some (.bool b2, σ)) := by
  kernel_rfl

/-! slices.IndexFunc[[]int,int]: function 63 -/
noncomputable def slices_IndexFunc_int_int.L0 (k : Nat) : Nat → List T → Heap → Option (Ex × List T × Heap) := hloop (hx (G.env n_slices_IndexFunc_int_int k) k 19 (subc (bodyOf Tryd.f63) [1, 0, 1, 0, 0]) 0) 19 (G.msk n_slices_IndexFunc_int_int 0).1 (G.msk n_slices_IndexFunc_int_int 0).2
noncomputable def slices_IndexFunc_int_int.A0 (k : Nat) : Ex × List T × Heap → Option (V × Heap) := fun r => aft (G.env n_slices_IndexFunc_int_int k) k 19 (bodyOf Tryd.f63) [1, 0, 1, 0] 0 (ck G.P Tryd.f63) r.1 (unpick 19 (G.msk n_slices_IndexFunc_int_int 0).2 r.2.1) r.2.2
theorem slices_IndexFunc_int_int.eq (k : Nat) (a1 : V) (a2 : V) (σ : Heap) : hcall G (k + 1) n_slices_IndexFunc_int_int [a1, a2] σ = ((vlen a1).bind fun k3 => (slices_IndexFunc_int_int.L0 k k [.v a1, .v a2, .v (.int .i64 (k3 : Int)), .v (.int .i64 0)] σ).bind (slices_IndexFunc_int_int.A0 k)) := by
  kernel_rfl
theorem slices_IndexFunc_int_int.L0_step (k m : Nat) (a1 : V) (a2 : V) (n3 : Int) (n4 : Int) (σ : Heap) : slices_IndexFunc_int_int.L0 k (m + 1) [.v a1, .v a2, .v (.int .i64 n3), .v (.int .i64 n4)] σ = (bif decide (n4 < n3) then ((vidx 1 a1 n4).bind fun p5 => (rdc σ p5.1 p5.2 1).bind fun l6 => uncons l6 fun c7 l8 => castInt .i64 c7 fun n9 => isNil l8 <| castFn a2 fun f11 l12 => (hcall G k f11 ([.int .i64 n9] ++ l12) σ).bind fun q10 => castBool q10.1 fun b13 => bif b13 then (some (.ret, [.v (.int .i64 n4)], q10.2)) else (slices_IndexFunc_int_int.L0 k m [.v a1, .v a2, .v (.int .i64 n3), .v (.int .i64 (IntKind.wrap .i64 (n4 + 1)))] q10.2)) else (some (.exit 0, [.bot], σ))) := by
  kernel_rfl
theorem slices_IndexFunc_int_int.A0_x0 (k : Nat) (t1 : T) (σ : Heap) : slices_IndexFunc_int_int.A0 k (.exit 0, [t1], σ) = (some (.int .i64 (-1), σ)) := by
  kernel_rfl
theorem slices_IndexFunc_int_int.A0_ret (k : Nat) (n1 : Int) (σ : Heap) : slices_IndexFunc_int_int.A0 k (.ret, [.v (.int .i64 n1)], σ) = (some (.int .i64 n1, σ)) := by
  kernel_rfl

/-! slices.ContainsFunc[[]int,int]: function 50 -/
theorem slices_ContainsFunc_int_int.eq (k : Nat) (a1 : V) (a2 : V) (σ : Heap) : hcall G (k + 1) n_slices_ContainsFunc_int_int [a1, a2] σ = ((hcall G k n_slices_IndexFunc_int_int [a1, a2] σ).bind fun q3 => castInt .i64 q3.1 fun n4 => some (.bool (decide (0 ≤ n4)), q3.2)) := by
  kernel_rfl

/-! loop.example/smithy/impl.isType: function 36 -/
theorem impl_isType.eq (k : Nat) (n1 : Int) (σ : Heap) : hcall G (k + 1) n_impl_isType [.int .i64 n1] σ = ((hcall G k n_impl_inRange [.int .i64 n1, .int .i64 1, .int .i64 3] σ).bind fun q2 => castBool q2.1 fun b3 => some (.bool b3, q2.2)) := by
  kernel_rfl

/-! loop.example/smithy/impl.areTypes$1: function 51 -/
theorem impl_areTypes_1.eq (k : Nat) (n1 : Int) (σ : Heap) : hcall G (k + 1) n_impl_areTypes_1 [.int .i64 n1] σ = ((hcall G k n_impl_isType [.int .i64 n1] σ).bind fun q2 => castBool q2.1 fun b3 => some (.bool (!b3), q2.2)) := by
  kernel_rfl

/-! loop.example/smithy/impl.areTypes: function 35 -/
theorem impl_areTypes.eq (k : Nat) (a1 : V) (σ : Heap) : hcall G (k + 1) n_impl_areTypes [a1] σ = ((vlen a1).bind fun k2 => bif decide ((k2 : Int) ≤ 4) then ((hcall G k n_slices_ContainsFunc_int_int [a1, .fn n_impl_areTypes_1 []] σ).bind fun q3 => castBool q3.1 fun b4 => some (.bool (!b4), q3.2)) else (some (.bool false, σ))) := by
  kernel_rfl

/-! loop.example/smithy/impl.FaceOk: function 18 -/
noncomputable def impl_FaceOk.L0 (k : Nat) : Nat → List T → Heap → Option (Ex × List T × Heap) := hloop (hx (G.env n_impl_FaceOk k) k 47 (subc (bodyOf Tryd.f18) [1, 0, 1, 0, 0]) 0) 47 (G.msk n_impl_FaceOk 0).1 (G.msk n_impl_FaceOk 0).2
noncomputable def impl_FaceOk.A0 (k : Nat) : Ex × List T × Heap → Option (V × Heap) := fun r => aft (G.env n_impl_FaceOk k) k 47 (bodyOf Tryd.f18) [1, 0, 1, 0] 0 (ck G.P Tryd.f18) r.1 (unpick 47 (G.msk n_impl_FaceOk 0).2 r.2.1) r.2.2
theorem impl_FaceOk.eq (k : Nat) (a1 : V) (σ : Heap) : hcall G (k + 1) n_impl_FaceOk [a1] σ = ((vlen a1).bind fun k2 => (impl_FaceOk.L0 k k [.v a1, .v a1, .v (.int .i64 (k2 : Int)), .v (.int .i64 0)] σ).bind (impl_FaceOk.A0 k)) := by
  kernel_rfl
theorem impl_FaceOk.L0_step (k m : Nat) (a1 : V) (a2 : V) (n3 : Int) (n4 : Int) (σ : Heap) : impl_FaceOk.L0 k (m + 1) [.v a1, .v a2, .v (.int .i64 n3), .v (.int .i64 n4)] σ = (bif decide (n4 < n3) then ((vidx 3 a2 n4).bind fun p5 => (rdc σ p5.1 p5.2 3).bind fun l6 => uncons l6 fun c7 l8 => castStr c7 fun s9 => uncons l8 fun c10 l11 => uncons l11 fun c12 l13 => castInt .i64 c12 fun n14 => isNil l13 <| (hcall G k n_impl_LexName [.str s9] σ).bind fun q15 => castBool q15.1 fun b16 => bif !b16 then (some (.ret, [.v a1, .v (.bool false)], q15.2)) else (bif decide (0 < n4) then ((vidx 3 a1 (IntKind.wrap .i64 (n4 - 1))).bind fun p17 => (rdc q15.2 p17.1 (p17.2 + 0) 1).bind fun l18 => uncons l18 fun c19 l20 => castStr c19 fun s21 => isNil l20 <| bif !Op.bytesLess s21.toList s9.toList then (some (.ret, [.v a1, .v (.bool false)], q15.2)) else ((hcall G k n_impl_areTypes [c10] (prot [p17.1] q15.2)).bind fun q22 => castBool q22.1 fun b23 => bif !b23 then (some (.ret, [.v a1, .v (.bool false)], unprot [p17.1] q15.2 q22.2)) else ((hcall G k n_impl_isType [.int .i64 n14] (prot [p17.1] (unprot [p17.1] q15.2 q22.2))).bind fun q24 => castBool q24.1 fun b25 => bif !b25 then (some (.ret, [.v a1, .v (.bool false)], unprot [p17.1] (unprot [p17.1] q15.2 q22.2) q24.2)) else (impl_FaceOk.L0 k m [.v a1, .v a2, .v (.int .i64 n3), .v (.int .i64 (IntKind.wrap .i64 (n4 + 1)))] (unprot [p17.1] (unprot [p17.1] q15.2 q22.2) q24.2))))) else ((hcall G k n_impl_areTypes [c10] q15.2).bind fun q26 => castBool q26.1 fun b27 => bif !b27 then (some (.ret, [.v a1, .v (.bool false)], q26.2)) else ((hcall G k n_impl_isType [.int .i64 n14] q26.2).bind fun q28 => castBool q28.1 fun b29 => bif !b29 then (some (.ret, [.v a1, .v (.bool false)], q28.2)) else (impl_FaceOk.L0 k m [.v a1, .v a2, .v (.int .i64 n3), .v (.int .i64 (IntKind.wrap .i64 (n4 + 1)))] q28.2))))) else (some (.exit 0, [.v a1, .bot], σ))) := by
  kernel_rfl
theorem impl_FaceOk.A0_x0 (k : Nat) (a1 : V) (t2 : T) (σ : Heap) : impl_FaceOk.A0 k (.exit 0, [.v a1, t2], σ) = ((vlen a1).bind fun k3 => some (.bool (decide ((k3 : Int) ≤ 8)), σ)) := by
  kernel_rfl
theorem impl_FaceOk.A0_ret (k : Nat) (t1 : T) (b2 : Bool) (σ : Heap) : impl_FaceOk.A0 k (.ret, [t1, .v (.bool b2)], σ) = (some (.bool b2, σ)) := by
  kernel_rfl

/-! (*strings.Builder).WriteString: function 37 -/
theorem pstrings_Builder_WriteString.eq (k : Nat) (a1 : V) (s2 : ByteArray) (σ : Heap) : hcall G (k + 1) n_pstrings_Builder_WriteString [a1, .str s2] σ = ((hcall G k n_pstrings_Builder_copyCheck [a1] σ).bind fun q3 => castTuple q3.1 fun l4 => isNil l4 <| castPtr a1 fun r5 o6 => (rdc q3.2 r5 (o6 + 1) 1).bind fun l7 => uncons l7 fun c8 l9 => isNil l9 <| (vappendT 6 1 1 q3.2 c8 s2.size (s2.data.toList.map fun c => V.int .u8 c.toNat)).bind fun q10 => castPtr a1 fun r11 o12 => one q10.1 <| (wrc q10.2 r11 (o12 + 1) [q10.1]).bind fun h13 => some (.tuple [.int .i64 (s2.size : Int), .nili], h13)) := by
  kernel_rfl

/-! loop.example/smithy/impl.TreeType: function 39 -/
theorem impl_TreeType.eq (k : Nat) (n1 : Int) (σ : Heap) : hcall G (k + 1) n_impl_TreeType [.int .i64 n1] σ = ((hcall G k n_impl_isType [.int .i64 n1] σ).bind fun q2 => castBool q2.1 fun b3 => bif !b3 then (some (.str (⟨#[]⟩ : ByteArray), q2.2)) else (if 0 ≤ IntKind.wrap .i64 (n1 - 1) ∧ IntKind.wrap .i64 (n1 - 1) < ((3 : Nat) : Int) then ((rdc q2.2 0 (0 + (IntKind.wrap .i64 (n1 - 1)).toNat * 1) 1).bind fun l5 => uncons l5 fun c6 l7 => castStr c6 fun s8 => isNil l7 <| some (.str s8, q2.2)) else none)) := by
  kernel_rfl

/-! loop.example/smithy/impl.typeList: function 38 -/
noncomputable def impl_typeList.L0 (k : Nat) : Nat → List T → Heap → Option (Ex × List T × Heap) := hloop (hx (G.env n_impl_typeList k) k 21 (subc (bodyOf Tryd.f38) [1, 1, 0, 1, 0, 0]) 0) 21 (G.msk n_impl_typeList 0).1 (G.msk n_impl_typeList 0).2
noncomputable def impl_typeList.A0 (k : Nat) : Ex × List T × Heap → Option (V × Heap) := fun r => aft (G.env n_impl_typeList k) k 21 (bodyOf Tryd.f38) [1, 1, 0, 1, 0] 0 (ck G.P Tryd.f38) r.1 (unpick 21 (G.msk n_impl_typeList 0).2 r.2.1) r.2.2
theorem impl_typeList.eq (k : Nat) (a1 : V) (σ : Heap) : hcall G (k + 1) n_impl_typeList [a1] σ = ((vlen a1).bind fun k2 => (impl_typeList.L0 k k [.v (.sl σ.length 0 0 true), .v a1, .v (.int .i64 (k2 : Int)), .v (.int .i64 0)] (hnew σ 1 [])).bind (impl_typeList.A0 k)) := by
  kernel_rfl
theorem impl_typeList.L0_step (k m : Nat) (a1 : V) (a2 : V) (n3 : Int) (n4 : Int) (σ : Heap) : impl_typeList.L0 k (m + 1) [.v a1, .v a2, .v (.int .i64 n3), .v (.int .i64 n4)] σ = (bif decide (n4 < n3) then ((vidx 1 a2 n4).bind fun p5 => (rdc σ p5.1 p5.2 1).bind fun l6 => uncons l6 fun c7 l8 => castInt .i64 c7 fun n9 => isNil l8 <| (hcall G k n_impl_TreeType [.int .i64 n9] σ).bind fun q10 => castStr q10.1 fun s11 => (vappend 1 16 q10.2 a1 1 [.str s11]).bind fun q12 => impl_typeList.L0 k m [.v q12.1, .v a2, .v (.int .i64 n3), .v (.int .i64 (IntKind.wrap .i64 (n4 + 1)))] q12.2) else (some (.exit 0, [.bot, .v a1], σ))) := by
  kernel_rfl
theorem impl_typeList.A0_x0 (k : Nat) (t1 : T) (a2 : V) (σ : Heap) : impl_typeList.A0 k (.exit 0, [t1, .v a2], σ) = ((hcall G k n_strings_Join [a2, .str (⟨#[44]⟩ : ByteArray)] σ).bind fun q3 => castStr q3.1 fun s4 => some (.str s4, q3.2)) := by
  kernel_rfl

/-! loop.example/smithy/impl.FaceText: function 19 -/
noncomputable def impl_FaceText.L0 (k : Nat) : Nat → List T → Heap → Option (Ex × List T × Heap) := hloop (hx (G.env n_impl_FaceText k) k 31 (subc (bodyOf Tryd.f19) [1, 1, 1, 0, 1, 0, 0]) 0) 31 (G.msk n_impl_FaceText 0).1 (G.msk n_impl_FaceText 0).2
noncomputable def impl_FaceText.A0 (k : Nat) : Ex × List T × Heap → Option (V × Heap) := fun r => aft (G.env n_impl_FaceText k) k 31 (bodyOf Tryd.f19) [1, 1, 1, 0, 1, 0] 0 (ck G.P Tryd.f19) r.1 (unpick 31 (G.msk n_impl_FaceText 0).2 r.2.1) r.2.2
theorem impl_FaceText.eq (k : Nat) (a1 : V) (σ : Heap) : hcall G (k + 1) n_impl_FaceText [a1] σ = ((hcall G k n_impl_FaceOk [a1] σ).bind fun q2 => castBool q2.1 fun b3 => bif !b3 then (some (.str (⟨#[]⟩ : ByteArray), q2.2)) else ((vlen a1).bind fun k4 => (impl_FaceText.L0 k k [.v (.ptr q2.2.length 0), .v a1, .v (.int .i64 (k4 : Int)), .v (.int .i64 0)] (hnewT q2.2 57 2 [.nilp, .nils])).bind (impl_FaceText.A0 k))) := by
  kernel_rfl
theorem impl_FaceText.L0_step (k m : Nat) (a1 : V) (a2 : V) (n3 : Int) (n4 : Int) (σ : Heap) : impl_FaceText.L0 k (m + 1) [.v a1, .v a2, .v (.int .i64 n3), .v (.int .i64 n4)] σ = (bif decide (n4 < n3) then ((vidx 3 a2 n4).bind fun p5 => (rdc σ p5.1 p5.2 3).bind fun l6 => uncons l6 fun c7 l8 => castStr c7 fun s9 => uncons l8 fun c10 l11 => uncons l11 fun c12 l13 => castInt .i64 c12 fun n14 => isNil l13 <| if s9.size + (⟨#[40]⟩ : ByteArray).size ≤ 2 ^ 62 then ((hcall G k n_impl_typeList [c10] σ).bind fun q15 => castStr q15.1 fun s16 => if (s9 ++ (⟨#[40]⟩ : ByteArray)).size + s16.size ≤ 2 ^ 62 then (if ((s9 ++ (⟨#[40]⟩ : ByteArray)) ++ s16).size + (⟨#[41]⟩ : ByteArray).size ≤ 2 ^ 62 then ((hcall G k n_impl_TreeType [.int .i64 n14] q15.2).bind fun q17 => castStr q17.1 fun s18 => if (((s9 ++ (⟨#[40]⟩ : ByteArray)) ++ s16) ++ (⟨#[41]⟩ : ByteArray)).size + s18.size ≤ 2 ^ 62 then (if ((((s9 ++ (⟨#[40]⟩ : ByteArray)) ++ s16) ++ (⟨#[41]⟩ : ByteArray)) ++ s18).size + (⟨#[10]⟩ : ByteArray).size ≤ 2 ^ 62 then ((hcall G k n_pstrings_Builder_WriteString [a1, .str (((((s9 ++ (⟨#[40]⟩ : ByteArray)) ++ s16) ++ (⟨#[41]⟩ : ByteArray)) ++ s18) ++ (⟨#[10]⟩ : ByteArray))] q17.2).bind fun q19 => castTuple q19.1 fun l20 => uncons l20 fun c21 l22 => castInt .i64 c21 fun n23 => uncons l22 fun c24 l25 => isNil l25 <| impl_FaceText.L0 k m [.v a1, .v a2, .v (.int .i64 n3), .v (.int .i64 (IntKind.wrap .i64 (n4 + 1)))] q19.2) else none) else none) else none) else none) else none) else (some (.exit 0, [.bot, .v a1], σ))) := by
  kernel_rfl
theorem impl_FaceText.A0_x0 (k : Nat) (t1 : T) (a2 : V) (σ : Heap) : impl_FaceText.A0 k (.exit 0, [t1, .v a2], σ) = ((hcall G k n_pstrings_Builder_String [a2] σ).bind fun q3 => castStr q3.1 fun s4 => some (.str s4, q3.2)) := by
  kernel_rfl

/-! loop.example/smithy/impl.FaceRead: function 5 -/
noncomputable def impl_FaceRead.L0 (k : Nat) : Nat → List T → Heap → Option (Ex × List T × Heap) := hloop (hx (G.env n_impl_FaceRead k) k 56 (subc (bodyOf Tryd.f5) [1, 1, 0, 1, 0, 0]) 0) 56 (G.msk n_impl_FaceRead 0).1 (G.msk n_impl_FaceRead 0).2
noncomputable def impl_FaceRead.A0 (k : Nat) : Ex × List T × Heap → Option (V × Heap) := fun r => aft (G.env n_impl_FaceRead k) k 56 (bodyOf Tryd.f5) [1, 1, 0, 1, 0] 0 (ck G.P Tryd.f5) r.1 (unpick 56 (G.msk n_impl_FaceRead 0).2 r.2.1) r.2.2
theorem impl_FaceRead.eq (k : Nat) (s1 : ByteArray) (σ : Heap) : hcall G (k + 1) n_impl_FaceRead [.str s1] σ = ((hcall G k n_strings_TrimSuffix [.str s1, .str (⟨#[10]⟩ : ByteArray)] (hnew σ 3 [])).bind fun q2 => castStr q2.1 fun s3 => (hcall G k n_strings_Split [.str s3, .str (⟨#[10]⟩ : ByteArray)] q2.2).bind fun q4 => (vlen q4.1).bind fun k5 => (impl_FaceRead.L0 k k [.v (.str s1), .v (.sl σ.length 0 0 true), .v q4.1, .v (.int .i64 (k5 : Int)), .v (.int .i64 0)] q4.2).bind (impl_FaceRead.A0 k)) := by
  kernel_rfl
theorem impl_FaceRead.L0_step (k m : Nat) (s1 : ByteArray) (a2 : V) (a3 : V) (n4 : Int) (n5 : Int) (σ : Heap) : impl_FaceRead.L0 k (m + 1) [.v (.str s1), .v a2, .v a3, .v (.int .i64 n4), .v (.int .i64 n5)] σ = (bif decide (n5 < n4) then ((vidx 1 a3 n5).bind fun p6 => (rdc σ p6.1 p6.2 1).bind fun l7 => uncons l7 fun c8 l9 => castStr c8 fun s10 => isNil l9 <| (hcall G k n_strings_Cut [.str s10, .str (⟨#[40]⟩ : ByteArray)] σ).bind fun q11 => castTuple q11.1 fun l12 => uncons l12 fun c13 l14 => castStr c13 fun s15 => uncons l14 fun c16 l17 => castStr c16 fun s18 => uncons l17 fun c19 l20 => castBool c19 fun b21 => isNil l20 <| (hcall G k n_strings_Cut [.str s18, .str (⟨#[41]⟩ : ByteArray)] q11.2).bind fun q22 => castTuple q22.1 fun l23 => uncons l23 fun c24 l25 => castStr c24 fun s26 => uncons l25 fun c27 l28 => castStr c27 fun s29 => uncons l28 fun c30 l31 => castBool c30 fun b32 => isNil l31 <| bif !decide (s1 = (⟨#[]⟩ : ByteArray)) then ((hcall G k n_impl_readTypes [.str s26] q22.2).bind fun q33 => (hcall G k n_impl_typeOf [.str s29] q33.2).bind fun q34 => castInt .i64 q34.1 fun n35 => one q33.1 <| (vappend 3 48 q34.2 a2 1 [.str s15, q33.1, .int .i64 n35]).bind fun q36 => impl_FaceRead.L0 k m [.v (.str s1), .v q36.1, .v a3, .v (.int .i64 n4), .v (.int .i64 (IntKind.wrap .i64 (n5 + 1)))] q36.2) else (impl_FaceRead.L0 k m [.v (.str s1), .v a2, .v a3, .v (.int .i64 n4), .v (.int .i64 (IntKind.wrap .i64 (n5 + 1)))] q22.2)) else (some (.exit 0, [.v (.str s1), .bot, .bot, .v a2], σ))) := by
  kernel_rfl
theorem impl_FaceRead.A0_x0 (k : Nat) (s1 : ByteArray) (t2 : T) (t3 : T) (a4 : V) (σ : Heap) : impl_FaceRead.A0 k (.exit 0, [.v (.str s1), t2, t3, .v a4], σ) = ((hcall G k n_impl_FaceOk [a4] σ).bind fun q5 => castBool q5.1 fun b6 => bif !b6 then (some (.tuple [.nils, .bool false], q5.2)) else ((hcall G k n_impl_FaceText [a4] q5.2).bind fun q7 => castStr q7.1 fun s8 => bif !decide (s8 = s1) then (some (.tuple [.nils, .bool false], q7.2)) else (some (.tuple [a4, .bool true], q7.2)))) := by
  kernel_rfl

/-! loop.example/smithy/laws.eqIntS: function 41 -/
noncomputable def laws_eqIntS.L0 (k : Nat) : Nat → List T → Heap → Option (Ex × List T × Heap) := hloop (hx (G.env n_laws_eqIntS k) k 26 (subc (bodyOf Tryd.f41) [1, 1, 0, 1, 0, 0]) 0) 26 (G.msk n_laws_eqIntS 0).1 (G.msk n_laws_eqIntS 0).2
noncomputable def laws_eqIntS.A0 (k : Nat) : Ex × List T × Heap → Option (V × Heap) := fun r => aft (G.env n_laws_eqIntS k) k 26 (bodyOf Tryd.f41) [1, 1, 0, 1, 0] 0 (ck G.P Tryd.f41) r.1 (unpick 26 (G.msk n_laws_eqIntS 0).2 r.2.1) r.2.2
theorem laws_eqIntS.eq (k : Nat) (a1 : V) (a2 : V) (σ : Heap) : hcall G (k + 1) n_laws_eqIntS [a1, a2] σ = ((vlen a1).bind fun k3 => (vlen a2).bind fun k4 => bif !decide ((k3 : Int) = (k4 : Int)) then (some (.bool false, σ)) else ((laws_eqIntS.L0 k k [.v a1, .v a2, .v (.int .i64 0)] σ).bind (laws_eqIntS.A0 k))) := by
  kernel_rfl
theorem laws_eqIntS.L0_step (k m : Nat) (a1 : V) (a2 : V) (n3 : Int) (σ : Heap) : laws_eqIntS.L0 k (m + 1) [.v a1, .v a2, .v (.int .i64 n3)] σ = ((vlen a1).bind fun k4 => bif decide (n3 < (k4 : Int)) then ((vidx 1 a1 n3).bind fun p5 => (rdc σ p5.1 p5.2 1).bind fun l6 => uncons l6 fun c7 l8 => castInt .i64 c7 fun n9 => isNil l8 <| (vidx 1 a2 n3).bind fun p10 => (rdc σ p10.1 p10.2 1).bind fun l11 => uncons l11 fun c12 l13 => castInt .i64 c12 fun n14 => isNil l13 <| bif !decide (n9 = n14) then (some (.ret, [.v (.bool false)], σ)) else (laws_eqIntS.L0 k m [.v a1, .v a2, .v (.int .i64 (IntKind.wrap .i64 (n3 + 1)))] σ)) else (some (.exit 0, [.bot], σ))) := by
  kernel_rfl
theorem laws_eqIntS.A0_x0 (k : Nat) (t1 : T) (σ : Heap) : laws_eqIntS.A0 k (.exit 0, [t1], σ) = (some (.bool true, σ)) := by
  kernel_rfl
theorem laws_eqIntS.A0_ret (k : Nat) (b1 : Bool) (σ : Heap) : laws_eqIntS.A0 k (.ret, [.v (.bool b1)], σ) = (some (.bool b1, σ)) := by
  kernel_rfl

/-! loop.example/smithy/laws.eqFaceSig: function 20 -/
theorem laws_eqFaceSig.eq (k : Nat) (s1 : ByteArray) (a2 : V) (n3 : Int) (s4 : ByteArray) (a5 : V) (n6 : Int) (σ : Heap) : hcall G (k + 1) n_laws_eqFaceSig [.agg [.str s1, a2, .int .i64 n3], .agg [.str s4, a5, .int .i64 n6]] σ = (bif !decide (s1 = s4) then (some (.bool false, σ)) else ((hcall G k n_laws_eqIntS [a2, a5] σ).bind fun q7 => castBool q7.1 fun b8 => bif !b8 then (some (.bool false, q7.2)) else (bif !decide (n3 = n6) then (some (.bool false, q7.2)) else (some (.bool true, q7.2))))) := by
  kernel_rfl

/-! loop.example/smithy/laws.eqFaceSigS: function 6 -/
noncomputable def laws_eqFaceSigS.L0 (k : Nat) : Nat → List T → Heap → Option (Ex × List T × Heap) := hloop (hx (G.env n_laws_eqFaceSigS k) k 27 (subc (bodyOf Tryd.f6) [1, 1, 0, 1, 0, 0]) 0) 27 (G.msk n_laws_eqFaceSigS 0).1 (G.msk n_laws_eqFaceSigS 0).2
noncomputable def laws_eqFaceSigS.A0 (k : Nat) : Ex × List T × Heap → Option (V × Heap) := fun r => aft (G.env n_laws_eqFaceSigS k) k 27 (bodyOf Tryd.f6) [1, 1, 0, 1, 0] 0 (ck G.P Tryd.f6) r.1 (unpick 27 (G.msk n_laws_eqFaceSigS 0).2 r.2.1) r.2.2
theorem laws_eqFaceSigS.eq (k : Nat) (a1 : V) (a2 : V) (σ : Heap) : hcall G (k + 1) n_laws_eqFaceSigS [a1, a2] σ = ((vlen a1).bind fun k3 => (vlen a2).bind fun k4 => bif !decide ((k3 : Int) = (k4 : Int)) then (some (.bool false, σ)) else ((laws_eqFaceSigS.L0 k k [.v a1, .v a2, .v (.int .i64 0)] σ).bind (laws_eqFaceSigS.A0 k))) := by
  kernel_rfl
theorem laws_eqFaceSigS.L0_step (k m : Nat) (a1 : V) (a2 : V) (n3 : Int) (σ : Heap) : laws_eqFaceSigS.L0 k (m + 1) [.v a1, .v a2, .v (.int .i64 n3)] σ = ((vlen a1).bind fun k4 => bif decide (n3 < (k4 : Int)) then ((vidx 3 a1 n3).bind fun p5 => (rdc σ p5.1 p5.2 3).bind fun l6 => uncons l6 fun c7 l8 => castStr c7 fun s9 => uncons l8 fun c10 l11 => uncons l11 fun c12 l13 => castInt .i64 c12 fun n14 => isNil l13 <| (vidx 3 a2 n3).bind fun p15 => (rdc σ p15.1 p15.2 3).bind fun l16 => uncons l16 fun c17 l18 => castStr c17 fun s19 => uncons l18 fun c20 l21 => uncons l21 fun c22 l23 => castInt .i64 c22 fun n24 => isNil l23 <| (hcall G k n_laws_eqFaceSig [.agg [.str s9, c10, .int .i64 n14], .agg [.str s19, c20, .int .i64 n24]] σ).bind fun q25 => castBool q25.1 fun b26 => bif !b26 then (some (.ret, [.v (.bool false)], q25.2)) else (laws_eqFaceSigS.L0 k m [.v a1, .v a2, .v (.int .i64 (IntKind.wrap .i64 (n3 + 1)))] q25.2)) else (some (.exit 0, [.bot], σ))) := by
  kernel_rfl
theorem laws_eqFaceSigS.A0_x0 (k : Nat) (t1 : T) (σ : Heap) : laws_eqFaceSigS.A0 k (.exit 0, [t1], σ) = (some (.bool true, σ)) := by
  kernel_rfl
theorem laws_eqFaceSigS.A0_ret (k : Nat) (b1 : Bool) (σ : Heap) : laws_eqFaceSigS.A0 k (.ret, [.v (.bool b1)], σ) = (some (.bool b1, σ)) := by
  kernel_rfl

/-! loop.example/smithy/laws.markText: function 21 -/
noncomputable def laws_markText.L0 (k : Nat) : Nat → List T → Heap → Option (Ex × List T × Heap) := hloop (hx (G.env n_laws_markText k) k 20 (subc (bodyOf Tryd.f21) [1, 1, 1, 0, 0, 0]) 0) 20 (G.msk n_laws_markText 0).1 (G.msk n_laws_markText 0).2
noncomputable def laws_markText.A0 (k : Nat) : Ex × List T × Heap → Option (V × Heap) := fun r => aft (G.env n_laws_markText k) k 20 (bodyOf Tryd.f21) [1, 1, 1, 0, 0] 0 (ck G.P Tryd.f21) r.1 (unpick 20 (G.msk n_laws_markText 0).2 r.2.1) r.2.2
theorem laws_markText.eq (k : Nat) (n1 : Int) (σ : Heap) : hcall G (k + 1) n_laws_markText [.int .i64 n1] σ = (bif decide (n1 ≤ 0) then (some (.str (⟨#[109, 48]⟩ : ByteArray), σ)) else ((laws_markText.L0 k k [.v (.int .i64 n1), .v (.str (⟨#[]⟩ : ByteArray))] σ).bind (laws_markText.A0 k))) := by
  kernel_rfl
theorem laws_markText.L0_step (k m : Nat) (n1 : Int) (s2 : ByteArray) (σ : Heap) : laws_markText.L0 k (m + 1) [.v (.int .i64 n1), .v (.str s2)] σ = (bif decide (0 < n1) then ((bytesOf [.int .u8 (IntKind.wrap .u8 (IntKind.wrap .i64 (48 + (Int.tmod n1 10))))] .empty).bind fun s3 => if s3.size + s2.size ≤ 2 ^ 62 then (laws_markText.L0 k m [.v (.int .i64 (IntKind.wrap .i64 (Int.tdiv n1 10))), .v (.str (s3 ++ s2))] σ) else none) else (some (.exit 0, [.bot, .v (.str s2)], σ))) := by
  kernel_rfl
theorem laws_markText.A0_x0 (k : Nat) (t1 : T) (s2 : ByteArray) (σ : Heap) : laws_markText.A0 k (.exit 0, [t1, .v (.str s2)], σ) = (if (⟨#[109]⟩ : ByteArray).size + s2.size ≤ 2 ^ 62 then (some (.str ((⟨#[109]⟩ : ByteArray) ++ s2), σ)) else none) := by
  kernel_rfl

/-! loop.example/smithy/laws.markIntS: function 22 -/
noncomputable def laws_markIntS.L0 (k : Nat) : Nat → List T → Heap → Option (Ex × List T × Heap) := hloop (hx (G.env n_laws_markIntS k) k 19 (subc (bodyOf Tryd.f22) [1, 0, 1, 0, 0]) 0) 19 (G.msk n_laws_markIntS 0).1 (G.msk n_laws_markIntS 0).2
noncomputable def laws_markIntS.A0 (k : Nat) : Ex × List T × Heap → Option (V × Heap) := fun r => aft (G.env n_laws_markIntS k) k 19 (bodyOf Tryd.f22) [1, 0, 1, 0] 0 (ck G.P Tryd.f22) r.1 (unpick 19 (G.msk n_laws_markIntS 0).2 r.2.1) r.2.2
theorem laws_markIntS.eq (k : Nat) (a1 : V) (n2 : Int) (σ : Heap) : hcall G (k + 1) n_laws_markIntS [a1, .int .i64 n2] σ = ((laws_markIntS.L0 k k [.v a1, .v (.int .i64 n2), .v (.int .i64 0)] σ).bind (laws_markIntS.A0 k)) := by
  kernel_rfl
theorem laws_markIntS.L0_step (k m : Nat) (a1 : V) (n2 : Int) (n3 : Int) (σ : Heap) : laws_markIntS.L0 k (m + 1) [.v a1, .v (.int .i64 n2), .v (.int .i64 n3)] σ = ((vlen a1).bind fun k4 => bif decide (n3 < (k4 : Int)) then ((vidx 1 a1 n3).bind fun p5 => (wrc σ p5.1 p5.2 [.int .i64 n2]).bind fun h6 => laws_markIntS.L0 k m [.v a1, .v (.int .i64 (IntKind.wrap .i64 (n2 + 1))), .v (.int .i64 (IntKind.wrap .i64 (n3 + 1)))] h6) else (some (.exit 0, [.v (.int .i64 n2), .bot], σ))) := by
  kernel_rfl
theorem laws_markIntS.A0_x0 (k : Nat) (n1 : Int) (t2 : T) (σ : Heap) : laws_markIntS.A0 k (.exit 0, [.v (.int .i64 n1), t2], σ) = (some (.int .i64 n1, σ)) := by
  kernel_rfl

/-! loop.example/smithy/laws.markFaceSigS: function 7 -/
noncomputable def laws_markFaceSigS.L0 (k : Nat) : Nat → List T → Heap → Option (Ex × List T × Heap) := hloop (hx (G.env n_laws_markFaceSigS k) k 35 (subc (bodyOf Tryd.f7) [1, 0, 1, 0, 0]) 0) 35 (G.msk n_laws_markFaceSigS 0).1 (G.msk n_laws_markFaceSigS 0).2
noncomputable def laws_markFaceSigS.A0 (k : Nat) : Ex × List T × Heap → Option (V × Heap) := fun r => aft (G.env n_laws_markFaceSigS k) k 35 (bodyOf Tryd.f7) [1, 0, 1, 0] 0 (ck G.P Tryd.f7) r.1 (unpick 35 (G.msk n_laws_markFaceSigS 0).2 r.2.1) r.2.2
theorem laws_markFaceSigS.eq (k : Nat) (a1 : V) (n2 : Int) (σ : Heap) : hcall G (k + 1) n_laws_markFaceSigS [a1, .int .i64 n2] σ = ((laws_markFaceSigS.L0 k k [.v a1, .v (.int .i64 n2), .v (.int .i64 0)] σ).bind (laws_markFaceSigS.A0 k)) := by
  kernel_rfl
theorem laws_markFaceSigS.L0_step (k m : Nat) (a1 : V) (n2 : Int) (n3 : Int) (σ : Heap) : laws_markFaceSigS.L0 k (m + 1) [.v a1, .v (.int .i64 n2), .v (.int .i64 n3)] σ = ((vlen a1).bind fun k4 => bif decide (n3 < (k4 : Int)) then ((hcall G k n_laws_markText [.int .i64 n2] σ).bind fun q5 => castStr q5.1 fun s6 => (vidx 3 a1 n3).bind fun p7 => (wrc q5.2 p7.1 (p7.2 + 0) [.str s6]).bind fun h8 => (vidx 3 a1 n3).bind fun p9 => (rdc h8 p9.1 (p9.2 + 1) 1).bind fun l10 => uncons l10 fun c11 l12 => isNil l12 <| (hcall G k n_laws_markIntS [c11, .int .i64 (IntKind.wrap .i64 (n2 + 1))] h8).bind fun q13 => castInt .i64 q13.1 fun n14 => (vidx 3 a1 n3).bind fun p15 => (wrc q13.2 p15.1 (p15.2 + 2) [.int .i64 n14]).bind fun h16 => laws_markFaceSigS.L0 k m [.v a1, .v (.int .i64 (IntKind.wrap .i64 (n14 + 1))), .v (.int .i64 (IntKind.wrap .i64 (n3 + 1)))] h16) else (some (.exit 0, [.v (.int .i64 n2), .bot], σ))) := by
  kernel_rfl
theorem laws_markFaceSigS.A0_x0 (k : Nat) (n1 : Int) (t2 : T) (σ : Heap) : laws_markFaceSigS.A0 k (.exit 0, [.v (.int .i64 n1), t2], σ) = (some (.int .i64 n1, σ)) := by
  kernel_rfl

/-! loop.example/smithy/laws.heldIntS: function 23 -/
noncomputable def laws_heldIntS.L0 (k : Nat) : Nat → List T → Heap → Option (Ex × List T × Heap) := hloop (hx (G.env n_laws_heldIntS k) k 21 (subc (bodyOf Tryd.f23) [1, 0, 1, 0, 0]) 0) 21 (G.msk n_laws_heldIntS 0).1 (G.msk n_laws_heldIntS 0).2
noncomputable def laws_heldIntS.A0 (k : Nat) : Ex × List T × Heap → Option (V × Heap) := fun r => aft (G.env n_laws_heldIntS k) k 21 (bodyOf Tryd.f23) [1, 0, 1, 0] 0 (ck G.P Tryd.f23) r.1 (unpick 21 (G.msk n_laws_heldIntS 0).2 r.2.1) r.2.2
theorem laws_heldIntS.eq (k : Nat) (a1 : V) (n2 : Int) (σ : Heap) : hcall G (k + 1) n_laws_heldIntS [a1, .int .i64 n2] σ = ((laws_heldIntS.L0 k k [.v a1, .v (.int .i64 n2), .v (.int .i64 0)] σ).bind (laws_heldIntS.A0 k)) := by
  kernel_rfl
theorem laws_heldIntS.L0_step (k m : Nat) (a1 : V) (n2 : Int) (n3 : Int) (σ : Heap) : laws_heldIntS.L0 k (m + 1) [.v a1, .v (.int .i64 n2), .v (.int .i64 n3)] σ = ((vlen a1).bind fun k4 => bif decide (n3 < (k4 : Int)) then ((vidx 1 a1 n3).bind fun p5 => (rdc σ p5.1 p5.2 1).bind fun l6 => uncons l6 fun c7 l8 => castInt .i64 c7 fun n9 => isNil l8 <| bif !decide (n9 = n2) then (some (.ret, [.v (.int .i64 n2), .v (.int .i64 (-1))], σ)) else (laws_heldIntS.L0 k m [.v a1, .v (.int .i64 (IntKind.wrap .i64 (n2 + 1))), .v (.int .i64 (IntKind.wrap .i64 (n3 + 1)))] σ)) else (some (.exit 0, [.v (.int .i64 n2), .bot], σ))) := by
  kernel_rfl
theorem laws_heldIntS.A0_x0 (k : Nat) (n1 : Int) (t2 : T) (σ : Heap) : laws_heldIntS.A0 k (.exit 0, [.v (.int .i64 n1), t2], σ) = (some (.int .i64 n1, σ)) := by
  kernel_rfl
theorem laws_heldIntS.A0_ret (k : Nat) (t1 : T) (n2 : Int) (σ : Heap) : laws_heldIntS.A0 k (.ret, [t1, .v (.int .i64 n2)], σ) = (some (.int .i64 n2, σ)) := by
  kernel_rfl
end Go.R
