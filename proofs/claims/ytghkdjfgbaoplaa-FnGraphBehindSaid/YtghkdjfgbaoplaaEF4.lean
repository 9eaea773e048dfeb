/- The functions' equations. -/
import Derived.Test.YtghkdjfgbaoplaaEG
namespace Go.B
open Go.HM Go.Proofs
set_option linter.unusedVariables false
set_option maxRecDepth 1000000
set_option maxHeartbeats 4000000

/-! loop.example/smithy/laws.eqLinkPartS: function 13 -/
noncomputable def laws_eqLinkPartS.L0 (k : Nat) : Nat → List T → Heap → Option (Ex × List T × Heap) := hloop (hx (G.env n_laws_eqLinkPartS k) k 27 (subc (bodyOf Try.f13) [1, 1, 0, 1, 0, 0]) 0) 27 (G.msk n_laws_eqLinkPartS 0).1 (G.msk n_laws_eqLinkPartS 0).2
noncomputable def laws_eqLinkPartS.A0 (k : Nat) : Ex × List T × Heap → Option (V × Heap) := fun r => aft (G.env n_laws_eqLinkPartS k) k 27 (bodyOf Try.f13) [1, 1, 0, 1, 0] 0 (ck G.P Try.f13) r.1 (unpick 27 (G.msk n_laws_eqLinkPartS 0).2 r.2.1) r.2.2
theorem laws_eqLinkPartS.eq (k : Nat) (a1 : V) (a2 : V) (σ : Heap) : hcall G (k + 1) n_laws_eqLinkPartS [a1, a2] σ = ((vlen a1).bind fun k3 => (vlen a2).bind fun k4 => bif !decide ((k3 : Int) = (k4 : Int)) then (some (.bool false, σ)) else ((laws_eqLinkPartS.L0 k k [.v a1, .v a2, .v (.int .i64 0)] σ).bind (laws_eqLinkPartS.A0 k))) := by
  kernel_rfl
theorem laws_eqLinkPartS.L0_step (k m : Nat) (a1 : V) (a2 : V) (n3 : Int) (σ : Heap) : laws_eqLinkPartS.L0 k (m + 1) [.v a1, .v a2, .v (.int .i64 n3)] σ = ((vlen a1).bind fun k4 => bif decide (n3 < (k4 : Int)) then ((vidx 3 a1 n3).bind fun p5 => (rdc σ p5.1 p5.2 3).bind fun l6 => uncons l6 fun c7 l8 => castStr c7 fun s9 => uncons l8 fun c10 l11 => uncons l11 fun c12 l13 => isNil l13 <| (vidx 3 a2 n3).bind fun p14 => (rdc σ p14.1 p14.2 3).bind fun l15 => uncons l15 fun c16 l17 => castStr c16 fun s18 => uncons l17 fun c19 l20 => uncons l20 fun c21 l22 => isNil l22 <| (hcall G k n_laws_eqLinkPart [.agg [.str s9, c10, c12], .agg [.str s18, c19, c21]] σ).bind fun q23 => castBool q23.1 fun b24 => bif !b24 then (some (.ret, [.v (.bool false)], q23.2)) else (laws_eqLinkPartS.L0 k m [.v a1, .v a2, .v (.int .i64 (IntKind.wrap .i64 (n3 + 1)))] q23.2)) else (some (.exit 0, [.bot], σ))) := by
  kernel_rfl
theorem laws_eqLinkPartS.A0_x0 (k : Nat) (t1 : T) (σ : Heap) : laws_eqLinkPartS.A0 k (.exit 0, [t1], σ) = (some (.bool true, σ)) := by
  kernel_rfl
theorem laws_eqLinkPartS.A0_ret (k : Nat) (b1 : Bool) (σ : Heap) : laws_eqLinkPartS.A0 k (.ret, [.v (.bool b1)], σ) = (some (.bool b1, σ)) := by
  kernel_rfl

/-! loop.example/smithy/spec.DrawGraphOrder: function 25 -/
theorem spec_DrawGraphOrder.eq (k : Nat) (a1 : V) (σ : Heap) : hcall G (k + 1) n_spec_DrawGraphOrder [a1] σ = ((hcall G k n_spec_l23Open [a1] σ).bind fun q2 => (hcall G k n_spec_l22Nodes [q2.1] q2.2).bind fun q3 => some (q3.1, q3.2)) := by
  kernel_rfl

/-! slices.IndexFunc[[]loop.example/smithy/impl.GraphNode,loop.example/smithy/impl.GraphNode]: function 61 -/
noncomputable def slices_IndexFunc_impl_GraphNode_impl_GraphNode.L0 (k : Nat) : Nat → List T → Heap → Option (Ex × List T × Heap) := hloop (hx (G.env n_slices_IndexFunc_impl_GraphNode_impl_GraphNode k) k 19 (subc (bodyOf Try.f61) [1, 0, 1, 0, 0]) 0) 19 (G.msk n_slices_IndexFunc_impl_GraphNode_impl_GraphNode 0).1 (G.msk n_slices_IndexFunc_impl_GraphNode_impl_GraphNode 0).2
noncomputable def slices_IndexFunc_impl_GraphNode_impl_GraphNode.A0 (k : Nat) : Ex × List T × Heap → Option (V × Heap) := fun r => aft (G.env n_slices_IndexFunc_impl_GraphNode_impl_GraphNode k) k 19 (bodyOf Try.f61) [1, 0, 1, 0] 0 (ck G.P Try.f61) r.1 (unpick 19 (G.msk n_slices_IndexFunc_impl_GraphNode_impl_GraphNode 0).2 r.2.1) r.2.2
theorem slices_IndexFunc_impl_GraphNode_impl_GraphNode.eq (k : Nat) (a1 : V) (a2 : V) (σ : Heap) : hcall G (k + 1) n_slices_IndexFunc_impl_GraphNode_impl_GraphNode [a1, a2] σ = ((vlen a1).bind fun k3 => (slices_IndexFunc_impl_GraphNode_impl_GraphNode.L0 k k [.v a1, .v a2, .v (.int .i64 (k3 : Int)), .v (.int .i64 0)] σ).bind (slices_IndexFunc_impl_GraphNode_impl_GraphNode.A0 k)) := by
  kernel_rfl
theorem slices_IndexFunc_impl_GraphNode_impl_GraphNode.L0_step (k m : Nat) (a1 : V) (a2 : V) (n3 : Int) (n4 : Int) (σ : Heap) : slices_IndexFunc_impl_GraphNode_impl_GraphNode.L0 k (m + 1) [.v a1, .v a2, .v (.int .i64 n3), .v (.int .i64 n4)] σ = (bif decide (n4 < n3) then ((vidx 2 a1 n4).bind fun p5 => (rdc σ p5.1 p5.2 2).bind fun l6 => uncons l6 fun c7 l8 => castStr c7 fun s9 => uncons l8 fun c10 l11 => isNil l11 <| castFn a2 fun f13 l14 => (hcall G k f13 ([.agg [.str s9, c10]] ++ l14) σ).bind fun q12 => castBool q12.1 fun b15 => bif b15 then (some (.ret, [.v (.int .i64 n4)], q12.2)) else (slices_IndexFunc_impl_GraphNode_impl_GraphNode.L0 k m [.v a1, .v a2, .v (.int .i64 n3), .v (.int .i64 (IntKind.wrap .i64 (n4 + 1)))] q12.2)) else (some (.exit 0, [.bot], σ))) := by
  kernel_rfl
theorem slices_IndexFunc_impl_GraphNode_impl_GraphNode.A0_x0 (k : Nat) (t1 : T) (σ : Heap) : slices_IndexFunc_impl_GraphNode_impl_GraphNode.A0 k (.exit 0, [t1], σ) = (some (.int .i64 (-1), σ)) := by
  kernel_rfl
theorem slices_IndexFunc_impl_GraphNode_impl_GraphNode.A0_ret (k : Nat) (n1 : Int) (σ : Heap) : slices_IndexFunc_impl_GraphNode_impl_GraphNode.A0 k (.ret, [.v (.int .i64 n1)], σ) = (some (.int .i64 n1, σ)) := by
  kernel_rfl

/-! loop.example/smithy/impl.GraphOrder$1$1: function 64 -/
theorem impl_GraphOrder_1_1.eq (k : Nat) (s1 : ByteArray) (a2 : V) (σ : Heap) : hcall G (k + 1) n_impl_GraphOrder_1_1 [.str s1, a2] σ = (castPtr a2 fun r3 o4 => (rdc σ r3 o4 1).bind fun l5 => uncons l5 fun c6 l7 => isNil l7 <| (hcall G k n_slices_Contains_string_string [c6, .str s1] σ).bind fun q8 => castBool q8.1 fun b9 => some (.bool (!b9), q8.2)) := by
  kernel_rfl

/-! loop.example/smithy/impl.GraphOrder$1: function 62 -/
theorem impl_GraphOrder_1.eq (k : Nat) (s1 : ByteArray) (a2 : V) (a3 : V) (σ : Heap) : hcall G (k + 1) n_impl_GraphOrder_1 [.agg [.str s1, a2], a3] σ = (castPtr a3 fun r4 o5 => (rdc σ r4 o5 1).bind fun l6 => uncons l6 fun c7 l8 => isNil l8 <| (hcall G k n_slices_Contains_string_string [c7, .str s1] σ).bind fun q9 => castBool q9.1 fun b10 => bif !b10 then ((hcall G k n_slices_ContainsFunc_string_string [a2, .fn n_impl_GraphOrder_1_1 [a3]] q9.2).bind fun q11 => castBool q11.1 fun b12 => some (.bool (!b12), q11.2)) else (some (.bool false, q9.2))) := by
  kernel_rfl

/-! loop.example/smithy/impl.GraphOrder: function 26 -/
noncomputable def impl_GraphOrder.L0 (k : Nat) : Nat → List T → Heap → Option (Ex × List T × Heap) := hloop (hx (G.env n_impl_GraphOrder k) k 23 (subc (bodyOf Try.f26) [1, 1, 1, 0, 0]) 0) 23 (G.msk n_impl_GraphOrder 0).1 (G.msk n_impl_GraphOrder 0).2
noncomputable def impl_GraphOrder.A0 (k : Nat) : Ex × List T × Heap → Option (V × Heap) := fun r => aft (G.env n_impl_GraphOrder k) k 23 (bodyOf Try.f26) [1, 1, 1, 0] 0 (ck G.P Try.f26) r.1 (unpick 23 (G.msk n_impl_GraphOrder 0).2 r.2.1) r.2.2
theorem impl_GraphOrder.eq (k : Nat) (a1 : V) (σ : Heap) : hcall G (k + 1) n_impl_GraphOrder [a1] σ = ((hcall G k n_impl_GraphOk [a1] σ).bind fun q2 => castBool q2.1 fun b3 => bif !b3 then (some (.nils, q2.2)) else ((wrc (hnew (hnew q2.2 1 []) 1 [.nils]) ((hnew q2.2 1 []).length) 0 [(.sl q2.2.length 0 0 true)]).bind fun h4 => (impl_GraphOrder.L0 k k [.v a1, .v (.ptr ((hnew q2.2 1 []).length) 0)] h4).bind (impl_GraphOrder.A0 k))) := by
  kernel_rfl
theorem impl_GraphOrder.L0_step (k m : Nat) (a1 : V) (a2 : V) (σ : Heap) : impl_GraphOrder.L0 k (m + 1) [.v a1, .v a2] σ = ((hcall G k n_slices_IndexFunc_impl_GraphNode_impl_GraphNode [a1, .fn n_impl_GraphOrder_1 [a2]] σ).bind fun q3 => castInt .i64 q3.1 fun n4 => bif decide (n4 < 0) then (castPtr a2 fun r5 o6 => (rdc q3.2 r5 o6 1).bind fun l7 => uncons l7 fun c8 l9 => isNil l9 <| some (.ret, [.v c8], q3.2)) else (castPtr a2 fun r10 o11 => castPtr a2 fun r12 o13 => (rdc q3.2 r12 o13 1).bind fun l14 => uncons l14 fun c15 l16 => isNil l16 <| (vidx 2 a1 n4).bind fun p17 => (rdc q3.2 p17.1 (p17.2 + 0) 1).bind fun l18 => uncons l18 fun c19 l20 => castStr c19 fun s21 => isNil l20 <| (vappend 1 16 (unprot [r10] q3.2 (prot [r10] q3.2)) c15 1 [.str s21]).bind fun q22 => one q22.1 <| castPtr a2 fun r23 o24 => (wrc q22.2 r23 o24 [q22.1]).bind fun h25 => impl_GraphOrder.L0 k m [.v a1, .v a2] h25)) := by
  kernel_rfl
theorem impl_GraphOrder.A0_ret (k : Nat) (a1 : V) (σ : Heap) : impl_GraphOrder.A0 k (.ret, [.v a1], σ) = (some (a1, σ)) := by
  kernel_rfl

/-! loop.example/smithy/impl.GraphRound: function 27 -/
noncomputable def impl_GraphRound.L0 (k : Nat) : Nat → List T → Heap → Option (Ex × List T × Heap) := hloop (hx (G.env n_impl_GraphRound k) k 31 (subc (bodyOf Try.f27) [1, 1, 1, 0, 1, 0, 0]) 0) 31 (G.msk n_impl_GraphRound 0).1 (G.msk n_impl_GraphRound 0).2
noncomputable def impl_GraphRound.A0 (k : Nat) : Ex × List T × Heap → Option (V × Heap) := fun r => aft (G.env n_impl_GraphRound k) k 31 (bodyOf Try.f27) [1, 1, 1, 0, 1, 0] 0 (ck G.P Try.f27) r.1 (unpick 31 (G.msk n_impl_GraphRound 0).2 r.2.1) r.2.2
theorem impl_GraphRound.eq (k : Nat) (a1 : V) (σ : Heap) : hcall G (k + 1) n_impl_GraphRound [a1] σ = ((hcall G k n_impl_GraphOk [a1] σ).bind fun q2 => castBool q2.1 fun b3 => bif !b3 then (some (.nils, q2.2)) else ((vlen a1).bind fun k4 => (impl_GraphRound.L0 k k [.v a1, .v (.sl q2.2.length 0 0 true), .v a1, .v (.int .i64 (k4 : Int)), .v (.int .i64 0)] (hnew q2.2 1 [])).bind (impl_GraphRound.A0 k))) := by
  kernel_rfl
theorem impl_GraphRound.L0_step (k m : Nat) (a1 : V) (a2 : V) (a3 : V) (n4 : Int) (n5 : Int) (σ : Heap) : impl_GraphRound.L0 k (m + 1) [.v a1, .v a2, .v a3, .v (.int .i64 n4), .v (.int .i64 n5)] σ = (bif decide (n5 < n4) then ((vidx 2 a3 n5).bind fun p6 => (rdc σ p6.1 p6.2 2).bind fun l7 => uncons l7 fun c8 l9 => castStr c8 fun s10 => uncons l9 fun c11 l12 => isNil l12 <| (hcall G k n_impl_behind [a1, (.sl σ.length 0 1 true)] (hnew σ 1 [.str s10])).bind fun q13 => (hcall G k n_slices_Contains_string_string [q13.1, .str s10] q13.2).bind fun q14 => castBool q14.1 fun b15 => bif b15 then ((vappend 1 16 q14.2 a2 1 [.str s10]).bind fun q16 => impl_GraphRound.L0 k m [.v a1, .v q16.1, .v a3, .v (.int .i64 n4), .v (.int .i64 (IntKind.wrap .i64 (n5 + 1)))] q16.2) else (impl_GraphRound.L0 k m [.v a1, .v a2, .v a3, .v (.int .i64 n4), .v (.int .i64 (IntKind.wrap .i64 (n5 + 1)))] q14.2)) else (some (.exit 0, [.bot, .v a2], σ))) := by
  kernel_rfl
theorem impl_GraphRound.A0_x0 (k : Nat) (t1 : T) (a2 : V) (σ : Heap) : impl_GraphRound.A0 k (.exit 0, [t1, .v a2], σ) = (some (a2, σ)) := by
  kernel_rfl

/-! loop.example/smithy/spec.l5Ready: function 65 -/
noncomputable def spec_l5Ready.L0 (k : Nat) : Nat → List T → Heap → Option (Ex × List T × Heap) := hloop (hx (G.env n_spec_l5Ready k) k 21 (subc (bodyOf Try.f65) [1, 0, 1, 0, 0]) 0) 21 (G.msk n_spec_l5Ready 0).1 (G.msk n_spec_l5Ready 0).2
noncomputable def spec_l5Ready.A0 (k : Nat) : Ex × List T × Heap → Option (V × Heap) := fun r => aft (G.env n_spec_l5Ready k) k 21 (bodyOf Try.f65) [1, 0, 1, 0] 0 (ck G.P Try.f65) r.1 (unpick 21 (G.msk n_spec_l5Ready 0).2 r.2.1) r.2.2
theorem spec_l5Ready.eq (k : Nat) (s1 : ByteArray) (a2 : V) (a3 : V) (σ : Heap) : hcall G (k + 1) n_spec_l5Ready [.agg [.str s1, a2], a3] σ = ((spec_l5Ready.L0 k k [.v a3, .box [.str s1, a2], .v (.int .i64 0)] σ).bind (spec_l5Ready.A0 k)) := by
  kernel_rfl
theorem spec_l5Ready.L0_step (k m : Nat) (a1 : V) (s2 : ByteArray) (a3 : V) (n4 : Int) (σ : Heap) : spec_l5Ready.L0 k (m + 1) [.v a1, .box [.str s2, a3], .v (.int .i64 n4)] σ = ((vlen a3).bind fun k5 => bif decide (n4 < (k5 : Int)) then ((vidx 1 a3 n4).bind fun p6 => (rdc σ p6.1 p6.2 1).bind fun l7 => uncons l7 fun c8 l9 => castStr c8 fun s10 => isNil l9 <| (hcall G k n_spec_l5Has [a1, .str s10] σ).bind fun q11 => castBool q11.1 fun b12 => bif !b12 then (some (.ret, [.v (.bool false)], q11.2)) else (spec_l5Ready.L0 k m [.v a1, .box [.str s2, a3], .v (.int .i64 (IntKind.wrap .i64 (n4 + 1)))] q11.2)) else (some (.exit 0, [.bot], σ))) := by
  kernel_rfl
theorem spec_l5Ready.A0_x0 (k : Nat) (t1 : T) (σ : Heap) : spec_l5Ready.A0 k (.exit 0, [t1], σ) = (some (.bool true, σ)) := by
  kernel_rfl
theorem spec_l5Ready.A0_ret (k : Nat) (b1 : Bool) (σ : Heap) : spec_l5Ready.A0 k (.ret, [.v (.bool b1)], σ) = (some (.bool b1, σ)) := by
  kernel_rfl

/-! loop.example/smithy/spec.GraphOrder: function 28 -/
noncomputable def spec_GraphOrder.L1 (k : Nat) : Nat → List T → Heap → Option (Ex × List T × Heap) := hloop (hx (G.env n_spec_GraphOrder k) k 47 (subc (bodyOf Try.f28) [1, 1, 1, 0, 1, 0, 0, 1, 0, 1, 1, 0, 0]) 2) 47 (G.msk n_spec_GraphOrder 2).1 (G.msk n_spec_GraphOrder 2).2
noncomputable def spec_GraphOrder.L0 (k : Nat) : Nat → List T → Heap → Option (Ex × List T × Heap) := hloop (hx (G.env n_spec_GraphOrder k) k 47 (subc (bodyOf Try.f28) [1, 1, 1, 0, 1, 0, 0]) 0) 47 (G.msk n_spec_GraphOrder 0).1 (G.msk n_spec_GraphOrder 0).2
noncomputable def spec_GraphOrder.A0 (k : Nat) : Ex × List T × Heap → Option (V × Heap) := fun r => aft (G.env n_spec_GraphOrder k) k 47 (bodyOf Try.f28) [1, 1, 1, 0, 1, 0] 0 (ck G.P Try.f28) r.1 (unpick 47 (G.msk n_spec_GraphOrder 0).2 r.2.1) r.2.2
noncomputable def spec_GraphOrder.A1 (k m : Nat) : Ex × List T × Heap → Option (Ex × List T × Heap) := fun r => aft (G.env n_spec_GraphOrder k) k 47 (subc (bodyOf Try.f28) [1, 1, 1, 0, 1, 0, 0]) [1, 0, 1, 1, 0] 0 (lk (spec_GraphOrder.L0 k m) (G.msk n_spec_GraphOrder 0).1 (G.msk n_spec_GraphOrder 0).2) r.1 (unpick 47 (G.msk n_spec_GraphOrder 2).2 r.2.1) r.2.2
theorem spec_GraphOrder.eq (k : Nat) (a1 : V) (σ : Heap) : hcall G (k + 1) n_spec_GraphOrder [a1] σ = ((hcall G k n_spec_GraphOk [a1] (hnew σ 1 [])).bind fun q2 => castBool q2.1 fun b3 => bif !b3 then (some ((.sl σ.length 0 0 true), q2.2)) else ((spec_GraphOrder.L0 k k [.v a1, .v (.sl σ.length 0 0 true), .v (.bool true)] q2.2).bind (spec_GraphOrder.A0 k))) := by
  kernel_rfl
theorem spec_GraphOrder.L0_step (k m : Nat) (a1 : V) (a2 : V) (b3 : Bool) (σ : Heap) : spec_GraphOrder.L0 k (m + 1) [.v a1, .v a2, .v (.bool b3)] σ = (bif b3 then ((spec_GraphOrder.L1 k k [.v a1, .v a2, .v (.bool false), .v (.int .i64 0)] σ).bind (spec_GraphOrder.A1 k m)) else (some (.exit 0, [.bot, .v a2], σ))) := by
  kernel_rfl
theorem spec_GraphOrder.A0_x0 (k : Nat) (t1 : T) (a2 : V) (σ : Heap) : spec_GraphOrder.A0 k (.exit 0, [t1, .v a2], σ) = (some (a2, σ)) := by
  kernel_rfl
theorem spec_GraphOrder.L1_step (k m : Nat) (a1 : V) (a2 : V) (b3 : Bool) (n4 : Int) (σ : Heap) : spec_GraphOrder.L1 k (m + 1) [.v a1, .v a2, .v (.bool b3), .v (.int .i64 n4)] σ = ((vlen a1).bind fun k5 => bif decide (n4 < (k5 : Int)) then (bif !b3 then ((vidx 2 a1 n4).bind fun p6 => (rdc σ p6.1 (p6.2 + 0) 1).bind fun l7 => uncons l7 fun c8 l9 => castStr c8 fun s10 => isNil l9 <| (hcall G k n_spec_l5Has [a2, .str s10] σ).bind fun q11 => castBool q11.1 fun b12 => bif !b12 then ((vidx 2 a1 n4).bind fun p13 => (rdc q11.2 p13.1 p13.2 2).bind fun l14 => uncons l14 fun c15 l16 => castStr c15 fun s17 => uncons l16 fun c18 l19 => isNil l19 <| (hcall G k n_spec_l5Ready [.agg [.str s17, c18], a2] q11.2).bind fun q20 => castBool q20.1 fun b21 => bif b21 then ((vidx 2 a1 n4).bind fun p22 => (rdc q20.2 p22.1 (p22.2 + 0) 1).bind fun l23 => uncons l23 fun c24 l25 => castStr c24 fun s26 => isNil l25 <| (vappend 1 16 q20.2 a2 1 [.str s26]).bind fun q27 => spec_GraphOrder.L1 k m [.v a1, .v q27.1, .v (.bool true), .v (.int .i64 (IntKind.wrap .i64 (n4 + 1)))] q27.2) else (spec_GraphOrder.L1 k m [.v a1, .v a2, .v (.bool b3), .v (.int .i64 (IntKind.wrap .i64 (n4 + 1)))] q20.2)) else (spec_GraphOrder.L1 k m [.v a1, .v a2, .v (.bool b3), .v (.int .i64 (IntKind.wrap .i64 (n4 + 1)))] q11.2)) else (some (.exit 2, [.v a1, .bot, .v a2, .v (.bool b3)], σ))) else (some (.exit 2, [.v a1, .bot, .v a2, .v (.bool b3)], σ))) := by
  kernel_rfl
theorem spec_GraphOrder.A1_x2 (k m : Nat) (a1 : V) (t2 : T) (a3 : V) (b4 : Bool) (σ : Heap) : spec_GraphOrder.A1 k m (.exit 2, [.v a1, t2, .v a3, .v (.bool b4)], σ) = (spec_GraphOrder.L0 k m [.v a1, .v a3, .v (.bool b4)] σ) := by
  kernel_rfl

/-! loop.example/smithy/spec.GraphRound: function 29 -/
noncomputable def spec_GraphRound.L0 (k : Nat) : Nat → List T → Heap → Option (Ex × List T × Heap) := hloop (hx (G.env n_spec_GraphRound k) k 39 (subc (bodyOf Try.f29) [1, 1, 1, 0, 1, 0, 0]) 0) 39 (G.msk n_spec_GraphRound 0).1 (G.msk n_spec_GraphRound 0).2
noncomputable def spec_GraphRound.A0 (k : Nat) : Ex × List T × Heap → Option (V × Heap) := fun r => aft (G.env n_spec_GraphRound k) k 39 (bodyOf Try.f29) [1, 1, 1, 0, 1, 0] 0 (ck G.P Try.f29) r.1 (unpick 39 (G.msk n_spec_GraphRound 0).2 r.2.1) r.2.2
theorem spec_GraphRound.eq (k : Nat) (a1 : V) (σ : Heap) : hcall G (k + 1) n_spec_GraphRound [a1] σ = ((hcall G k n_spec_GraphOk [a1] (hnew σ 1 [])).bind fun q2 => castBool q2.1 fun b3 => bif !b3 then (some ((.sl σ.length 0 0 true), q2.2)) else ((spec_GraphRound.L0 k k [.v a1, .v (.sl σ.length 0 0 true), .v (.int .i64 0)] q2.2).bind (spec_GraphRound.A0 k))) := by
  kernel_rfl
theorem spec_GraphRound.L0_step (k m : Nat) (a1 : V) (a2 : V) (n3 : Int) (σ : Heap) : spec_GraphRound.L0 k (m + 1) [.v a1, .v a2, .v (.int .i64 n3)] σ = ((vlen a1).bind fun k4 => bif decide (n3 < (k4 : Int)) then ((vidx 2 a1 n3).bind fun p5 => (rdc σ p5.1 (p5.2 + 0) 1).bind fun l6 => uncons l6 fun c7 l8 => castStr c7 fun s9 => isNil l8 <| (vidx 2 a1 n3).bind fun p10 => (rdc σ p10.1 (p10.2 + 0) 1).bind fun l11 => uncons l11 fun c12 l13 => castStr c12 fun s14 => isNil l13 <| (hcall G k n_spec_l5Grow [a1, (.sl (prot [p10.1] σ).length 0 1 true)] (prot [p10.1] (unprot [p10.1] σ (hnew (prot [p10.1] σ) 1 [.str s9])))).bind fun q15 => (hcall G k n_spec_l5Has [q15.1, .str s14] (unprot [p10.1] (unprot [p10.1] σ (hnew (prot [p10.1] σ) 1 [.str s9])) q15.2)).bind fun q16 => castBool q16.1 fun b17 => bif b17 then ((vidx 2 a1 n3).bind fun p18 => (rdc q16.2 p18.1 (p18.2 + 0) 1).bind fun l19 => uncons l19 fun c20 l21 => castStr c20 fun s22 => isNil l21 <| (vappend 1 16 q16.2 a2 1 [.str s22]).bind fun q23 => spec_GraphRound.L0 k m [.v a1, .v q23.1, .v (.int .i64 (IntKind.wrap .i64 (n3 + 1)))] q23.2) else (spec_GraphRound.L0 k m [.v a1, .v a2, .v (.int .i64 (IntKind.wrap .i64 (n3 + 1)))] q16.2)) else (some (.exit 0, [.bot, .v a2], σ))) := by
  kernel_rfl
theorem spec_GraphRound.A0_x0 (k : Nat) (t1 : T) (a2 : V) (σ : Heap) : spec_GraphRound.A0 k (.exit 0, [t1, .v a2], σ) = (some (a2, σ)) := by
  kernel_rfl
end Go.B
