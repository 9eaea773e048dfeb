/- The functions' equations. -/
import Derived.Test.YtjadancpencnnaaEG
namespace Go.A
open Go.HM Go.Proofs
set_option linter.unusedVariables false
set_option maxRecDepth 1000000
set_option maxHeartbeats 4000000

/-! slices.Sort[[]string,string]: function 94 -/
theorem slices_Sort_string_string.eq (k : Nat) (a1 : V) (σ : Heap) : hcall G (k + 1) n_slices_Sort_string_string [a1] σ = ((vlen a1).bind fun k2 => (hcall G k n_math_bits_Len [.int .u64 (IntKind.wrap .u64 (k2 : Int))] σ).bind fun q3 => castInt .i64 q3.1 fun n4 => (hcall G k n_slices_pdqsortOrdered_string [a1, .int .i64 0, .int .i64 (k2 : Int), .int .i64 n4] q3.2).bind fun q5 => castTuple q5.1 fun l6 => isNil l6 <| some (.tuple [], q5.2)) := by
  kernel_rfl

/-! loop.example/smithy/impl.behind: function 67 -/
noncomputable def impl_behind.L1 (k : Nat) : Nat → List T → Heap → Option (Ex × List T × Heap) := hloop (hx (G.env n_impl_behind k) k 39 (subc (bodyOf Try.f67) [1, 1, 0, 1, 0, 0, 1, 0, 1, 1, 0, 0]) 2) 39 (G.msk n_impl_behind 2).1 (G.msk n_impl_behind 2).2
noncomputable def impl_behind.L0 (k : Nat) : Nat → List T → Heap → Option (Ex × List T × Heap) := hloop (hx (G.env n_impl_behind k) k 39 (subc (bodyOf Try.f67) [1, 1, 0, 1, 0, 0]) 0) 39 (G.msk n_impl_behind 0).1 (G.msk n_impl_behind 0).2
noncomputable def impl_behind.A0 (k : Nat) : Ex × List T × Heap → Option (V × Heap) := fun r => aft (G.env n_impl_behind k) k 39 (bodyOf Try.f67) [1, 1, 0, 1, 0] 0 (ck G.P Try.f67) r.1 (unpick 39 (G.msk n_impl_behind 0).2 r.2.1) r.2.2
noncomputable def impl_behind.A1 (k m : Nat) : Ex × List T × Heap → Option (Ex × List T × Heap) := fun r => aft (G.env n_impl_behind k) k 39 (subc (bodyOf Try.f67) [1, 1, 0, 1, 0, 0]) [1, 0, 1, 1, 0] 0 (lk (impl_behind.L0 k m) (G.msk n_impl_behind 0).1 (G.msk n_impl_behind 0).2) r.1 (unpick 39 (G.msk n_impl_behind 2).2 r.2.1) r.2.2
theorem impl_behind.eq (k : Nat) (a1 : V) (a2 : V) (σ : Heap) : hcall G (k + 1) n_impl_behind [a1, a2] σ = (one a2 <| (wrc (hnew (hnew (hnew σ 1 [a2]) 1 []) 1 [.nils]) ((hnew (hnew σ 1 [a2]) 1 []).length) 0 [(.sl (hnew σ 1 [a2]).length 0 0 true)]).bind fun h3 => (impl_behind.L0 k k [.v a1, .v (.ptr σ.length 0), .v (.ptr ((hnew (hnew σ 1 [a2]) 1 []).length) 0), .v (.bool true)] h3).bind (impl_behind.A0 k)) := by
  kernel_rfl
theorem impl_behind.L0_step (k m : Nat) (a1 : V) (a2 : V) (a3 : V) (b4 : Bool) (σ : Heap) : impl_behind.L0 k (m + 1) [.v a1, .v a2, .v a3, .v (.bool b4)] σ = (bif b4 then ((vlen a1).bind fun k5 => (impl_behind.L1 k k [.v a1, .v a2, .v a3, .v (.bool false), .v a1, .v (.int .i64 (k5 : Int)), .v (.int .i64 0)] σ).bind (impl_behind.A1 k m)) else (some (.exit 0, [.bot, .v a3], σ))) := by
  kernel_rfl
theorem impl_behind.A0_x0 (k : Nat) (t1 : T) (a2 : V) (σ : Heap) : impl_behind.A0 k (.exit 0, [t1, .v a2], σ) = (castPtr a2 fun r3 o4 => (rdc σ r3 o4 1).bind fun l5 => uncons l5 fun c6 l7 => isNil l7 <| (hcall G k n_slices_Sort_string_string [c6] σ).bind fun q8 => castTuple q8.1 fun l9 => isNil l9 <| castPtr a2 fun r10 o11 => (rdc q8.2 r10 o11 1).bind fun l12 => uncons l12 fun c13 l14 => isNil l14 <| some (c13, q8.2)) := by
  kernel_rfl
theorem impl_behind.L1_step (k m : Nat) (a1 : V) (a2 : V) (a3 : V) (b4 : Bool) (a5 : V) (n6 : Int) (n7 : Int) (σ : Heap) : impl_behind.L1 k (m + 1) [.v a1, .v a2, .v a3, .v (.bool b4), .v a5, .v (.int .i64 n6), .v (.int .i64 n7)] σ = (bif decide (n7 < n6) then ((vidx 2 a5 n7).bind fun p8 => (rdc σ p8.1 p8.2 2).bind fun l9 => uncons l9 fun c10 l11 => castStr c10 fun s12 => uncons l11 fun c13 l14 => isNil l14 <| (hcall G k n_slices_ContainsFunc_string_string [c13, .fn n_impl_behind_1 [a2, a3]] σ).bind fun q15 => castBool q15.1 fun b16 => bif b16 then (castPtr a3 fun r17 o18 => (rdc q15.2 r17 o18 1).bind fun l19 => uncons l19 fun c20 l21 => isNil l21 <| (hcall G k n_slices_Contains_string_string [c20, .str s12] q15.2).bind fun q22 => castBool q22.1 fun b23 => bif !b23 then (castPtr a3 fun r24 o25 => (rdc q22.2 r24 o25 1).bind fun l26 => uncons l26 fun c27 l28 => isNil l28 <| (vappend 1 16 q22.2 c27 1 [.str s12]).bind fun q29 => one q29.1 <| castPtr a3 fun r30 o31 => (wrc q29.2 r30 o31 [q29.1]).bind fun h32 => impl_behind.L1 k m [.v a1, .v a2, .v a3, .v (.bool true), .v a5, .v (.int .i64 n6), .v (.int .i64 (IntKind.wrap .i64 (n7 + 1)))] h32) else (impl_behind.L1 k m [.v a1, .v a2, .v a3, .v (.bool b4), .v a5, .v (.int .i64 n6), .v (.int .i64 (IntKind.wrap .i64 (n7 + 1)))] q22.2)) else (impl_behind.L1 k m [.v a1, .v a2, .v a3, .v (.bool b4), .v a5, .v (.int .i64 n6), .v (.int .i64 (IntKind.wrap .i64 (n7 + 1)))] q15.2)) else (some (.exit 2, [.v a1, .v a2, .bot, .v a3, .v (.bool b4)], σ))) := by
  kernel_rfl
theorem impl_behind.A1_x2 (k m : Nat) (a1 : V) (a2 : V) (t3 : T) (a4 : V) (b5 : Bool) (σ : Heap) : impl_behind.A1 k m (.exit 2, [.v a1, .v a2, t3, .v a4, .v (.bool b5)], σ) = (impl_behind.L0 k m [.v a1, .v a2, .v a4, .v (.bool b5)] σ) := by
  kernel_rfl

/-! loop.example/smithy/impl.GraphBehind: function 31 -/
noncomputable def impl_GraphBehind.L0 (k : Nat) : Nat → List T → Heap → Option (Ex × List T × Heap) := hloop (hx (G.env n_impl_GraphBehind k) k 39 (subc (bodyOf Try.f31) [1, 1, 1, 0, 1, 0, 0]) 0) 39 (G.msk n_impl_GraphBehind 0).1 (G.msk n_impl_GraphBehind 0).2
noncomputable def impl_GraphBehind.A0 (k : Nat) : Ex × List T × Heap → Option (V × Heap) := fun r => aft (G.env n_impl_GraphBehind k) k 39 (bodyOf Try.f31) [1, 1, 1, 0, 1, 0] 0 (ck G.P Try.f31) r.1 (unpick 39 (G.msk n_impl_GraphBehind 0).2 r.2.1) r.2.2
theorem impl_GraphBehind.eq (k : Nat) (a1 : V) (a2 : V) (σ : Heap) : hcall G (k + 1) n_impl_GraphBehind [a1, a2] σ = ((hcall G k n_impl_GraphOk [a1] σ).bind fun q3 => castBool q3.1 fun b4 => bif !b4 then (some (.nils, q3.2)) else ((hcall G k n_impl_behind [a1, a2] q3.2).bind fun q5 => (vlen a1).bind fun k6 => (impl_GraphBehind.L0 k k [.v a2, .v q5.1, .v (.sl q5.2.length 0 0 true), .v a1, .v (.int .i64 (k6 : Int)), .v (.int .i64 0)] (hnew q5.2 1 [])).bind (impl_GraphBehind.A0 k))) := by
  kernel_rfl
theorem impl_GraphBehind.L0_step (k m : Nat) (a1 : V) (a2 : V) (a3 : V) (a4 : V) (n5 : Int) (n6 : Int) (σ : Heap) : impl_GraphBehind.L0 k (m + 1) [.v a1, .v a2, .v a3, .v a4, .v (.int .i64 n5), .v (.int .i64 n6)] σ = (bif decide (n6 < n5) then ((vidx 2 a4 n6).bind fun p7 => (rdc σ p7.1 p7.2 2).bind fun l8 => uncons l8 fun c9 l10 => castStr c9 fun s11 => uncons l10 fun c12 l13 => isNil l13 <| (hcall G k n_slices_Contains_string_string [a1, .str s11] σ).bind fun q14 => castBool q14.1 fun b15 => bif b15 then ((vappend 1 16 q14.2 a3 1 [.str s11]).bind fun q16 => impl_GraphBehind.L0 k m [.v a1, .v a2, .v q16.1, .v a4, .v (.int .i64 n5), .v (.int .i64 (IntKind.wrap .i64 (n6 + 1)))] q16.2) else ((hcall G k n_slices_Contains_string_string [a2, .str s11] q14.2).bind fun q17 => castBool q17.1 fun b18 => bif b18 then ((vappend 1 16 q17.2 a3 1 [.str s11]).bind fun q19 => impl_GraphBehind.L0 k m [.v a1, .v a2, .v q19.1, .v a4, .v (.int .i64 n5), .v (.int .i64 (IntKind.wrap .i64 (n6 + 1)))] q19.2) else (impl_GraphBehind.L0 k m [.v a1, .v a2, .v a3, .v a4, .v (.int .i64 n5), .v (.int .i64 (IntKind.wrap .i64 (n6 + 1)))] q17.2))) else (some (.exit 0, [.bot, .v a3], σ))) := by
  kernel_rfl
theorem impl_GraphBehind.A0_x0 (k : Nat) (t1 : T) (a2 : V) (σ : Heap) : impl_GraphBehind.A0 k (.exit 0, [t1, .v a2], σ) = (some (a2, σ)) := by
  kernel_rfl

/-! loop.example/smithy/laws.FnExactGraphBehind: function 7 -/
theorem laws_FnExactGraphBehind.eq (k : Nat) (a1 : V) (a2 : V) (σ : Heap) : hcall G (k + 1) n_laws_FnExactGraphBehind [a1, a2] σ = ((hcall G k n_laws_szGraphNodeS [a1, .int .i64 1048576] σ).bind fun q3 => castInt .i64 q3.1 fun n4 => bif decide (n4 < 0) then (some (.bool true, q3.2)) else ((hcall G k n_laws_szStringS [a2, .int .i64 n4] q3.2).bind fun q5 => castInt .i64 q5.1 fun n6 => bif decide (n6 < 0) then (some (.bool true, q5.2)) else ((hcall G k n_laws_toGraphNodeS [a1] q5.2).bind fun q7 => (hcall G k n_laws_toStringS [a2] q7.2).bind fun q8 => (hcall G k n_spec_GraphBehind [q7.1, q8.1] q8.2).bind fun q9 => (hcall G k n_laws_toGraphNodeS [a1] q9.2).bind fun q10 => (hcall G k n_laws_toStringS [a2] q10.2).bind fun q11 => (hcall G k n_impl_GraphBehind [q10.1, q11.1] q11.2).bind fun q12 => (hcall G k n_laws_eqStringS [q12.1, q9.1] q12.2).bind fun q13 => castBool q13.1 fun b14 => bif !b14 then (some (.bool false, q13.2)) else ((hcall G k n_laws_toGraphNodeS [a1] q13.2).bind fun q15 => (hcall G k n_laws_eqGraphNodeS [q10.1, q15.1] q15.2).bind fun q16 => castBool q16.1 fun b17 => bif !b17 then (some (.bool false, q16.2)) else ((hcall G k n_laws_toStringS [a2] q16.2).bind fun q18 => (hcall G k n_laws_eqStringS [q11.1, q18.1] q18.2).bind fun q19 => castBool q19.1 fun b20 => bif !b20 then (some (.bool false, q19.2)) else ((hcall G k n_laws_markGraphNodeS [q10.1, .int .i64 1] q19.2).bind fun q21 => castInt .i64 q21.1 fun n22 => (hcall G k n_laws_markStringS [q11.1, .int .i64 n22] q21.2).bind fun q23 => castInt .i64 q23.1 fun n24 => bif decide (n24 < 0) then (some (.bool false, q23.2)) else ((hcall G k n_laws_eqStringS [q12.1, q9.1] q23.2).bind fun q25 => castBool q25.1 fun b26 => bif !b26 then (some (.bool false, q25.2)) else ((hcall G k n_laws_markStringS [q12.1, .int .i64 1] q25.2).bind fun q27 => castInt .i64 q27.1 fun n28 => (hcall G k n_laws_heldStringS [q12.1, .int .i64 1] q27.2).bind fun q29 => castInt .i64 q29.1 fun n30 => bif decide (n30 < 0) then (some (.bool false, q29.2)) else (bif !decide (n30 = n28) then (some (.bool false, q29.2)) else ((hcall G k n_laws_toGraphNodeS [a1] q29.2).bind fun q31 => (hcall G k n_laws_toStringS [a2] q31.2).bind fun q32 => (hcall G k n_impl_GraphBehind [q31.1, q32.1] q32.2).bind fun q33 => (hcall G k n_laws_eqStringS [q33.1, q9.1] q33.2).bind fun q34 => castBool q34.1 fun b35 => bif !b35 then (some (.bool false, q34.2)) else ((hcall G k n_laws_heldStringS [q12.1, .int .i64 1] q34.2).bind fun q36 => castInt .i64 q36.1 fun n37 => bif decide (n37 < 0) then (some (.bool false, q36.2)) else (bif !decide (n37 = n28) then (some (.bool false, q36.2)) else (some (.bool true, q36.2)))))))))))))) := by
  kernel_rfl

/-! loop.example/smithy/spec.l5Ready: function 47 -/
noncomputable def spec_l5Ready.L0 (k : Nat) : Nat → List T → Heap → Option (Ex × List T × Heap) := hloop (hx (G.env n_spec_l5Ready k) k 21 (subc (bodyOf Try.f47) [1, 0, 1, 0, 0]) 0) 21 (G.msk n_spec_l5Ready 0).1 (G.msk n_spec_l5Ready 0).2
noncomputable def spec_l5Ready.A0 (k : Nat) : Ex × List T × Heap → Option (V × Heap) := fun r => aft (G.env n_spec_l5Ready k) k 21 (bodyOf Try.f47) [1, 0, 1, 0] 0 (ck G.P Try.f47) r.1 (unpick 21 (G.msk n_spec_l5Ready 0).2 r.2.1) r.2.2
theorem spec_l5Ready.eq (k : Nat) (s1 : ByteArray) (a2 : V) (a3 : V) (σ : Heap) : hcall G (k + 1) n_spec_l5Ready [.agg [.str s1, a2], a3] σ = ((spec_l5Ready.L0 k k [.v a3, .box [.str s1, a2], .v (.int .i64 0)] σ).bind (spec_l5Ready.A0 k)) := by
  kernel_rfl
theorem spec_l5Ready.L0_step (k m : Nat) (a1 : V) (s2 : ByteArray) (a3 : V) (n4 : Int) (σ : Heap) : spec_l5Ready.L0 k (m + 1) [.v a1, .box [.str s2, a3], .v (.int .i64 n4)] σ = ((vlen a3).bind fun k5 => bif decide (n4 < (k5 : Int)) then ((vidx 1 a3 n4).bind fun p6 => (rdc σ p6.1 p6.2 1).bind fun l7 => uncons l7 fun c8 l9 => castStr c8 fun s10 => isNil l9 <| (hcall G k n_spec_l5Has [a1, .str s10] σ).bind fun q11 => castBool q11.1 fun b12 => bif !b12 then (some (.ret, [.v (.bool false)], q11.2)) else (spec_l5Ready.L0 k m [.v a1, .box [.str s2, a3], .v (.int .i64 (IntKind.wrap .i64 (n4 + 1)))] q11.2)) else (some (.exit 0, [.bot], σ))) := by
  kernel_rfl
theorem spec_l5Ready.A0_x0 (k : Nat) (t1 : T) (σ : Heap) : spec_l5Ready.A0 k (.exit 0, [t1], σ) = (some (.bool true, σ)) := by
  kernel_rfl
theorem spec_l5Ready.A0_ret (k : Nat) (b1 : Bool) (σ : Heap) : spec_l5Ready.A0 k (.ret, [.v (.bool b1)], σ) = (some (.bool b1, σ)) := by
  kernel_rfl

/-! loop.example/smithy/spec.GraphOrder: function 16 -/
noncomputable def spec_GraphOrder.L1 (k : Nat) : Nat → List T → Heap → Option (Ex × List T × Heap) := hloop (hx (G.env n_spec_GraphOrder k) k 47 (subc (bodyOf Try.f16) [1, 1, 1, 0, 1, 0, 0, 1, 0, 1, 1, 0, 0]) 2) 47 (G.msk n_spec_GraphOrder 2).1 (G.msk n_spec_GraphOrder 2).2
noncomputable def spec_GraphOrder.L0 (k : Nat) : Nat → List T → Heap → Option (Ex × List T × Heap) := hloop (hx (G.env n_spec_GraphOrder k) k 47 (subc (bodyOf Try.f16) [1, 1, 1, 0, 1, 0, 0]) 0) 47 (G.msk n_spec_GraphOrder 0).1 (G.msk n_spec_GraphOrder 0).2
noncomputable def spec_GraphOrder.A0 (k : Nat) : Ex × List T × Heap → Option (V × Heap) := fun r => aft (G.env n_spec_GraphOrder k) k 47 (bodyOf Try.f16) [1, 1, 1, 0, 1, 0] 0 (ck G.P Try.f16) r.1 (unpick 47 (G.msk n_spec_GraphOrder 0).2 r.2.1) r.2.2
noncomputable def spec_GraphOrder.A1 (k m : Nat) : Ex × List T × Heap → Option (Ex × List T × Heap) := fun r => aft (G.env n_spec_GraphOrder k) k 47 (subc (bodyOf Try.f16) [1, 1, 1, 0, 1, 0, 0]) [1, 0, 1, 1, 0] 0 (lk (spec_GraphOrder.L0 k m) (G.msk n_spec_GraphOrder 0).1 (G.msk n_spec_GraphOrder 0).2) r.1 (unpick 47 (G.msk n_spec_GraphOrder 2).2 r.2.1) r.2.2
theorem spec_GraphOrder.eq (k : Nat) (a1 : V) (σ : Heap) : hcall G (k + 1) n_spec_GraphOrder [a1] σ = ((hcall G k n_spec_GraphOk [a1] (hnew σ 1 [])).bind fun q2 => castBool q2.1 fun b3 => bif !b3 then (some ((.sl σ.length 0 0 true), q2.2)) else ((spec_GraphOrder.L0 k k [.v a1, .v (.sl σ.length 0 0 true), .v (.bool true)] q2.2).bind (spec_GraphOrder.A0 k))) := by
  kernel_rfl
theorem spec_GraphOrder.L0_step (k m : Nat) (a1 : V) (a2 : V) (b3 : Bool) (σ : Heap) : spec_GraphOrder.L0 k (m + 1) [.v a1, .v a2, .v (.bool b3)] σ = (bif b3 then ((spec_GraphOrder.L1 k k [.v a1, .v a2, .v (.bool false), .v (.int .i64 0)] σ).bind (spec_GraphOrder.A1 k m)) else (some (.exit 0, [.bot, .v a2], σ))) := by
  kernel_rfl
theorem spec_GraphOrder.A0_x0 (k : Nat) (t1 : T) (a2 : V) (σ : Heap) : spec_GraphOrder.A0 k (.exit 0, [t1, .v a2], σ) = (some (a2, σ)) := by
  kernel_rfl
theorem spec_GraphOrder.L1_step (k m : Nat) (a1 : V) (a2 : V) (b3 : Bool) (n4 : Int) (σ : Heap) : spec_GraphOrder.L1 k (m + 1) [.v a1, .v a2, .v (.bool b3), .v (.int .i64 n4)] σ = ((vlen a1).bind fun k5 => bif decide (n4 < (k5 : Int)) then (bif !b3 then ((vidx 2 a1 n4).bind fun p6 => (rdc σ p6.1 (p6.2 + 0) 1).bind fun l7 => uncons l7 fun c8 l9 => castStr c8 fun s10 => isNil l9 <| (hcall G k n_spec_l5Has [a2, .str s10] σ).bind fun q11 => castBool q11.1 fun b12 => bif !b12 then ((vidx 2 a1 n4).bind fun p13 => (rdc q11.2 p13.1 p13.2 2).bind fun l14 => uncons l14 fun c15 l16 => castStr c15 fun s17 => uncons l16 fun c18 l19 => isNil l19 <| (hcall G k n_spec_l5Ready [.agg [.str s17, c18], a2] q11.2).bind fun q20 => castBool q20.1 fun b21 => bif b21 then ((vidx 2 a1 n4).bind fun p22 => (rdc q20.2 p22.1 (p22.2 + 0) 1).bind fun l23 => uncons l23 fun c24 l25 => castStr c24 fun s26 => isNil l25 <| (vappend 1 16 q20.2 a2 1 [.str s26]).bind fun q27 => spec_GraphOrder.L1 k m [.v a1, .v q27.1, .v (.bool true), .v (.int .i64 (IntKind.wrap .i64 (n4 + 1)))] q27.2) else (spec_GraphOrder.L1 k m [.v a1, .v a2, .v (.bool b3), .v (.int .i64 (IntKind.wrap .i64 (n4 + 1)))] q20.2)) else (spec_GraphOrder.L1 k m [.v a1, .v a2, .v (.bool b3), .v (.int .i64 (IntKind.wrap .i64 (n4 + 1)))] q11.2)) else (some (.exit 2, [.v a1, .bot, .v a2, .v (.bool b3)], σ))) else (some (.exit 2, [.v a1, .bot, .v a2, .v (.bool b3)], σ))) := by
  kernel_rfl
theorem spec_GraphOrder.A1_x2 (k m : Nat) (a1 : V) (t2 : T) (a3 : V) (b4 : Bool) (σ : Heap) : spec_GraphOrder.A1 k m (.exit 2, [.v a1, t2, .v a3, .v (.bool b4)], σ) = (spec_GraphOrder.L0 k m [.v a1, .v a3, .v (.bool b4)] σ) := by
  kernel_rfl

/-! slices.IndexFunc[[]loop.example/smithy/impl.GraphNode,loop.example/smithy/impl.GraphNode]: function 50 -/
noncomputable def slices_IndexFunc_impl_GraphNode_impl_GraphNode.L0 (k : Nat) : Nat → List T → Heap → Option (Ex × List T × Heap) := hloop (hx (G.env n_slices_IndexFunc_impl_GraphNode_impl_GraphNode k) k 19 (subc (bodyOf Try.f50) [1, 0, 1, 0, 0]) 0) 19 (G.msk n_slices_IndexFunc_impl_GraphNode_impl_GraphNode 0).1 (G.msk n_slices_IndexFunc_impl_GraphNode_impl_GraphNode 0).2
noncomputable def slices_IndexFunc_impl_GraphNode_impl_GraphNode.A0 (k : Nat) : Ex × List T × Heap → Option (V × Heap) := fun r => aft (G.env n_slices_IndexFunc_impl_GraphNode_impl_GraphNode k) k 19 (bodyOf Try.f50) [1, 0, 1, 0] 0 (ck G.P Try.f50) r.1 (unpick 19 (G.msk n_slices_IndexFunc_impl_GraphNode_impl_GraphNode 0).2 r.2.1) r.2.2
theorem slices_IndexFunc_impl_GraphNode_impl_GraphNode.eq (k : Nat) (a1 : V) (a2 : V) (σ : Heap) : hcall G (k + 1) n_slices_IndexFunc_impl_GraphNode_impl_GraphNode [a1, a2] σ = ((vlen a1).bind fun k3 => (slices_IndexFunc_impl_GraphNode_impl_GraphNode.L0 k k [.v a1, .v a2, .v (.int .i64 (k3 : Int)), .v (.int .i64 0)] σ).bind (slices_IndexFunc_impl_GraphNode_impl_GraphNode.A0 k)) := by
  kernel_rfl
theorem slices_IndexFunc_impl_GraphNode_impl_GraphNode.L0_step (k m : Nat) (a1 : V) (a2 : V) (n3 : Int) (n4 : Int) (σ : Heap) : slices_IndexFunc_impl_GraphNode_impl_GraphNode.L0 k (m + 1) [.v a1, .v a2, .v (.int .i64 n3), .v (.int .i64 n4)] σ = (bif decide (n4 < n3) then ((vidx 2 a1 n4).bind fun p5 => (rdc σ p5.1 p5.2 2).bind fun l6 => uncons l6 fun c7 l8 => castStr c7 fun s9 => uncons l8 fun c10 l11 => isNil l11 <| castFn a2 fun f13 l14 => (hcall G k f13 ([.agg [.str s9, c10]] ++ l14) σ).bind fun q12 => castBool q12.1 fun b15 => bif b15 then (some (.ret, [.v (.int .i64 n4)], q12.2)) else (slices_IndexFunc_impl_GraphNode_impl_GraphNode.L0 k m [.v a1, .v a2, .v (.int .i64 n3), .v (.int .i64 (IntKind.wrap .i64 (n4 + 1)))] q12.2)) else (some (.exit 0, [.bot], σ))) := by
  kernel_rfl
theorem slices_IndexFunc_impl_GraphNode_impl_GraphNode.A0_x0 (k : Nat) (t1 : T) (σ : Heap) : slices_IndexFunc_impl_GraphNode_impl_GraphNode.A0 k (.exit 0, [t1], σ) = (some (.int .i64 (-1), σ)) := by
  kernel_rfl
theorem slices_IndexFunc_impl_GraphNode_impl_GraphNode.A0_ret (k : Nat) (n1 : Int) (σ : Heap) : slices_IndexFunc_impl_GraphNode_impl_GraphNode.A0 k (.ret, [.v (.int .i64 n1)], σ) = (some (.int .i64 n1, σ)) := by
  kernel_rfl

/-! loop.example/smithy/impl.GraphOrder$1$1: function 54 -/
theorem impl_GraphOrder_1_1.eq (k : Nat) (s1 : ByteArray) (a2 : V) (σ : Heap) : hcall G (k + 1) n_impl_GraphOrder_1_1 [.str s1, a2] σ = (castPtr a2 fun r3 o4 => (rdc σ r3 o4 1).bind fun l5 => uncons l5 fun c6 l7 => isNil l7 <| (hcall G k n_slices_Contains_string_string [c6, .str s1] σ).bind fun q8 => castBool q8.1 fun b9 => some (.bool (!b9), q8.2)) := by
  kernel_rfl

/-! loop.example/smithy/impl.GraphOrder$1: function 51 -/
theorem impl_GraphOrder_1.eq (k : Nat) (s1 : ByteArray) (a2 : V) (a3 : V) (σ : Heap) : hcall G (k + 1) n_impl_GraphOrder_1 [.agg [.str s1, a2], a3] σ = (castPtr a3 fun r4 o5 => (rdc σ r4 o5 1).bind fun l6 => uncons l6 fun c7 l8 => isNil l8 <| (hcall G k n_slices_Contains_string_string [c7, .str s1] σ).bind fun q9 => castBool q9.1 fun b10 => bif !b10 then ((hcall G k n_slices_ContainsFunc_string_string [a2, .fn n_impl_GraphOrder_1_1 [a3]] q9.2).bind fun q11 => castBool q11.1 fun b12 => some (.bool (!b12), q11.2)) else (some (.bool false, q9.2))) := by
  kernel_rfl

/-! loop.example/smithy/impl.GraphOrder: function 18 -/
noncomputable def impl_GraphOrder.L0 (k : Nat) : Nat → List T → Heap → Option (Ex × List T × Heap) := hloop (hx (G.env n_impl_GraphOrder k) k 23 (subc (bodyOf Try.f18) [1, 1, 1, 0, 0]) 0) 23 (G.msk n_impl_GraphOrder 0).1 (G.msk n_impl_GraphOrder 0).2
noncomputable def impl_GraphOrder.A0 (k : Nat) : Ex × List T × Heap → Option (V × Heap) := fun r => aft (G.env n_impl_GraphOrder k) k 23 (bodyOf Try.f18) [1, 1, 1, 0] 0 (ck G.P Try.f18) r.1 (unpick 23 (G.msk n_impl_GraphOrder 0).2 r.2.1) r.2.2
theorem impl_GraphOrder.eq (k : Nat) (a1 : V) (σ : Heap) : hcall G (k + 1) n_impl_GraphOrder [a1] σ = ((hcall G k n_impl_GraphOk [a1] σ).bind fun q2 => castBool q2.1 fun b3 => bif !b3 then (some (.nils, q2.2)) else ((wrc (hnew (hnew q2.2 1 []) 1 [.nils]) ((hnew q2.2 1 []).length) 0 [(.sl q2.2.length 0 0 true)]).bind fun h4 => (impl_GraphOrder.L0 k k [.v a1, .v (.ptr ((hnew q2.2 1 []).length) 0)] h4).bind (impl_GraphOrder.A0 k))) := by
  kernel_rfl
theorem impl_GraphOrder.L0_step (k m : Nat) (a1 : V) (a2 : V) (σ : Heap) : impl_GraphOrder.L0 k (m + 1) [.v a1, .v a2] σ = ((hcall G k n_slices_IndexFunc_impl_GraphNode_impl_GraphNode [a1, .fn n_impl_GraphOrder_1 [a2]] σ).bind fun q3 => castInt .i64 q3.1 fun n4 => bif decide (n4 < 0) then (castPtr a2 fun r5 o6 => (rdc q3.2 r5 o6 1).bind fun l7 => uncons l7 fun c8 l9 => isNil l9 <| some (.ret, [.v c8], q3.2)) else (castPtr a2 fun r10 o11 => castPtr a2 fun r12 o13 => (rdc q3.2 r12 o13 1).bind fun l14 => uncons l14 fun c15 l16 => isNil l16 <| (vidx 2 a1 n4).bind fun p17 => (rdc q3.2 p17.1 (p17.2 + 0) 1).bind fun l18 => uncons l18 fun c19 l20 => castStr c19 fun s21 => isNil l20 <| (vappend 1 16 (unprot [r10] q3.2 (prot [r10] q3.2)) c15 1 [.str s21]).bind fun q22 => one q22.1 <| castPtr a2 fun r23 o24 => (wrc q22.2 r23 o24 [q22.1]).bind fun h25 => impl_GraphOrder.L0 k m [.v a1, .v a2] h25)) := by
  kernel_rfl
theorem impl_GraphOrder.A0_ret (k : Nat) (a1 : V) (σ : Heap) : impl_GraphOrder.A0 k (.ret, [.v a1], σ) = (some (a1, σ)) := by
  kernel_rfl

/-! loop.example/smithy/laws.szCodeRef: function 119 -/
theorem laws_szCodeRef.eq (k : Nat) (s1 : ByteArray) (s2 : ByteArray) (n3 : Int) (σ : Heap) : hcall G (k + 1) n_laws_szCodeRef [.agg [.str s1, .str s2], .int .i64 n3] σ = (bif decide (IntKind.wrap .i64 (n3 - (s1.size : Int)) < 0) then (some (.int .i64 (-1), σ)) else (bif decide (IntKind.wrap .i64 ((IntKind.wrap .i64 (n3 - (s1.size : Int))) - (s2.size : Int)) < 0) then (some (.int .i64 (-1), σ)) else (some (.int .i64 (IntKind.wrap .i64 ((IntKind.wrap .i64 (n3 - (s1.size : Int))) - (s2.size : Int))), σ)))) := by
  kernel_rfl

/-! loop.example/smithy/laws.szCodeRefS: function 102 -/
noncomputable def laws_szCodeRefS.L0 (k : Nat) : Nat → List T → Heap → Option (Ex × List T × Heap) := hloop (hx (G.env n_laws_szCodeRefS k) k 27 (subc (bodyOf Try.f102) [1, 1, 1, 0, 1, 0, 0]) 0) 27 (G.msk n_laws_szCodeRefS 0).1 (G.msk n_laws_szCodeRefS 0).2
noncomputable def laws_szCodeRefS.A0 (k : Nat) : Ex × List T × Heap → Option (V × Heap) := fun r => aft (G.env n_laws_szCodeRefS k) k 27 (bodyOf Try.f102) [1, 1, 1, 0, 1, 0] 0 (ck G.P Try.f102) r.1 (unpick 27 (G.msk n_laws_szCodeRefS 0).2 r.2.1) r.2.2
theorem laws_szCodeRefS.eq (k : Nat) (a1 : V) (n2 : Int) (σ : Heap) : hcall G (k + 1) n_laws_szCodeRefS [a1, .int .i64 n2] σ = ((vlen a1).bind fun k3 => bif decide (IntKind.wrap .i64 (n2 - (k3 : Int)) < 0) then (some (.int .i64 (-1), σ)) else ((laws_szCodeRefS.L0 k k [.v a1, .v (.int .i64 (IntKind.wrap .i64 (n2 - (k3 : Int)))), .v (.int .i64 0)] σ).bind (laws_szCodeRefS.A0 k))) := by
  kernel_rfl
theorem laws_szCodeRefS.L0_step (k m : Nat) (a1 : V) (n2 : Int) (n3 : Int) (σ : Heap) : laws_szCodeRefS.L0 k (m + 1) [.v a1, .v (.int .i64 n2), .v (.int .i64 n3)] σ = ((vlen a1).bind fun k4 => bif decide (n3 < (k4 : Int)) then ((vidx 2 a1 n3).bind fun p5 => (rdc σ p5.1 p5.2 2).bind fun l6 => uncons l6 fun c7 l8 => castStr c7 fun s9 => uncons l8 fun c10 l11 => castStr c10 fun s12 => isNil l11 <| (hcall G k n_laws_szCodeRef [.agg [.str s9, .str s12], .int .i64 n2] σ).bind fun q13 => castInt .i64 q13.1 fun n14 => bif decide (n14 < 0) then (some (.ret, [.v (.int .i64 n14), .v (.int .i64 (-1))], q13.2)) else (laws_szCodeRefS.L0 k m [.v a1, .v (.int .i64 n14), .v (.int .i64 (IntKind.wrap .i64 (n3 + 1)))] q13.2)) else (some (.exit 0, [.v (.int .i64 n2), .bot], σ))) := by
  kernel_rfl
theorem laws_szCodeRefS.A0_x0 (k : Nat) (n1 : Int) (t2 : T) (σ : Heap) : laws_szCodeRefS.A0 k (.exit 0, [.v (.int .i64 n1), t2], σ) = (some (.int .i64 n1, σ)) := by
  kernel_rfl
theorem laws_szCodeRefS.A0_ret (k : Nat) (t1 : T) (n2 : Int) (σ : Heap) : laws_szCodeRefS.A0 k (.ret, [t1, .v (.int .i64 n2)], σ) = (some (.int .i64 n2, σ)) := by
  kernel_rfl

/-! loop.example/smithy/laws.szIntS: function 143 -/
theorem laws_szIntS.eq (k : Nat) (a1 : V) (n2 : Int) (σ : Heap) : hcall G (k + 1) n_laws_szIntS [a1, .int .i64 n2] σ = ((vlen a1).bind fun k3 => bif decide (IntKind.wrap .i64 (n2 - (k3 : Int)) < 0) then (some (.int .i64 (-1), σ)) else (some (.int .i64 (IntKind.wrap .i64 (n2 - (k3 : Int))), σ))) := by
  kernel_rfl

/-! loop.example/smithy/laws.szCodeInsS: function 144 -/
theorem laws_szCodeInsS.eq (k : Nat) (a1 : V) (n2 : Int) (σ : Heap) : hcall G (k + 1) n_laws_szCodeInsS [a1, .int .i64 n2] σ = ((vlen a1).bind fun k3 => bif decide (IntKind.wrap .i64 (n2 - (k3 : Int)) < 0) then (some (.int .i64 (-1), σ)) else (some (.int .i64 (IntKind.wrap .i64 (n2 - (k3 : Int))), σ))) := by
  kernel_rfl

/-! loop.example/smithy/laws.szCodeFun: function 120 -/
theorem laws_szCodeFun.eq (k : Nat) (s1 : ByteArray) (b2 : Bool) (a3 : V) (n4 : Int) (n5 : Int) (a6 : V) (n7 : Int) (σ : Heap) : hcall G (k + 1) n_laws_szCodeFun [.agg [.str s1, .bool b2, a3, .int .i64 n4, .int .i64 n5, a6], .int .i64 n7] σ = (bif decide (IntKind.wrap .i64 (n7 - (s1.size : Int)) < 0) then (some (.int .i64 (-1), σ)) else ((hcall G k n_laws_szIntS [a3, .int .i64 (IntKind.wrap .i64 (n7 - (s1.size : Int)))] σ).bind fun q8 => castInt .i64 q8.1 fun n9 => bif decide (n9 < 0) then (some (.int .i64 (-1), q8.2)) else ((hcall G k n_laws_szCodeInsS [a6, .int .i64 n9] q8.2).bind fun q10 => castInt .i64 q10.1 fun n11 => bif decide (n11 < 0) then (some (.int .i64 (-1), q10.2)) else (some (.int .i64 n11, q10.2))))) := by
  kernel_rfl

/-! loop.example/smithy/laws.szCodeFunS: function 103 -/
noncomputable def laws_szCodeFunS.L0 (k : Nat) : Nat → List T → Heap → Option (Ex × List T × Heap) := hloop (hx (G.env n_laws_szCodeFunS k) k 27 (subc (bodyOf Try.f103) [1, 1, 1, 0, 1, 0, 0]) 0) 27 (G.msk n_laws_szCodeFunS 0).1 (G.msk n_laws_szCodeFunS 0).2
noncomputable def laws_szCodeFunS.A0 (k : Nat) : Ex × List T × Heap → Option (V × Heap) := fun r => aft (G.env n_laws_szCodeFunS k) k 27 (bodyOf Try.f103) [1, 1, 1, 0, 1, 0] 0 (ck G.P Try.f103) r.1 (unpick 27 (G.msk n_laws_szCodeFunS 0).2 r.2.1) r.2.2
theorem laws_szCodeFunS.eq (k : Nat) (a1 : V) (n2 : Int) (σ : Heap) : hcall G (k + 1) n_laws_szCodeFunS [a1, .int .i64 n2] σ = ((vlen a1).bind fun k3 => bif decide (IntKind.wrap .i64 (n2 - (k3 : Int)) < 0) then (some (.int .i64 (-1), σ)) else ((laws_szCodeFunS.L0 k k [.v a1, .v (.int .i64 (IntKind.wrap .i64 (n2 - (k3 : Int)))), .v (.int .i64 0)] σ).bind (laws_szCodeFunS.A0 k))) := by
  kernel_rfl
theorem laws_szCodeFunS.L0_step (k m : Nat) (a1 : V) (n2 : Int) (n3 : Int) (σ : Heap) : laws_szCodeFunS.L0 k (m + 1) [.v a1, .v (.int .i64 n2), .v (.int .i64 n3)] σ = ((vlen a1).bind fun k4 => bif decide (n3 < (k4 : Int)) then ((vidx 6 a1 n3).bind fun p5 => (rdc σ p5.1 p5.2 6).bind fun l6 => uncons l6 fun c7 l8 => castStr c7 fun s9 => uncons l8 fun c10 l11 => castBool c10 fun b12 => uncons l11 fun c13 l14 => uncons l14 fun c15 l16 => castInt .i64 c15 fun n17 => uncons l16 fun c18 l19 => castInt .i64 c18 fun n20 => uncons l19 fun c21 l22 => isNil l22 <| (hcall G k n_laws_szCodeFun [.agg [.str s9, .bool b12, c13, .int .i64 n17, .int .i64 n20, c21], .int .i64 n2] σ).bind fun q23 => castInt .i64 q23.1 fun n24 => bif decide (n24 < 0) then (some (.ret, [.v (.int .i64 n24), .v (.int .i64 (-1))], q23.2)) else (laws_szCodeFunS.L0 k m [.v a1, .v (.int .i64 n24), .v (.int .i64 (IntKind.wrap .i64 (n3 + 1)))] q23.2)) else (some (.exit 0, [.v (.int .i64 n2), .bot], σ))) := by
  kernel_rfl
theorem laws_szCodeFunS.A0_x0 (k : Nat) (n1 : Int) (t2 : T) (σ : Heap) : laws_szCodeFunS.A0 k (.exit 0, [.v (.int .i64 n1), t2], σ) = (some (.int .i64 n1, σ)) := by
  kernel_rfl
theorem laws_szCodeFunS.A0_ret (k : Nat) (t1 : T) (n2 : Int) (σ : Heap) : laws_szCodeFunS.A0 k (.ret, [t1, .v (.int .i64 n2)], σ) = (some (.int .i64 n2, σ)) := by
  kernel_rfl

/-! loop.example/smithy/laws.szCodeObj: function 85 -/
theorem laws_szCodeObj.eq (k : Nat) (a1 : V) (a2 : V) (n3 : Int) (σ : Heap) : hcall G (k + 1) n_laws_szCodeObj [.agg [a1, a2], .int .i64 n3] σ = ((hcall G k n_laws_szCodeRefS [a1, .int .i64 n3] σ).bind fun q4 => castInt .i64 q4.1 fun n5 => bif decide (n5 < 0) then (some (.int .i64 (-1), q4.2)) else ((hcall G k n_laws_szCodeFunS [a2, .int .i64 n5] q4.2).bind fun q6 => castInt .i64 q6.1 fun n7 => bif decide (n7 < 0) then (some (.int .i64 (-1), q6.2)) else (some (.int .i64 n7, q6.2)))) := by
  kernel_rfl

/-! loop.example/smithy/laws.szLinkPart: function 57 -/
theorem laws_szLinkPart.eq (k : Nat) (s1 : ByteArray) (a2 : V) (a3 : V) (n4 : Int) (σ : Heap) : hcall G (k + 1) n_laws_szLinkPart [.agg [.str s1, a2, a3], .int .i64 n4] σ = (bif decide (IntKind.wrap .i64 (n4 - (s1.size : Int)) < 0) then (some (.int .i64 (-1), σ)) else ((hcall G k n_laws_szCodeObj [.agg [a2, a3], .int .i64 (IntKind.wrap .i64 (n4 - (s1.size : Int)))] σ).bind fun q5 => castInt .i64 q5.1 fun n6 => bif decide (n6 < 0) then (some (.int .i64 (-1), q5.2)) else (some (.int .i64 n6, q5.2)))) := by
  kernel_rfl

/-! loop.example/smithy/laws.szLinkPartS: function 23 -/
noncomputable def laws_szLinkPartS.L0 (k : Nat) : Nat → List T → Heap → Option (Ex × List T × Heap) := hloop (hx (G.env n_laws_szLinkPartS k) k 27 (subc (bodyOf Try.f23) [1, 1, 1, 0, 1, 0, 0]) 0) 27 (G.msk n_laws_szLinkPartS 0).1 (G.msk n_laws_szLinkPartS 0).2
noncomputable def laws_szLinkPartS.A0 (k : Nat) : Ex × List T × Heap → Option (V × Heap) := fun r => aft (G.env n_laws_szLinkPartS k) k 27 (bodyOf Try.f23) [1, 1, 1, 0, 1, 0] 0 (ck G.P Try.f23) r.1 (unpick 27 (G.msk n_laws_szLinkPartS 0).2 r.2.1) r.2.2
theorem laws_szLinkPartS.eq (k : Nat) (a1 : V) (n2 : Int) (σ : Heap) : hcall G (k + 1) n_laws_szLinkPartS [a1, .int .i64 n2] σ = ((vlen a1).bind fun k3 => bif decide (IntKind.wrap .i64 (n2 - (k3 : Int)) < 0) then (some (.int .i64 (-1), σ)) else ((laws_szLinkPartS.L0 k k [.v a1, .v (.int .i64 (IntKind.wrap .i64 (n2 - (k3 : Int)))), .v (.int .i64 0)] σ).bind (laws_szLinkPartS.A0 k))) := by
  kernel_rfl
theorem laws_szLinkPartS.L0_step (k m : Nat) (a1 : V) (n2 : Int) (n3 : Int) (σ : Heap) : laws_szLinkPartS.L0 k (m + 1) [.v a1, .v (.int .i64 n2), .v (.int .i64 n3)] σ = ((vlen a1).bind fun k4 => bif decide (n3 < (k4 : Int)) then ((vidx 3 a1 n3).bind fun p5 => (rdc σ p5.1 p5.2 3).bind fun l6 => uncons l6 fun c7 l8 => castStr c7 fun s9 => uncons l8 fun c10 l11 => uncons l11 fun c12 l13 => isNil l13 <| (hcall G k n_laws_szLinkPart [.agg [.str s9, c10, c12], .int .i64 n2] σ).bind fun q14 => castInt .i64 q14.1 fun n15 => bif decide (n15 < 0) then (some (.ret, [.v (.int .i64 n15), .v (.int .i64 (-1))], q14.2)) else (laws_szLinkPartS.L0 k m [.v a1, .v (.int .i64 n15), .v (.int .i64 (IntKind.wrap .i64 (n3 + 1)))] q14.2)) else (some (.exit 0, [.v (.int .i64 n2), .bot], σ))) := by
  kernel_rfl
theorem laws_szLinkPartS.A0_x0 (k : Nat) (n1 : Int) (t2 : T) (σ : Heap) : laws_szLinkPartS.A0 k (.exit 0, [.v (.int .i64 n1), t2], σ) = (some (.int .i64 n1, σ)) := by
  kernel_rfl
theorem laws_szLinkPartS.A0_ret (k : Nat) (t1 : T) (n2 : Int) (σ : Heap) : laws_szLinkPartS.A0 k (.ret, [t1, .v (.int .i64 n2)], σ) = (some (.int .i64 n2, σ)) := by
  kernel_rfl

/-! loop.example/smithy/laws.toCodeRef: function 121 -/
theorem laws_toCodeRef.eq (k : Nat) (s1 : ByteArray) (s2 : ByteArray) (σ : Heap) : hcall G (k + 1) n_laws_toCodeRef [.agg [.str s1, .str s2]] σ = (some (.agg [.str s1, .str s2], σ)) := by
  kernel_rfl

/-! loop.example/smithy/laws.toCodeRefS: function 104 -/
noncomputable def laws_toCodeRefS.L0 (k : Nat) : Nat → List T → Heap → Option (Ex × List T × Heap) := hloop (hx (G.env n_laws_toCodeRefS k) k 23 (subc (bodyOf Try.f104) [1, 1, 0, 1, 0, 0]) 0) 23 (G.msk n_laws_toCodeRefS 0).1 (G.msk n_laws_toCodeRefS 0).2
noncomputable def laws_toCodeRefS.A0 (k : Nat) : Ex × List T × Heap → Option (V × Heap) := fun r => aft (G.env n_laws_toCodeRefS k) k 23 (bodyOf Try.f104) [1, 1, 0, 1, 0] 0 (ck G.P Try.f104) r.1 (unpick 23 (G.msk n_laws_toCodeRefS 0).2 r.2.1) r.2.2
theorem laws_toCodeRefS.eq (k : Nat) (a1 : V) (σ : Heap) : hcall G (k + 1) n_laws_toCodeRefS [a1] σ = ((vlen a1).bind fun k2 => if 0 ≤ (k2 : Int) ∧ (k2 : Int) * 32 ≤ 2 ^ 46 ∧ (k2 : Int) ≤ 2 ^ 46 then ((laws_toCodeRefS.L0 k k [.v a1, .v (.sl σ.length 0 ((k2 : Int) : Int).toNat true), .v (.int .i64 0)] (hnew σ 2 (List.replicate ((k2 : Int) : Int).toNat [.str (⟨#[]⟩ : ByteArray), .str (⟨#[]⟩ : ByteArray)]).flatten)).bind (laws_toCodeRefS.A0 k)) else none) := by
  kernel_rfl
theorem laws_toCodeRefS.L0_step (k m : Nat) (a1 : V) (a2 : V) (n3 : Int) (σ : Heap) : laws_toCodeRefS.L0 k (m + 1) [.v a1, .v a2, .v (.int .i64 n3)] σ = ((vlen a1).bind fun k4 => bif decide (n3 < (k4 : Int)) then ((vidx 2 a1 n3).bind fun p5 => (rdc σ p5.1 p5.2 2).bind fun l6 => uncons l6 fun c7 l8 => castStr c7 fun s9 => uncons l8 fun c10 l11 => castStr c10 fun s12 => isNil l11 <| (hcall G k n_laws_toCodeRef [.agg [.str s9, .str s12]] σ).bind fun q13 => castAgg q13.1 fun l14 => uncons l14 fun c15 l16 => castStr c15 fun s17 => uncons l16 fun c18 l19 => castStr c18 fun s20 => isNil l19 <| (vidx 2 a2 n3).bind fun p21 => (wrc q13.2 p21.1 p21.2 [.str s17, .str s20]).bind fun h22 => laws_toCodeRefS.L0 k m [.v a1, .v a2, .v (.int .i64 (IntKind.wrap .i64 (n3 + 1)))] h22) else (some (.exit 0, [.bot, .v a2], σ))) := by
  kernel_rfl
theorem laws_toCodeRefS.A0_x0 (k : Nat) (t1 : T) (a2 : V) (σ : Heap) : laws_toCodeRefS.A0 k (.exit 0, [t1, .v a2], σ) = (some (a2, σ)) := by
  kernel_rfl

/-! loop.example/smithy/laws.toIntS: function 145 -/
noncomputable def laws_toIntS.L0 (k : Nat) : Nat → List T → Heap → Option (Ex × List T × Heap) := hloop (hx (G.env n_laws_toIntS k) k 22 (subc (bodyOf Try.f145) [1, 1, 0, 1, 0, 0]) 0) 22 (G.msk n_laws_toIntS 0).1 (G.msk n_laws_toIntS 0).2
noncomputable def laws_toIntS.A0 (k : Nat) : Ex × List T × Heap → Option (V × Heap) := fun r => aft (G.env n_laws_toIntS k) k 22 (bodyOf Try.f145) [1, 1, 0, 1, 0] 0 (ck G.P Try.f145) r.1 (unpick 22 (G.msk n_laws_toIntS 0).2 r.2.1) r.2.2
theorem laws_toIntS.eq (k : Nat) (a1 : V) (σ : Heap) : hcall G (k + 1) n_laws_toIntS [a1] σ = ((vlen a1).bind fun k2 => if 0 ≤ (k2 : Int) ∧ (k2 : Int) * 8 ≤ 2 ^ 46 ∧ (k2 : Int) ≤ 2 ^ 46 then ((laws_toIntS.L0 k k [.v a1, .v (.sl σ.length 0 ((k2 : Int) : Int).toNat true), .v (.int .i64 0)] (hnew σ 1 (List.replicate ((k2 : Int) : Int).toNat [.int .i64 0]).flatten)).bind (laws_toIntS.A0 k)) else none) := by
  kernel_rfl
theorem laws_toIntS.L0_step (k m : Nat) (a1 : V) (a2 : V) (n3 : Int) (σ : Heap) : laws_toIntS.L0 k (m + 1) [.v a1, .v a2, .v (.int .i64 n3)] σ = ((vlen a1).bind fun k4 => bif decide (n3 < (k4 : Int)) then ((vidx 1 a1 n3).bind fun p5 => (rdc σ p5.1 p5.2 1).bind fun l6 => uncons l6 fun c7 l8 => castInt .i64 c7 fun n9 => isNil l8 <| (vidx 1 a2 n3).bind fun p10 => (wrc σ p10.1 p10.2 [.int .i64 n9]).bind fun h11 => laws_toIntS.L0 k m [.v a1, .v a2, .v (.int .i64 (IntKind.wrap .i64 (n3 + 1)))] h11) else (some (.exit 0, [.bot, .v a2], σ))) := by
  kernel_rfl
theorem laws_toIntS.A0_x0 (k : Nat) (t1 : T) (a2 : V) (σ : Heap) : laws_toIntS.A0 k (.exit 0, [t1, .v a2], σ) = (some (a2, σ)) := by
  kernel_rfl

/-! loop.example/smithy/laws.toCodeIns: function 157 -/
theorem laws_toCodeIns.eq (k : Nat) (n1 : Int) (n2 : Int) (σ : Heap) : hcall G (k + 1) n_laws_toCodeIns [.agg [.int .i64 n1, .int .i64 n2]] σ = (some (.agg [.int .i64 n1, .int .i64 n2], σ)) := by
  kernel_rfl

/-! loop.example/smithy/laws.toCodeInsS: function 146 -/
noncomputable def laws_toCodeInsS.L0 (k : Nat) : Nat → List T → Heap → Option (Ex × List T × Heap) := hloop (hx (G.env n_laws_toCodeInsS k) k 23 (subc (bodyOf Try.f146) [1, 1, 0, 1, 0, 0]) 0) 23 (G.msk n_laws_toCodeInsS 0).1 (G.msk n_laws_toCodeInsS 0).2
noncomputable def laws_toCodeInsS.A0 (k : Nat) : Ex × List T × Heap → Option (V × Heap) := fun r => aft (G.env n_laws_toCodeInsS k) k 23 (bodyOf Try.f146) [1, 1, 0, 1, 0] 0 (ck G.P Try.f146) r.1 (unpick 23 (G.msk n_laws_toCodeInsS 0).2 r.2.1) r.2.2
theorem laws_toCodeInsS.eq (k : Nat) (a1 : V) (σ : Heap) : hcall G (k + 1) n_laws_toCodeInsS [a1] σ = ((vlen a1).bind fun k2 => if 0 ≤ (k2 : Int) ∧ (k2 : Int) * 16 ≤ 2 ^ 46 ∧ (k2 : Int) ≤ 2 ^ 46 then ((laws_toCodeInsS.L0 k k [.v a1, .v (.sl σ.length 0 ((k2 : Int) : Int).toNat true), .v (.int .i64 0)] (hnew σ 2 (List.replicate ((k2 : Int) : Int).toNat [.int .i64 0, .int .i64 0]).flatten)).bind (laws_toCodeInsS.A0 k)) else none) := by
  kernel_rfl
theorem laws_toCodeInsS.L0_step (k m : Nat) (a1 : V) (a2 : V) (n3 : Int) (σ : Heap) : laws_toCodeInsS.L0 k (m + 1) [.v a1, .v a2, .v (.int .i64 n3)] σ = ((vlen a1).bind fun k4 => bif decide (n3 < (k4 : Int)) then ((vidx 2 a1 n3).bind fun p5 => (rdc σ p5.1 p5.2 2).bind fun l6 => uncons l6 fun c7 l8 => castInt .i64 c7 fun n9 => uncons l8 fun c10 l11 => castInt .i64 c10 fun n12 => isNil l11 <| (hcall G k n_laws_toCodeIns [.agg [.int .i64 n9, .int .i64 n12]] σ).bind fun q13 => castAgg q13.1 fun l14 => uncons l14 fun c15 l16 => castInt .i64 c15 fun n17 => uncons l16 fun c18 l19 => castInt .i64 c18 fun n20 => isNil l19 <| (vidx 2 a2 n3).bind fun p21 => (wrc q13.2 p21.1 p21.2 [.int .i64 n17, .int .i64 n20]).bind fun h22 => laws_toCodeInsS.L0 k m [.v a1, .v a2, .v (.int .i64 (IntKind.wrap .i64 (n3 + 1)))] h22) else (some (.exit 0, [.bot, .v a2], σ))) := by
  kernel_rfl
theorem laws_toCodeInsS.A0_x0 (k : Nat) (t1 : T) (a2 : V) (σ : Heap) : laws_toCodeInsS.A0 k (.exit 0, [t1, .v a2], σ) = (some (a2, σ)) := by
  kernel_rfl

/-! loop.example/smithy/laws.toCodeFun: function 122 -/
theorem laws_toCodeFun.eq (k : Nat) (s1 : ByteArray) (b2 : Bool) (a3 : V) (n4 : Int) (n5 : Int) (a6 : V) (σ : Heap) : hcall G (k + 1) n_laws_toCodeFun [.agg [.str s1, .bool b2, a3, .int .i64 n4, .int .i64 n5, a6]] σ = ((hcall G k n_laws_toIntS [a3] σ).bind fun q7 => one q7.1 <| (hcall G k n_laws_toCodeInsS [a6] q7.2).bind fun q8 => one q8.1 <| some (.agg [.str s1, .bool b2, q7.1, .int .i64 n4, .int .i64 n5, q8.1], q8.2)) := by
  kernel_rfl

/-! loop.example/smithy/laws.toCodeFunS: function 105 -/
noncomputable def laws_toCodeFunS.L0 (k : Nat) : Nat → List T → Heap → Option (Ex × List T × Heap) := hloop (hx (G.env n_laws_toCodeFunS k) k 23 (subc (bodyOf Try.f105) [1, 1, 0, 1, 0, 0]) 0) 23 (G.msk n_laws_toCodeFunS 0).1 (G.msk n_laws_toCodeFunS 0).2
noncomputable def laws_toCodeFunS.A0 (k : Nat) : Ex × List T × Heap → Option (V × Heap) := fun r => aft (G.env n_laws_toCodeFunS k) k 23 (bodyOf Try.f105) [1, 1, 0, 1, 0] 0 (ck G.P Try.f105) r.1 (unpick 23 (G.msk n_laws_toCodeFunS 0).2 r.2.1) r.2.2
theorem laws_toCodeFunS.eq (k : Nat) (a1 : V) (σ : Heap) : hcall G (k + 1) n_laws_toCodeFunS [a1] σ = ((vlen a1).bind fun k2 => if 0 ≤ (k2 : Int) ∧ (k2 : Int) * 88 ≤ 2 ^ 46 ∧ (k2 : Int) ≤ 2 ^ 46 then ((laws_toCodeFunS.L0 k k [.v a1, .v (.sl σ.length 0 ((k2 : Int) : Int).toNat true), .v (.int .i64 0)] (hnew σ 6 (List.replicate ((k2 : Int) : Int).toNat [.str (⟨#[]⟩ : ByteArray), .bool false, .nils, .int .i64 0, .int .i64 0, .nils]).flatten)).bind (laws_toCodeFunS.A0 k)) else none) := by
  kernel_rfl
theorem laws_toCodeFunS.L0_step (k m : Nat) (a1 : V) (a2 : V) (n3 : Int) (σ : Heap) : laws_toCodeFunS.L0 k (m + 1) [.v a1, .v a2, .v (.int .i64 n3)] σ = ((vlen a1).bind fun k4 => bif decide (n3 < (k4 : Int)) then ((vidx 6 a1 n3).bind fun p5 => (rdc σ p5.1 p5.2 6).bind fun l6 => uncons l6 fun c7 l8 => castStr c7 fun s9 => uncons l8 fun c10 l11 => castBool c10 fun b12 => uncons l11 fun c13 l14 => uncons l14 fun c15 l16 => castInt .i64 c15 fun n17 => uncons l16 fun c18 l19 => castInt .i64 c18 fun n20 => uncons l19 fun c21 l22 => isNil l22 <| (hcall G k n_laws_toCodeFun [.agg [.str s9, .bool b12, c13, .int .i64 n17, .int .i64 n20, c21]] σ).bind fun q23 => castAgg q23.1 fun l24 => uncons l24 fun c25 l26 => castStr c25 fun s27 => uncons l26 fun c28 l29 => castBool c28 fun b30 => uncons l29 fun c31 l32 => uncons l32 fun c33 l34 => castInt .i64 c33 fun n35 => uncons l34 fun c36 l37 => castInt .i64 c36 fun n38 => uncons l37 fun c39 l40 => isNil l40 <| (vidx 6 a2 n3).bind fun p41 => (wrc q23.2 p41.1 p41.2 [.str s27, .bool b30, c31, .int .i64 n35, .int .i64 n38, c39]).bind fun h42 => laws_toCodeFunS.L0 k m [.v a1, .v a2, .v (.int .i64 (IntKind.wrap .i64 (n3 + 1)))] h42) else (some (.exit 0, [.bot, .v a2], σ))) := by
  kernel_rfl
theorem laws_toCodeFunS.A0_x0 (k : Nat) (t1 : T) (a2 : V) (σ : Heap) : laws_toCodeFunS.A0 k (.exit 0, [t1, .v a2], σ) = (some (a2, σ)) := by
  kernel_rfl

/-! loop.example/smithy/laws.toCodeObj: function 86 -/
theorem laws_toCodeObj.eq (k : Nat) (a1 : V) (a2 : V) (σ : Heap) : hcall G (k + 1) n_laws_toCodeObj [.agg [a1, a2]] σ = ((hcall G k n_laws_toCodeRefS [a1] σ).bind fun q3 => one q3.1 <| (hcall G k n_laws_toCodeFunS [a2] q3.2).bind fun q4 => one q4.1 <| some (.agg [q3.1, q4.1], q4.2)) := by
  kernel_rfl

/-! loop.example/smithy/laws.toLinkPart: function 61 -/
theorem laws_toLinkPart.eq (k : Nat) (s1 : ByteArray) (a2 : V) (a3 : V) (σ : Heap) : hcall G (k + 1) n_laws_toLinkPart [.agg [.str s1, a2, a3]] σ = ((hcall G k n_laws_toCodeObj [.agg [a2, a3]] σ).bind fun q4 => castAgg q4.1 fun l5 => uncons l5 fun c6 l7 => uncons l7 fun c8 l9 => isNil l9 <| some (.agg [.str s1, c6, c8], q4.2)) := by
  kernel_rfl

/-! loop.example/smithy/laws.toLinkPartS: function 25 -/
noncomputable def laws_toLinkPartS.L0 (k : Nat) : Nat → List T → Heap → Option (Ex × List T × Heap) := hloop (hx (G.env n_laws_toLinkPartS k) k 23 (subc (bodyOf Try.f25) [1, 1, 0, 1, 0, 0]) 0) 23 (G.msk n_laws_toLinkPartS 0).1 (G.msk n_laws_toLinkPartS 0).2
noncomputable def laws_toLinkPartS.A0 (k : Nat) : Ex × List T × Heap → Option (V × Heap) := fun r => aft (G.env n_laws_toLinkPartS k) k 23 (bodyOf Try.f25) [1, 1, 0, 1, 0] 0 (ck G.P Try.f25) r.1 (unpick 23 (G.msk n_laws_toLinkPartS 0).2 r.2.1) r.2.2
theorem laws_toLinkPartS.eq (k : Nat) (a1 : V) (σ : Heap) : hcall G (k + 1) n_laws_toLinkPartS [a1] σ = ((vlen a1).bind fun k2 => if 0 ≤ (k2 : Int) ∧ (k2 : Int) * 64 ≤ 2 ^ 46 ∧ (k2 : Int) ≤ 2 ^ 46 then ((laws_toLinkPartS.L0 k k [.v a1, .v (.sl σ.length 0 ((k2 : Int) : Int).toNat true), .v (.int .i64 0)] (hnew σ 3 (List.replicate ((k2 : Int) : Int).toNat [.str (⟨#[]⟩ : ByteArray), .nils, .nils]).flatten)).bind (laws_toLinkPartS.A0 k)) else none) := by
  kernel_rfl
theorem laws_toLinkPartS.L0_step (k m : Nat) (a1 : V) (a2 : V) (n3 : Int) (σ : Heap) : laws_toLinkPartS.L0 k (m + 1) [.v a1, .v a2, .v (.int .i64 n3)] σ = ((vlen a1).bind fun k4 => bif decide (n3 < (k4 : Int)) then ((vidx 3 a1 n3).bind fun p5 => (rdc σ p5.1 p5.2 3).bind fun l6 => uncons l6 fun c7 l8 => castStr c7 fun s9 => uncons l8 fun c10 l11 => uncons l11 fun c12 l13 => isNil l13 <| (hcall G k n_laws_toLinkPart [.agg [.str s9, c10, c12]] σ).bind fun q14 => castAgg q14.1 fun l15 => uncons l15 fun c16 l17 => castStr c16 fun s18 => uncons l17 fun c19 l20 => uncons l20 fun c21 l22 => isNil l22 <| (vidx 3 a2 n3).bind fun p23 => (wrc q14.2 p23.1 p23.2 [.str s18, c19, c21]).bind fun h24 => laws_toLinkPartS.L0 k m [.v a1, .v a2, .v (.int .i64 (IntKind.wrap .i64 (n3 + 1)))] h24) else (some (.exit 0, [.bot, .v a2], σ))) := by
  kernel_rfl
theorem laws_toLinkPartS.A0_x0 (k : Nat) (t1 : T) (a2 : V) (σ : Heap) : laws_toLinkPartS.A0 k (.exit 0, [t1, .v a2], σ) = (some (a2, σ)) := by
  kernel_rfl

/-! loop.example/smithy/laws.eqCodeRef: function 123 -/
theorem laws_eqCodeRef.eq (k : Nat) (s1 : ByteArray) (s2 : ByteArray) (s3 : ByteArray) (s4 : ByteArray) (σ : Heap) : hcall G (k + 1) n_laws_eqCodeRef [.agg [.str s1, .str s2], .agg [.str s3, .str s4]] σ = (bif !decide (s1 = s3) then (some (.bool false, σ)) else (bif !decide (s2 = s4) then (some (.bool false, σ)) else (some (.bool true, σ)))) := by
  kernel_rfl

/-! loop.example/smithy/laws.eqCodeRefS: function 106 -/
noncomputable def laws_eqCodeRefS.L0 (k : Nat) : Nat → List T → Heap → Option (Ex × List T × Heap) := hloop (hx (G.env n_laws_eqCodeRefS k) k 27 (subc (bodyOf Try.f106) [1, 1, 0, 1, 0, 0]) 0) 27 (G.msk n_laws_eqCodeRefS 0).1 (G.msk n_laws_eqCodeRefS 0).2
noncomputable def laws_eqCodeRefS.A0 (k : Nat) : Ex × List T × Heap → Option (V × Heap) := fun r => aft (G.env n_laws_eqCodeRefS k) k 27 (bodyOf Try.f106) [1, 1, 0, 1, 0] 0 (ck G.P Try.f106) r.1 (unpick 27 (G.msk n_laws_eqCodeRefS 0).2 r.2.1) r.2.2
theorem laws_eqCodeRefS.eq (k : Nat) (a1 : V) (a2 : V) (σ : Heap) : hcall G (k + 1) n_laws_eqCodeRefS [a1, a2] σ = ((vlen a1).bind fun k3 => (vlen a2).bind fun k4 => bif !decide ((k3 : Int) = (k4 : Int)) then (some (.bool false, σ)) else ((laws_eqCodeRefS.L0 k k [.v a1, .v a2, .v (.int .i64 0)] σ).bind (laws_eqCodeRefS.A0 k))) := by
  kernel_rfl
theorem laws_eqCodeRefS.L0_step (k m : Nat) (a1 : V) (a2 : V) (n3 : Int) (σ : Heap) : laws_eqCodeRefS.L0 k (m + 1) [.v a1, .v a2, .v (.int .i64 n3)] σ = ((vlen a1).bind fun k4 => bif decide (n3 < (k4 : Int)) then ((vidx 2 a1 n3).bind fun p5 => (rdc σ p5.1 p5.2 2).bind fun l6 => uncons l6 fun c7 l8 => castStr c7 fun s9 => uncons l8 fun c10 l11 => castStr c10 fun s12 => isNil l11 <| (vidx 2 a2 n3).bind fun p13 => (rdc σ p13.1 p13.2 2).bind fun l14 => uncons l14 fun c15 l16 => castStr c15 fun s17 => uncons l16 fun c18 l19 => castStr c18 fun s20 => isNil l19 <| (hcall G k n_laws_eqCodeRef [.agg [.str s9, .str s12], .agg [.str s17, .str s20]] σ).bind fun q21 => castBool q21.1 fun b22 => bif !b22 then (some (.ret, [.v (.bool false)], q21.2)) else (laws_eqCodeRefS.L0 k m [.v a1, .v a2, .v (.int .i64 (IntKind.wrap .i64 (n3 + 1)))] q21.2)) else (some (.exit 0, [.bot], σ))) := by
  kernel_rfl
theorem laws_eqCodeRefS.A0_x0 (k : Nat) (t1 : T) (σ : Heap) : laws_eqCodeRefS.A0 k (.exit 0, [t1], σ) = (some (.bool true, σ)) := by
  kernel_rfl
theorem laws_eqCodeRefS.A0_ret (k : Nat) (b1 : Bool) (σ : Heap) : laws_eqCodeRefS.A0 k (.ret, [.v (.bool b1)], σ) = (some (.bool b1, σ)) := by
  kernel_rfl

/-! loop.example/smithy/laws.eqIntS: function 147 -/
noncomputable def laws_eqIntS.L0 (k : Nat) : Nat → List T → Heap → Option (Ex × List T × Heap) := hloop (hx (G.env n_laws_eqIntS k) k 26 (subc (bodyOf Try.f147) [1, 1, 0, 1, 0, 0]) 0) 26 (G.msk n_laws_eqIntS 0).1 (G.msk n_laws_eqIntS 0).2
noncomputable def laws_eqIntS.A0 (k : Nat) : Ex × List T × Heap → Option (V × Heap) := fun r => aft (G.env n_laws_eqIntS k) k 26 (bodyOf Try.f147) [1, 1, 0, 1, 0] 0 (ck G.P Try.f147) r.1 (unpick 26 (G.msk n_laws_eqIntS 0).2 r.2.1) r.2.2
theorem laws_eqIntS.eq (k : Nat) (a1 : V) (a2 : V) (σ : Heap) : hcall G (k + 1) n_laws_eqIntS [a1, a2] σ = ((vlen a1).bind fun k3 => (vlen a2).bind fun k4 => bif !decide ((k3 : Int) = (k4 : Int)) then (some (.bool false, σ)) else ((laws_eqIntS.L0 k k [.v a1, .v a2, .v (.int .i64 0)] σ).bind (laws_eqIntS.A0 k))) := by
  kernel_rfl
theorem laws_eqIntS.L0_step (k m : Nat) (a1 : V) (a2 : V) (n3 : Int) (σ : Heap) : laws_eqIntS.L0 k (m + 1) [.v a1, .v a2, .v (.int .i64 n3)] σ = ((vlen a1).bind fun k4 => bif decide (n3 < (k4 : Int)) then ((vidx 1 a1 n3).bind fun p5 => (rdc σ p5.1 p5.2 1).bind fun l6 => uncons l6 fun c7 l8 => castInt .i64 c7 fun n9 => isNil l8 <| (vidx 1 a2 n3).bind fun p10 => (rdc σ p10.1 p10.2 1).bind fun l11 => uncons l11 fun c12 l13 => castInt .i64 c12 fun n14 => isNil l13 <| bif !decide (n9 = n14) then (some (.ret, [.v (.bool false)], σ)) else (laws_eqIntS.L0 k m [.v a1, .v a2, .v (.int .i64 (IntKind.wrap .i64 (n3 + 1)))] σ)) else (some (.exit 0, [.bot], σ))) := by
  kernel_rfl
theorem laws_eqIntS.A0_x0 (k : Nat) (t1 : T) (σ : Heap) : laws_eqIntS.A0 k (.exit 0, [t1], σ) = (some (.bool true, σ)) := by
  kernel_rfl
theorem laws_eqIntS.A0_ret (k : Nat) (b1 : Bool) (σ : Heap) : laws_eqIntS.A0 k (.ret, [.v (.bool b1)], σ) = (some (.bool b1, σ)) := by
  kernel_rfl

/-! loop.example/smithy/laws.eqCodeIns: function 158 -/
theorem laws_eqCodeIns.eq (k : Nat) (n1 : Int) (n2 : Int) (n3 : Int) (n4 : Int) (σ : Heap) : hcall G (k + 1) n_laws_eqCodeIns [.agg [.int .i64 n1, .int .i64 n2], .agg [.int .i64 n3, .int .i64 n4]] σ = (bif !decide (n1 = n3) then (some (.bool false, σ)) else (bif !decide (n2 = n4) then (some (.bool false, σ)) else (some (.bool true, σ)))) := by
  kernel_rfl

/-! loop.example/smithy/laws.eqCodeInsS: function 148 -/
noncomputable def laws_eqCodeInsS.L0 (k : Nat) : Nat → List T → Heap → Option (Ex × List T × Heap) := hloop (hx (G.env n_laws_eqCodeInsS k) k 27 (subc (bodyOf Try.f148) [1, 1, 0, 1, 0, 0]) 0) 27 (G.msk n_laws_eqCodeInsS 0).1 (G.msk n_laws_eqCodeInsS 0).2
noncomputable def laws_eqCodeInsS.A0 (k : Nat) : Ex × List T × Heap → Option (V × Heap) := fun r => aft (G.env n_laws_eqCodeInsS k) k 27 (bodyOf Try.f148) [1, 1, 0, 1, 0] 0 (ck G.P Try.f148) r.1 (unpick 27 (G.msk n_laws_eqCodeInsS 0).2 r.2.1) r.2.2
theorem laws_eqCodeInsS.eq (k : Nat) (a1 : V) (a2 : V) (σ : Heap) : hcall G (k + 1) n_laws_eqCodeInsS [a1, a2] σ = ((vlen a1).bind fun k3 => (vlen a2).bind fun k4 => bif !decide ((k3 : Int) = (k4 : Int)) then (some (.bool false, σ)) else ((laws_eqCodeInsS.L0 k k [.v a1, .v a2, .v (.int .i64 0)] σ).bind (laws_eqCodeInsS.A0 k))) := by
  kernel_rfl
theorem laws_eqCodeInsS.L0_step (k m : Nat) (a1 : V) (a2 : V) (n3 : Int) (σ : Heap) : laws_eqCodeInsS.L0 k (m + 1) [.v a1, .v a2, .v (.int .i64 n3)] σ = ((vlen a1).bind fun k4 => bif decide (n3 < (k4 : Int)) then ((vidx 2 a1 n3).bind fun p5 => (rdc σ p5.1 p5.2 2).bind fun l6 => uncons l6 fun c7 l8 => castInt .i64 c7 fun n9 => uncons l8 fun c10 l11 => castInt .i64 c10 fun n12 => isNil l11 <| (vidx 2 a2 n3).bind fun p13 => (rdc σ p13.1 p13.2 2).bind fun l14 => uncons l14 fun c15 l16 => castInt .i64 c15 fun n17 => uncons l16 fun c18 l19 => castInt .i64 c18 fun n20 => isNil l19 <| (hcall G k n_laws_eqCodeIns [.agg [.int .i64 n9, .int .i64 n12], .agg [.int .i64 n17, .int .i64 n20]] σ).bind fun q21 => castBool q21.1 fun b22 => bif !b22 then (some (.ret, [.v (.bool false)], q21.2)) else (laws_eqCodeInsS.L0 k m [.v a1, .v a2, .v (.int .i64 (IntKind.wrap .i64 (n3 + 1)))] q21.2)) else (some (.exit 0, [.bot], σ))) := by
  kernel_rfl
theorem laws_eqCodeInsS.A0_x0 (k : Nat) (t1 : T) (σ : Heap) : laws_eqCodeInsS.A0 k (.exit 0, [t1], σ) = (some (.bool true, σ)) := by
  kernel_rfl
theorem laws_eqCodeInsS.A0_ret (k : Nat) (b1 : Bool) (σ : Heap) : laws_eqCodeInsS.A0 k (.ret, [.v (.bool b1)], σ) = (some (.bool b1, σ)) := by
  kernel_rfl

/-! loop.example/smithy/laws.eqCodeFun: function 124 -/
theorem laws_eqCodeFun.eq (k : Nat) (s1 : ByteArray) (b2 : Bool) (a3 : V) (n4 : Int) (n5 : Int) (a6 : V) (s7 : ByteArray) (b8 : Bool) (a9 : V) (n10 : Int) (n11 : Int) (a12 : V) (σ : Heap) : hcall G (k + 1) n_laws_eqCodeFun [.agg [.str s1, .bool b2, a3, .int .i64 n4, .int .i64 n5, a6], .agg [.str s7, .bool b8, a9, .int .i64 n10, .int .i64 n11, a12]] σ = (bif !decide (s1 = s7) then (some (.bool false, σ)) else (bif !(b2 == b8) then (some (.bool false, σ)) else ((hcall G k n_laws_eqIntS [a3, a9] σ).bind fun q13 => castBool q13.1 fun b14 => bif !b14 then (some (.bool false, q13.2)) else (bif !decide (n4 = n10) then (some (.bool false, q13.2)) else (bif !decide (n5 = n11) then (some (.bool false, q13.2)) else ((hcall G k n_laws_eqCodeInsS [a6, a12] q13.2).bind fun q15 => castBool q15.1 fun b16 => bif !b16 then (some (.bool false, q15.2)) else (some (.bool true, q15.2)))))))) := by
  kernel_rfl

/-! loop.example/smithy/laws.eqCodeFunS: function 107 -/
noncomputable def laws_eqCodeFunS.L0 (k : Nat) : Nat → List T → Heap → Option (Ex × List T × Heap) := hloop (hx (G.env n_laws_eqCodeFunS k) k 27 (subc (bodyOf Try.f107) [1, 1, 0, 1, 0, 0]) 0) 27 (G.msk n_laws_eqCodeFunS 0).1 (G.msk n_laws_eqCodeFunS 0).2
noncomputable def laws_eqCodeFunS.A0 (k : Nat) : Ex × List T × Heap → Option (V × Heap) := fun r => aft (G.env n_laws_eqCodeFunS k) k 27 (bodyOf Try.f107) [1, 1, 0, 1, 0] 0 (ck G.P Try.f107) r.1 (unpick 27 (G.msk n_laws_eqCodeFunS 0).2 r.2.1) r.2.2
theorem laws_eqCodeFunS.eq (k : Nat) (a1 : V) (a2 : V) (σ : Heap) : hcall G (k + 1) n_laws_eqCodeFunS [a1, a2] σ = ((vlen a1).bind fun k3 => (vlen a2).bind fun k4 => bif !decide ((k3 : Int) = (k4 : Int)) then (some (.bool false, σ)) else ((laws_eqCodeFunS.L0 k k [.v a1, .v a2, .v (.int .i64 0)] σ).bind (laws_eqCodeFunS.A0 k))) := by
  kernel_rfl
theorem laws_eqCodeFunS.L0_step (k m : Nat) (a1 : V) (a2 : V) (n3 : Int) (σ : Heap) : laws_eqCodeFunS.L0 k (m + 1) [.v a1, .v a2, .v (.int .i64 n3)] σ = ((vlen a1).bind fun k4 => bif decide (n3 < (k4 : Int)) then ((vidx 6 a1 n3).bind fun p5 => (rdc σ p5.1 p5.2 6).bind fun l6 => uncons l6 fun c7 l8 => castStr c7 fun s9 => uncons l8 fun c10 l11 => castBool c10 fun b12 => uncons l11 fun c13 l14 => uncons l14 fun c15 l16 => castInt .i64 c15 fun n17 => uncons l16 fun c18 l19 => castInt .i64 c18 fun n20 => uncons l19 fun c21 l22 => isNil l22 <| (vidx 6 a2 n3).bind fun p23 => (rdc σ p23.1 p23.2 6).bind fun l24 => uncons l24 fun c25 l26 => castStr c25 fun s27 => uncons l26 fun c28 l29 => castBool c28 fun b30 => uncons l29 fun c31 l32 => uncons l32 fun c33 l34 => castInt .i64 c33 fun n35 => uncons l34 fun c36 l37 => castInt .i64 c36 fun n38 => uncons l37 fun c39 l40 => isNil l40 <| (hcall G k n_laws_eqCodeFun [.agg [.str s9, .bool b12, c13, .int .i64 n17, .int .i64 n20, c21], .agg [.str s27, .bool b30, c31, .int .i64 n35, .int .i64 n38, c39]] σ).bind fun q41 => castBool q41.1 fun b42 => bif !b42 then (some (.ret, [.v (.bool false)], q41.2)) else (laws_eqCodeFunS.L0 k m [.v a1, .v a2, .v (.int .i64 (IntKind.wrap .i64 (n3 + 1)))] q41.2)) else (some (.exit 0, [.bot], σ))) := by
  kernel_rfl
theorem laws_eqCodeFunS.A0_x0 (k : Nat) (t1 : T) (σ : Heap) : laws_eqCodeFunS.A0 k (.exit 0, [t1], σ) = (some (.bool true, σ)) := by
  kernel_rfl
theorem laws_eqCodeFunS.A0_ret (k : Nat) (b1 : Bool) (σ : Heap) : laws_eqCodeFunS.A0 k (.ret, [.v (.bool b1)], σ) = (some (.bool b1, σ)) := by
  kernel_rfl

/-! loop.example/smithy/laws.eqCodeObj: function 91 -/
theorem laws_eqCodeObj.eq (k : Nat) (a1 : V) (a2 : V) (a3 : V) (a4 : V) (σ : Heap) : hcall G (k + 1) n_laws_eqCodeObj [.agg [a1, a2], .agg [a3, a4]] σ = ((hcall G k n_laws_eqCodeRefS [a1, a3] σ).bind fun q5 => castBool q5.1 fun b6 => bif !b6 then (some (.bool false, q5.2)) else ((hcall G k n_laws_eqCodeFunS [a2, a4] q5.2).bind fun q7 => castBool q7.1 fun b8 => bif !b8 then (some (.bool false, q7.2)) else (some (.bool true, q7.2)))) := by
  kernel_rfl

/-! loop.example/smithy/laws.eqLinkPart: function 65 -/
theorem laws_eqLinkPart.eq (k : Nat) (s1 : ByteArray) (a2 : V) (a3 : V) (s4 : ByteArray) (a5 : V) (a6 : V) (σ : Heap) : hcall G (k + 1) n_laws_eqLinkPart [.agg [.str s1, a2, a3], .agg [.str s4, a5, a6]] σ = (bif !decide (s1 = s4) then (some (.bool false, σ)) else ((hcall G k n_laws_eqCodeObj [.agg [a2, a3], .agg [a5, a6]] σ).bind fun q7 => castBool q7.1 fun b8 => bif !b8 then (some (.bool false, q7.2)) else (some (.bool true, q7.2)))) := by
  kernel_rfl

/-! loop.example/smithy/laws.eqLinkPartS: function 27 -/
noncomputable def laws_eqLinkPartS.L0 (k : Nat) : Nat → List T → Heap → Option (Ex × List T × Heap) := hloop (hx (G.env n_laws_eqLinkPartS k) k 27 (subc (bodyOf Try.f27) [1, 1, 0, 1, 0, 0]) 0) 27 (G.msk n_laws_eqLinkPartS 0).1 (G.msk n_laws_eqLinkPartS 0).2
noncomputable def laws_eqLinkPartS.A0 (k : Nat) : Ex × List T × Heap → Option (V × Heap) := fun r => aft (G.env n_laws_eqLinkPartS k) k 27 (bodyOf Try.f27) [1, 1, 0, 1, 0] 0 (ck G.P Try.f27) r.1 (unpick 27 (G.msk n_laws_eqLinkPartS 0).2 r.2.1) r.2.2
theorem laws_eqLinkPartS.eq (k : Nat) (a1 : V) (a2 : V) (σ : Heap) : hcall G (k + 1) n_laws_eqLinkPartS [a1, a2] σ = ((vlen a1).bind fun k3 => (vlen a2).bind fun k4 => bif !decide ((k3 : Int) = (k4 : Int)) then (some (.bool false, σ)) else ((laws_eqLinkPartS.L0 k k [.v a1, .v a2, .v (.int .i64 0)] σ).bind (laws_eqLinkPartS.A0 k))) := by
  kernel_rfl
theorem laws_eqLinkPartS.L0_step (k m : Nat) (a1 : V) (a2 : V) (n3 : Int) (σ : Heap) : laws_eqLinkPartS.L0 k (m + 1) [.v a1, .v a2, .v (.int .i64 n3)] σ = ((vlen a1).bind fun k4 => bif decide (n3 < (k4 : Int)) then ((vidx 3 a1 n3).bind fun p5 => (rdc σ p5.1 p5.2 3).bind fun l6 => uncons l6 fun c7 l8 => castStr c7 fun s9 => uncons l8 fun c10 l11 => uncons l11 fun c12 l13 => isNil l13 <| (vidx 3 a2 n3).bind fun p14 => (rdc σ p14.1 p14.2 3).bind fun l15 => uncons l15 fun c16 l17 => castStr c16 fun s18 => uncons l17 fun c19 l20 => uncons l20 fun c21 l22 => isNil l22 <| (hcall G k n_laws_eqLinkPart [.agg [.str s9, c10, c12], .agg [.str s18, c19, c21]] σ).bind fun q23 => castBool q23.1 fun b24 => bif !b24 then (some (.ret, [.v (.bool false)], q23.2)) else (laws_eqLinkPartS.L0 k m [.v a1, .v a2, .v (.int .i64 (IntKind.wrap .i64 (n3 + 1)))] q23.2)) else (some (.exit 0, [.bot], σ))) := by
  kernel_rfl
theorem laws_eqLinkPartS.A0_x0 (k : Nat) (t1 : T) (σ : Heap) : laws_eqLinkPartS.A0 k (.exit 0, [t1], σ) = (some (.bool true, σ)) := by
  kernel_rfl
theorem laws_eqLinkPartS.A0_ret (k : Nat) (b1 : Bool) (σ : Heap) : laws_eqLinkPartS.A0 k (.ret, [.v (.bool b1)], σ) = (some (.bool b1, σ)) := by
  kernel_rfl

/-! loop.example/smithy/spec.GraphRound: function 28 -/
noncomputable def spec_GraphRound.L0 (k : Nat) : Nat → List T → Heap → Option (Ex × List T × Heap) := hloop (hx (G.env n_spec_GraphRound k) k 39 (subc (bodyOf Try.f28) [1, 1, 1, 0, 1, 0, 0]) 0) 39 (G.msk n_spec_GraphRound 0).1 (G.msk n_spec_GraphRound 0).2
noncomputable def spec_GraphRound.A0 (k : Nat) : Ex × List T × Heap → Option (V × Heap) := fun r => aft (G.env n_spec_GraphRound k) k 39 (bodyOf Try.f28) [1, 1, 1, 0, 1, 0] 0 (ck G.P Try.f28) r.1 (unpick 39 (G.msk n_spec_GraphRound 0).2 r.2.1) r.2.2
theorem spec_GraphRound.eq (k : Nat) (a1 : V) (σ : Heap) : hcall G (k + 1) n_spec_GraphRound [a1] σ = ((hcall G k n_spec_GraphOk [a1] (hnew σ 1 [])).bind fun q2 => castBool q2.1 fun b3 => bif !b3 then (some ((.sl σ.length 0 0 true), q2.2)) else ((spec_GraphRound.L0 k k [.v a1, .v (.sl σ.length 0 0 true), .v (.int .i64 0)] q2.2).bind (spec_GraphRound.A0 k))) := by
  kernel_rfl
theorem spec_GraphRound.L0_step (k m : Nat) (a1 : V) (a2 : V) (n3 : Int) (σ : Heap) : spec_GraphRound.L0 k (m + 1) [.v a1, .v a2, .v (.int .i64 n3)] σ = ((vlen a1).bind fun k4 => bif decide (n3 < (k4 : Int)) then ((vidx 2 a1 n3).bind fun p5 => (rdc σ p5.1 (p5.2 + 0) 1).bind fun l6 => uncons l6 fun c7 l8 => castStr c7 fun s9 => isNil l8 <| (vidx 2 a1 n3).bind fun p10 => (rdc σ p10.1 (p10.2 + 0) 1).bind fun l11 => uncons l11 fun c12 l13 => castStr c12 fun s14 => isNil l13 <| (hcall G k n_spec_l5Grow [a1, (.sl (prot [p10.1] σ).length 0 1 true)] (prot [p10.1] (unprot [p10.1] σ (hnew (prot [p10.1] σ) 1 [.str s9])))).bind fun q15 => (hcall G k n_spec_l5Has [q15.1, .str s14] (unprot [p10.1] (unprot [p10.1] σ (hnew (prot [p10.1] σ) 1 [.str s9])) q15.2)).bind fun q16 => castBool q16.1 fun b17 => bif b17 then ((vidx 2 a1 n3).bind fun p18 => (rdc q16.2 p18.1 (p18.2 + 0) 1).bind fun l19 => uncons l19 fun c20 l21 => castStr c20 fun s22 => isNil l21 <| (vappend 1 16 q16.2 a2 1 [.str s22]).bind fun q23 => spec_GraphRound.L0 k m [.v a1, .v q23.1, .v (.int .i64 (IntKind.wrap .i64 (n3 + 1)))] q23.2) else (spec_GraphRound.L0 k m [.v a1, .v a2, .v (.int .i64 (IntKind.wrap .i64 (n3 + 1)))] q16.2)) else (some (.exit 0, [.bot, .v a2], σ))) := by
  kernel_rfl
theorem spec_GraphRound.A0_x0 (k : Nat) (t1 : T) (a2 : V) (σ : Heap) : spec_GraphRound.A0 k (.exit 0, [t1, .v a2], σ) = (some (a2, σ)) := by
  kernel_rfl

/-! loop.example/smithy/impl.GraphRound: function 29 -/
noncomputable def impl_GraphRound.L0 (k : Nat) : Nat → List T → Heap → Option (Ex × List T × Heap) := hloop (hx (G.env n_impl_GraphRound k) k 31 (subc (bodyOf Try.f29) [1, 1, 1, 0, 1, 0, 0]) 0) 31 (G.msk n_impl_GraphRound 0).1 (G.msk n_impl_GraphRound 0).2
noncomputable def impl_GraphRound.A0 (k : Nat) : Ex × List T × Heap → Option (V × Heap) := fun r => aft (G.env n_impl_GraphRound k) k 31 (bodyOf Try.f29) [1, 1, 1, 0, 1, 0] 0 (ck G.P Try.f29) r.1 (unpick 31 (G.msk n_impl_GraphRound 0).2 r.2.1) r.2.2
theorem impl_GraphRound.eq (k : Nat) (a1 : V) (σ : Heap) : hcall G (k + 1) n_impl_GraphRound [a1] σ = ((hcall G k n_impl_GraphOk [a1] σ).bind fun q2 => castBool q2.1 fun b3 => bif !b3 then (some (.nils, q2.2)) else ((vlen a1).bind fun k4 => (impl_GraphRound.L0 k k [.v a1, .v (.sl q2.2.length 0 0 true), .v a1, .v (.int .i64 (k4 : Int)), .v (.int .i64 0)] (hnew q2.2 1 [])).bind (impl_GraphRound.A0 k))) := by
  kernel_rfl
theorem impl_GraphRound.L0_step (k m : Nat) (a1 : V) (a2 : V) (a3 : V) (n4 : Int) (n5 : Int) (σ : Heap) : impl_GraphRound.L0 k (m + 1) [.v a1, .v a2, .v a3, .v (.int .i64 n4), .v (.int .i64 n5)] σ = (bif decide (n5 < n4) then ((vidx 2 a3 n5).bind fun p6 => (rdc σ p6.1 p6.2 2).bind fun l7 => uncons l7 fun c8 l9 => castStr c8 fun s10 => uncons l9 fun c11 l12 => isNil l12 <| (hcall G k n_impl_behind [a1, (.sl σ.length 0 1 true)] (hnew σ 1 [.str s10])).bind fun q13 => (hcall G k n_slices_Contains_string_string [q13.1, .str s10] q13.2).bind fun q14 => castBool q14.1 fun b15 => bif b15 then ((vappend 1 16 q14.2 a2 1 [.str s10]).bind fun q16 => impl_GraphRound.L0 k m [.v a1, .v q16.1, .v a3, .v (.int .i64 n4), .v (.int .i64 (IntKind.wrap .i64 (n5 + 1)))] q16.2) else (impl_GraphRound.L0 k m [.v a1, .v a2, .v a3, .v (.int .i64 n4), .v (.int .i64 (IntKind.wrap .i64 (n5 + 1)))] q14.2)) else (some (.exit 0, [.bot, .v a2], σ))) := by
  kernel_rfl
theorem impl_GraphRound.A0_x0 (k : Nat) (t1 : T) (a2 : V) (σ : Heap) : impl_GraphRound.A0 k (.exit 0, [t1, .v a2], σ) = (some (a2, σ)) := by
  kernel_rfl
end Go.A
