/- The functions' equations. -/
import Derived.Test.YtghkdjfgbaoplaaEG
namespace Go.B
open Go.HM Go.Proofs
set_option linter.unusedVariables false
set_option maxRecDepth 1000000
set_option maxHeartbeats 4000000

/-! slices.Sort[[]string,string]: function 89 -/
theorem slices_Sort_string_string.eq (k : Nat) (a1 : V) (σ : Heap) : hcall G (k + 1) n_slices_Sort_string_string [a1] σ = ((vlen a1).bind fun k2 => (hcall G k n_math_bits_Len [.int .u64 (IntKind.wrap .u64 (k2 : Int))] σ).bind fun q3 => castInt .i64 q3.1 fun n4 => (hcall G k n_slices_pdqsortOrdered_string [a1, .int .i64 0, .int .i64 (k2 : Int), .int .i64 n4] q3.2).bind fun q5 => castTuple q5.1 fun l6 => isNil l6 <| some (.tuple [], q5.2)) := by
  kernel_rfl

/-! loop.example/smithy/impl.behind: function 57 -/
noncomputable def impl_behind.L1 (k : Nat) : Nat → List T → Heap → Option (Ex × List T × Heap) := hloop (hx (G.env n_impl_behind k) k 39 (subc (bodyOf Try.f57) [1, 1, 0, 1, 0, 0, 1, 0, 1, 1, 0, 0]) 2) 39 (G.msk n_impl_behind 2).1 (G.msk n_impl_behind 2).2
noncomputable def impl_behind.L0 (k : Nat) : Nat → List T → Heap → Option (Ex × List T × Heap) := hloop (hx (G.env n_impl_behind k) k 39 (subc (bodyOf Try.f57) [1, 1, 0, 1, 0, 0]) 0) 39 (G.msk n_impl_behind 0).1 (G.msk n_impl_behind 0).2
noncomputable def impl_behind.A0 (k : Nat) : Ex × List T × Heap → Option (V × Heap) := fun r => aft (G.env n_impl_behind k) k 39 (bodyOf Try.f57) [1, 1, 0, 1, 0] 0 (ck G.P Try.f57) r.1 (unpick 39 (G.msk n_impl_behind 0).2 r.2.1) r.2.2
noncomputable def impl_behind.A1 (k m : Nat) : Ex × List T × Heap → Option (Ex × List T × Heap) := fun r => aft (G.env n_impl_behind k) k 39 (subc (bodyOf Try.f57) [1, 1, 0, 1, 0, 0]) [1, 0, 1, 1, 0] 0 (lk (impl_behind.L0 k m) (G.msk n_impl_behind 0).1 (G.msk n_impl_behind 0).2) r.1 (unpick 39 (G.msk n_impl_behind 2).2 r.2.1) r.2.2
theorem impl_behind.eq (k : Nat) (a1 : V) (a2 : V) (σ : Heap) : hcall G (k + 1) n_impl_behind [a1, a2] σ = (one a2 <| (wrc (hnew (hnew (hnew σ 1 [a2]) 1 []) 1 [.nils]) ((hnew (hnew σ 1 [a2]) 1 []).length) 0 [(.sl (hnew σ 1 [a2]).length 0 0 true)]).bind fun h3 => (impl_behind.L0 k k [.v a1, .v (.ptr σ.length 0), .v (.ptr ((hnew (hnew σ 1 [a2]) 1 []).length) 0), .v (.bool true)] h3).bind (impl_behind.A0 k)) := by
  kernel_rfl
theorem impl_behind.L0_step (k m : Nat) (a1 : V) (a2 : V) (a3 : V) (b4 : Bool) (σ : Heap) : impl_behind.L0 k (m + 1) [.v a1, .v a2, .v a3, .v (.bool b4)] σ = (bif b4 then ((vlen a1).bind fun k5 => (impl_behind.L1 k k [.v a1, .v a2, .v a3, .v (.bool false), .v a1, .v (.int .i64 (k5 : Int)), .v (.int .i64 0)] σ).bind (impl_behind.A1 k m)) else (some (.exit 0, [.bot, .v a3], σ))) := by
  kernel_rfl
theorem impl_behind.A0_x0 (k : Nat) (t1 : T) (a2 : V) (σ : Heap) : impl_behind.A0 k (.exit 0, [t1, .v a2], σ) = (castPtr a2 fun r3 o4 => (rdc σ r3 o4 1).bind fun l5 => uncons l5 fun c6 l7 => isNil l7 <| (hcall G k n_slices_Sort_string_string [c6] σ).bind fun q8 => castTuple q8.1 fun l9 => isNil l9 <| castPtr a2 fun r10 o11 => (rdc q8.2 r10 o11 1).bind fun l12 => uncons l12 fun c13 l14 => isNil l14 <| some (c13, q8.2)) := by
  kernel_rfl
theorem impl_behind.L1_step (k m : Nat) (a1 : V) (a2 : V) (a3 : V) (b4 : Bool) (a5 : V) (n6 : Int) (n7 : Int) (σ : Heap) : impl_behind.L1 k (m + 1) [.v a1, .v a2, .v a3, .v (.bool b4), .v a5, .v (.int .i64 n6), .v (.int .i64 n7)] σ = (bif decide (n7 < n6) then ((vidx 2 a5 n7).bind fun p8 => (rdc σ p8.1 p8.2 2).bind fun l9 => uncons l9 fun c10 l11 => castStr c10 fun s12 => uncons l11 fun c13 l14 => isNil l14 <| (hcall G k n_slices_ContainsFunc_string_string [c13, .fn n_impl_behind_1 [a2, a3]] σ).bind fun q15 => castBool q15.1 fun b16 => bif b16 then (castPtr a3 fun r17 o18 => (rdc q15.2 r17 o18 1).bind fun l19 => uncons l19 fun c20 l21 => isNil l21 <| (hcall G k n_slices_Contains_string_string [c20, .str s12] q15.2).bind fun q22 => castBool q22.1 fun b23 => bif !b23 then (castPtr a3 fun r24 o25 => (rdc q22.2 r24 o25 1).bind fun l26 => uncons l26 fun c27 l28 => isNil l28 <| (vappend 1 16 q22.2 c27 1 [.str s12]).bind fun q29 => one q29.1 <| castPtr a3 fun r30 o31 => (wrc q29.2 r30 o31 [q29.1]).bind fun h32 => impl_behind.L1 k m [.v a1, .v a2, .v a3, .v (.bool true), .v a5, .v (.int .i64 n6), .v (.int .i64 (IntKind.wrap .i64 (n7 + 1)))] h32) else (impl_behind.L1 k m [.v a1, .v a2, .v a3, .v (.bool b4), .v a5, .v (.int .i64 n6), .v (.int .i64 (IntKind.wrap .i64 (n7 + 1)))] q22.2)) else (impl_behind.L1 k m [.v a1, .v a2, .v a3, .v (.bool b4), .v a5, .v (.int .i64 n6), .v (.int .i64 (IntKind.wrap .i64 (n7 + 1)))] q15.2)) else (some (.exit 2, [.v a1, .v a2, .bot, .v a3, .v (.bool b4)], σ))) := by
  kernel_rfl
theorem impl_behind.A1_x2 (k m : Nat) (a1 : V) (a2 : V) (t3 : T) (a4 : V) (b5 : Bool) (σ : Heap) : impl_behind.A1 k m (.exit 2, [.v a1, .v a2, t3, .v a4, .v (.bool b5)], σ) = (impl_behind.L0 k m [.v a1, .v a2, .v a4, .v (.bool b5)] σ) := by
  kernel_rfl

/-! loop.example/smithy/impl.GraphBehind: function 20 -/
noncomputable def impl_GraphBehind.L0 (k : Nat) : Nat → List T → Heap → Option (Ex × List T × Heap) := hloop (hx (G.env n_impl_GraphBehind k) k 39 (subc (bodyOf Try.f20) [1, 1, 1, 0, 1, 0, 0]) 0) 39 (G.msk n_impl_GraphBehind 0).1 (G.msk n_impl_GraphBehind 0).2
noncomputable def impl_GraphBehind.A0 (k : Nat) : Ex × List T × Heap → Option (V × Heap) := fun r => aft (G.env n_impl_GraphBehind k) k 39 (bodyOf Try.f20) [1, 1, 1, 0, 1, 0] 0 (ck G.P Try.f20) r.1 (unpick 39 (G.msk n_impl_GraphBehind 0).2 r.2.1) r.2.2
theorem impl_GraphBehind.eq (k : Nat) (a1 : V) (a2 : V) (σ : Heap) : hcall G (k + 1) n_impl_GraphBehind [a1, a2] σ = ((hcall G k n_impl_GraphOk [a1] σ).bind fun q3 => castBool q3.1 fun b4 => bif !b4 then (some (.nils, q3.2)) else ((hcall G k n_impl_behind [a1, a2] q3.2).bind fun q5 => (vlen a1).bind fun k6 => (impl_GraphBehind.L0 k k [.v a2, .v q5.1, .v (.sl q5.2.length 0 0 true), .v a1, .v (.int .i64 (k6 : Int)), .v (.int .i64 0)] (hnew q5.2 1 [])).bind (impl_GraphBehind.A0 k))) := by
  kernel_rfl
theorem impl_GraphBehind.L0_step (k m : Nat) (a1 : V) (a2 : V) (a3 : V) (a4 : V) (n5 : Int) (n6 : Int) (σ : Heap) : impl_GraphBehind.L0 k (m + 1) [.v a1, .v a2, .v a3, .v a4, .v (.int .i64 n5), .v (.int .i64 n6)] σ = (bif decide (n6 < n5) then ((vidx 2 a4 n6).bind fun p7 => (rdc σ p7.1 p7.2 2).bind fun l8 => uncons l8 fun c9 l10 => castStr c9 fun s11 => uncons l10 fun c12 l13 => isNil l13 <| (hcall G k n_slices_Contains_string_string [a1, .str s11] σ).bind fun q14 => castBool q14.1 fun b15 => bif b15 then ((vappend 1 16 q14.2 a3 1 [.str s11]).bind fun q16 => impl_GraphBehind.L0 k m [.v a1, .v a2, .v q16.1, .v a4, .v (.int .i64 n5), .v (.int .i64 (IntKind.wrap .i64 (n6 + 1)))] q16.2) else ((hcall G k n_slices_Contains_string_string [a2, .str s11] q14.2).bind fun q17 => castBool q17.1 fun b18 => bif b18 then ((vappend 1 16 q17.2 a3 1 [.str s11]).bind fun q19 => impl_GraphBehind.L0 k m [.v a1, .v a2, .v q19.1, .v a4, .v (.int .i64 n5), .v (.int .i64 (IntKind.wrap .i64 (n6 + 1)))] q19.2) else (impl_GraphBehind.L0 k m [.v a1, .v a2, .v a3, .v a4, .v (.int .i64 n5), .v (.int .i64 (IntKind.wrap .i64 (n6 + 1)))] q17.2))) else (some (.exit 0, [.bot, .v a3], σ))) := by
  kernel_rfl
theorem impl_GraphBehind.A0_x0 (k : Nat) (t1 : T) (a2 : V) (σ : Heap) : impl_GraphBehind.A0 k (.exit 0, [t1, .v a2], σ) = (some (a2, σ)) := by
  kernel_rfl

/-! loop.example/smithy/laws.wlSame: function 21 -/
noncomputable def laws_wlSame.L0 (k : Nat) : Nat → List T → Heap → Option (Ex × List T × Heap) := hloop (hx (G.env n_laws_wlSame k) k 26 (subc (bodyOf Try.f21) [1, 1, 0, 1, 0, 0]) 0) 26 (G.msk n_laws_wlSame 0).1 (G.msk n_laws_wlSame 0).2
noncomputable def laws_wlSame.A0 (k : Nat) : Ex × List T × Heap → Option (V × Heap) := fun r => aft (G.env n_laws_wlSame k) k 26 (bodyOf Try.f21) [1, 1, 0, 1, 0] 0 (ck G.P Try.f21) r.1 (unpick 26 (G.msk n_laws_wlSame 0).2 r.2.1) r.2.2
theorem laws_wlSame.eq (k : Nat) (a1 : V) (a2 : V) (σ : Heap) : hcall G (k + 1) n_laws_wlSame [a1, a2] σ = ((vlen a1).bind fun k3 => (vlen a2).bind fun k4 => bif !decide ((k3 : Int) = (k4 : Int)) then (some (.bool false, σ)) else ((laws_wlSame.L0 k k [.v a1, .v a2, .v (.int .i64 0)] σ).bind (laws_wlSame.A0 k))) := by
  kernel_rfl
theorem laws_wlSame.L0_step (k m : Nat) (a1 : V) (a2 : V) (n3 : Int) (σ : Heap) : laws_wlSame.L0 k (m + 1) [.v a1, .v a2, .v (.int .i64 n3)] σ = ((vlen a1).bind fun k4 => bif decide (n3 < (k4 : Int)) then ((vidx 1 a1 n3).bind fun p5 => (rdc σ p5.1 p5.2 1).bind fun l6 => uncons l6 fun c7 l8 => castStr c7 fun s9 => isNil l8 <| (vidx 1 a2 n3).bind fun p10 => (rdc σ p10.1 p10.2 1).bind fun l11 => uncons l11 fun c12 l13 => castStr c12 fun s14 => isNil l13 <| bif !decide (s9 = s14) then (some (.ret, [.v (.bool false)], σ)) else (laws_wlSame.L0 k m [.v a1, .v a2, .v (.int .i64 (IntKind.wrap .i64 (n3 + 1)))] σ)) else (some (.exit 0, [.bot], σ))) := by
  kernel_rfl
theorem laws_wlSame.A0_x0 (k : Nat) (t1 : T) (σ : Heap) : laws_wlSame.A0 k (.exit 0, [t1], σ) = (some (.bool true, σ)) := by
  kernel_rfl
theorem laws_wlSame.A0_ret (k : Nat) (b1 : Bool) (σ : Heap) : laws_wlSame.A0 k (.ret, [.v (.bool b1)], σ) = (some (.bool b1, σ)) := by
  kernel_rfl

/-! loop.example/smithy/spec.GraphOk: function 24 -/
noncomputable def spec_GraphOk.L0 (k : Nat) : Nat → List T → Heap → Option (Ex × List T × Heap) := hloop (hx (G.env n_spec_GraphOk k) k 38 (subc (bodyOf Try.f24) [1, 1, 0, 1, 0, 0]) 0) 38 (G.msk n_spec_GraphOk 0).1 (G.msk n_spec_GraphOk 0).2
noncomputable def spec_GraphOk.A0 (k : Nat) : Ex × List T × Heap → Option (V × Heap) := fun r => aft (G.env n_spec_GraphOk k) k 38 (bodyOf Try.f24) [1, 1, 0, 1, 0] 0 (ck G.P Try.f24) r.1 (unpick 38 (G.msk n_spec_GraphOk 0).2 r.2.1) r.2.2
theorem spec_GraphOk.eq (k : Nat) (a1 : V) (σ : Heap) : hcall G (k + 1) n_spec_GraphOk [a1] σ = ((vlen a1).bind fun k2 => bif decide (8 < (k2 : Int)) then (some (.bool false, σ)) else ((spec_GraphOk.L0 k k [.v a1, .v (.int .i64 0)] σ).bind (spec_GraphOk.A0 k))) := by
  kernel_rfl
theorem spec_GraphOk.L0_step (k m : Nat) (a1 : V) (n2 : Int) (σ : Heap) : spec_GraphOk.L0 k (m + 1) [.v a1, .v (.int .i64 n2)] σ = ((vlen a1).bind fun k3 => bif decide (n2 < (k3 : Int)) then (bif decide (0 < n2) then ((vidx 2 a1 n2).bind fun p4 => (rdc σ p4.1 (p4.2 + 0) 1).bind fun l5 => uncons l5 fun c6 l7 => castStr c6 fun s8 => isNil l7 <| (vidx 2 a1 (IntKind.wrap .i64 (n2 - 1))).bind fun p9 => (rdc σ p9.1 (p9.2 + 0) 1).bind fun l10 => uncons l10 fun c11 l12 => castStr c11 fun s13 => isNil l12 <| bif !Op.bytesLess s13.toList s8.toList then (some (.ret, [.v (.bool false)], σ)) else ((vidx 2 a1 n2).bind fun p14 => (rdc σ p14.1 (p14.2 + 1) 1).bind fun l15 => uncons l15 fun c16 l17 => isNil l17 <| (vlen c16).bind fun k18 => bif decide (4 < (k18 : Int)) then (some (.ret, [.v (.bool false)], σ)) else (spec_GraphOk.L0 k m [.v a1, .v (.int .i64 (IntKind.wrap .i64 (n2 + 1)))] σ))) else ((vidx 2 a1 n2).bind fun p19 => (rdc σ p19.1 (p19.2 + 1) 1).bind fun l20 => uncons l20 fun c21 l22 => isNil l22 <| (vlen c21).bind fun k23 => bif decide (4 < (k23 : Int)) then (some (.ret, [.v (.bool false)], σ)) else (spec_GraphOk.L0 k m [.v a1, .v (.int .i64 (IntKind.wrap .i64 (n2 + 1)))] σ))) else (some (.exit 0, [.bot], σ))) := by
  kernel_rfl
theorem spec_GraphOk.A0_x0 (k : Nat) (t1 : T) (σ : Heap) : spec_GraphOk.A0 k (.exit 0, [t1], σ) = (some (.bool true, σ)) := by
  kernel_rfl
theorem spec_GraphOk.A0_ret (k : Nat) (b1 : Bool) (σ : Heap) : spec_GraphOk.A0 k (.ret, [.v (.bool b1)], σ) = (some (.bool b1, σ)) := by
  kernel_rfl

/-! loop.example/smithy/spec.l5Has: function 60 -/
noncomputable def spec_l5Has.L0 (k : Nat) : Nat → List T → Heap → Option (Ex × List T × Heap) := hloop (hx (G.env n_spec_l5Has k) k 18 (subc (bodyOf Try.f60) [1, 0, 1, 0, 0]) 0) 18 (G.msk n_spec_l5Has 0).1 (G.msk n_spec_l5Has 0).2
noncomputable def spec_l5Has.A0 (k : Nat) : Ex × List T × Heap → Option (V × Heap) := fun r => aft (G.env n_spec_l5Has k) k 18 (bodyOf Try.f60) [1, 0, 1, 0] 0 (ck G.P Try.f60) r.1 (unpick 18 (G.msk n_spec_l5Has 0).2 r.2.1) r.2.2
theorem spec_l5Has.eq (k : Nat) (a1 : V) (s2 : ByteArray) (σ : Heap) : hcall G (k + 1) n_spec_l5Has [a1, .str s2] σ = ((spec_l5Has.L0 k k [.v a1, .v (.str s2), .v (.int .i64 0)] σ).bind (spec_l5Has.A0 k)) := by
  kernel_rfl
theorem spec_l5Has.L0_step (k m : Nat) (a1 : V) (s2 : ByteArray) (n3 : Int) (σ : Heap) : spec_l5Has.L0 k (m + 1) [.v a1, .v (.str s2), .v (.int .i64 n3)] σ = ((vlen a1).bind fun k4 => bif decide (n3 < (k4 : Int)) then ((vidx 1 a1 n3).bind fun p5 => (rdc σ p5.1 p5.2 1).bind fun l6 => uncons l6 fun c7 l8 => castStr c7 fun s9 => isNil l8 <| bif decide (s9 = s2) then (some (.ret, [.v (.bool true)], σ)) else (spec_l5Has.L0 k m [.v a1, .v (.str s2), .v (.int .i64 (IntKind.wrap .i64 (n3 + 1)))] σ)) else (some (.exit 0, [.bot], σ))) := by
  kernel_rfl
theorem spec_l5Has.A0_x0 (k : Nat) (t1 : T) (σ : Heap) : spec_l5Has.A0 k (.exit 0, [t1], σ) = (some (.bool false, σ)) := by
  kernel_rfl
theorem spec_l5Has.A0_ret (k : Nat) (b1 : Bool) (σ : Heap) : spec_l5Has.A0 k (.ret, [.v (.bool b1)], σ) = (some (.bool b1, σ)) := by
  kernel_rfl

/-! loop.example/smithy/spec.l5Uses: function 91 -/
noncomputable def spec_l5Uses.L0 (k : Nat) : Nat → List T → Heap → Option (Ex × List T × Heap) := hloop (hx (G.env n_spec_l5Uses k) k 20 (subc (bodyOf Try.f91) [1, 0, 1, 0, 0]) 0) 20 (G.msk n_spec_l5Uses 0).1 (G.msk n_spec_l5Uses 0).2
noncomputable def spec_l5Uses.A0 (k : Nat) : Ex × List T × Heap → Option (V × Heap) := fun r => aft (G.env n_spec_l5Uses k) k 20 (bodyOf Try.f91) [1, 0, 1, 0] 0 (ck G.P Try.f91) r.1 (unpick 20 (G.msk n_spec_l5Uses 0).2 r.2.1) r.2.2
theorem spec_l5Uses.eq (k : Nat) (s1 : ByteArray) (a2 : V) (a3 : V) (σ : Heap) : hcall G (k + 1) n_spec_l5Uses [.agg [.str s1, a2], a3] σ = ((spec_l5Uses.L0 k k [.v a3, .box [.str s1, a2], .v (.int .i64 0)] σ).bind (spec_l5Uses.A0 k)) := by
  kernel_rfl
theorem spec_l5Uses.L0_step (k m : Nat) (a1 : V) (s2 : ByteArray) (a3 : V) (n4 : Int) (σ : Heap) : spec_l5Uses.L0 k (m + 1) [.v a1, .box [.str s2, a3], .v (.int .i64 n4)] σ = ((vlen a3).bind fun k5 => bif decide (n4 < (k5 : Int)) then ((vidx 1 a3 n4).bind fun p6 => (rdc σ p6.1 p6.2 1).bind fun l7 => uncons l7 fun c8 l9 => castStr c8 fun s10 => isNil l9 <| (hcall G k n_spec_l5Has [a1, .str s10] σ).bind fun q11 => castBool q11.1 fun b12 => bif b12 then (some (.ret, [.v (.bool true)], q11.2)) else (spec_l5Uses.L0 k m [.v a1, .box [.str s2, a3], .v (.int .i64 (IntKind.wrap .i64 (n4 + 1)))] q11.2)) else (some (.exit 0, [.bot], σ))) := by
  kernel_rfl
theorem spec_l5Uses.A0_x0 (k : Nat) (t1 : T) (σ : Heap) : spec_l5Uses.A0 k (.exit 0, [t1], σ) = (some (.bool false, σ)) := by
  kernel_rfl
theorem spec_l5Uses.A0_ret (k : Nat) (b1 : Bool) (σ : Heap) : spec_l5Uses.A0 k (.ret, [.v (.bool b1)], σ) = (some (.bool b1, σ)) := by
  kernel_rfl

/-! loop.example/smithy/spec.l5Grow: function 59 -/
noncomputable def spec_l5Grow.L1 (k : Nat) : Nat → List T → Heap → Option (Ex × List T × Heap) := hloop (hx (G.env n_spec_l5Grow k) k 49 (subc (bodyOf Try.f59) [1, 1, 0, 1, 0, 0, 1, 0, 1, 1, 0, 0]) 2) 49 (G.msk n_spec_l5Grow 2).1 (G.msk n_spec_l5Grow 2).2
noncomputable def spec_l5Grow.L0 (k : Nat) : Nat → List T → Heap → Option (Ex × List T × Heap) := hloop (hx (G.env n_spec_l5Grow k) k 49 (subc (bodyOf Try.f59) [1, 1, 0, 1, 0, 0]) 0) 49 (G.msk n_spec_l5Grow 0).1 (G.msk n_spec_l5Grow 0).2
noncomputable def spec_l5Grow.A0 (k : Nat) : Ex × List T × Heap → Option (V × Heap) := fun r => aft (G.env n_spec_l5Grow k) k 49 (bodyOf Try.f59) [1, 1, 0, 1, 0] 0 (ck G.P Try.f59) r.1 (unpick 49 (G.msk n_spec_l5Grow 0).2 r.2.1) r.2.2
noncomputable def spec_l5Grow.A1 (k m : Nat) : Ex × List T × Heap → Option (Ex × List T × Heap) := fun r => aft (G.env n_spec_l5Grow k) k 49 (subc (bodyOf Try.f59) [1, 1, 0, 1, 0, 0]) [1, 0, 1, 1, 0] 0 (lk (spec_l5Grow.L0 k m) (G.msk n_spec_l5Grow 0).1 (G.msk n_spec_l5Grow 0).2) r.1 (unpick 49 (G.msk n_spec_l5Grow 2).2 r.2.1) r.2.2
theorem spec_l5Grow.eq (k : Nat) (a1 : V) (a2 : V) (σ : Heap) : hcall G (k + 1) n_spec_l5Grow [a1, a2] σ = ((spec_l5Grow.L0 k k [.v a1, .v a2, .v (.sl σ.length 0 0 true), .v (.bool true)] (hnew σ 1 [])).bind (spec_l5Grow.A0 k)) := by
  kernel_rfl
theorem spec_l5Grow.L0_step (k m : Nat) (a1 : V) (a2 : V) (a3 : V) (b4 : Bool) (σ : Heap) : spec_l5Grow.L0 k (m + 1) [.v a1, .v a2, .v a3, .v (.bool b4)] σ = (bif b4 then ((spec_l5Grow.L1 k k [.v a1, .v a2, .v a3, .v (.bool false), .v (.int .i64 0)] σ).bind (spec_l5Grow.A1 k m)) else (some (.exit 0, [.bot, .v a3], σ))) := by
  kernel_rfl
theorem spec_l5Grow.A0_x0 (k : Nat) (t1 : T) (a2 : V) (σ : Heap) : spec_l5Grow.A0 k (.exit 0, [t1, .v a2], σ) = (some (a2, σ)) := by
  kernel_rfl
theorem spec_l5Grow.L1_step (k m : Nat) (a1 : V) (a2 : V) (a3 : V) (b4 : Bool) (n5 : Int) (σ : Heap) : spec_l5Grow.L1 k (m + 1) [.v a1, .v a2, .v a3, .v (.bool b4), .v (.int .i64 n5)] σ = ((vlen a1).bind fun k6 => bif decide (n5 < (k6 : Int)) then ((vidx 2 a1 n5).bind fun p7 => (rdc σ p7.1 (p7.2 + 0) 1).bind fun l8 => uncons l8 fun c9 l10 => castStr c9 fun s11 => isNil l10 <| (hcall G k n_spec_l5Has [a3, .str s11] σ).bind fun q12 => castBool q12.1 fun b13 => bif !b13 then ((vidx 2 a1 n5).bind fun p14 => (rdc q12.2 p14.1 p14.2 2).bind fun l15 => uncons l15 fun c16 l17 => castStr c16 fun s18 => uncons l17 fun c19 l20 => isNil l20 <| (hcall G k n_spec_l5Uses [.agg [.str s18, c19], a2] q12.2).bind fun q21 => castBool q21.1 fun b22 => bif b22 then ((vidx 2 a1 n5).bind fun p23 => (rdc q21.2 p23.1 (p23.2 + 0) 1).bind fun l24 => uncons l24 fun c25 l26 => castStr c25 fun s27 => isNil l26 <| (vappend 1 16 q21.2 a3 1 [.str s27]).bind fun q28 => spec_l5Grow.L1 k m [.v a1, .v a2, .v q28.1, .v (.bool true), .v (.int .i64 (IntKind.wrap .i64 (n5 + 1)))] q28.2) else ((vidx 2 a1 n5).bind fun p29 => (rdc q21.2 p29.1 p29.2 2).bind fun l30 => uncons l30 fun c31 l32 => castStr c31 fun s33 => uncons l32 fun c34 l35 => isNil l35 <| (hcall G k n_spec_l5Uses [.agg [.str s33, c34], a3] q21.2).bind fun q36 => castBool q36.1 fun b37 => bif b37 then ((vidx 2 a1 n5).bind fun p38 => (rdc q36.2 p38.1 (p38.2 + 0) 1).bind fun l39 => uncons l39 fun c40 l41 => castStr c40 fun s42 => isNil l41 <| (vappend 1 16 q36.2 a3 1 [.str s42]).bind fun q43 => spec_l5Grow.L1 k m [.v a1, .v a2, .v q43.1, .v (.bool true), .v (.int .i64 (IntKind.wrap .i64 (n5 + 1)))] q43.2) else (spec_l5Grow.L1 k m [.v a1, .v a2, .v a3, .v (.bool b4), .v (.int .i64 (IntKind.wrap .i64 (n5 + 1)))] q36.2))) else (spec_l5Grow.L1 k m [.v a1, .v a2, .v a3, .v (.bool b4), .v (.int .i64 (IntKind.wrap .i64 (n5 + 1)))] q12.2)) else (some (.exit 2, [.v a1, .v a2, .bot, .v a3, .v (.bool b4)], σ))) := by
  kernel_rfl
theorem spec_l5Grow.A1_x2 (k m : Nat) (a1 : V) (a2 : V) (t3 : T) (a4 : V) (b5 : Bool) (σ : Heap) : spec_l5Grow.A1 k m (.exit 2, [.v a1, .v a2, t3, .v a4, .v (.bool b5)], σ) = (spec_l5Grow.L0 k m [.v a1, .v a2, .v a4, .v (.bool b5)] σ) := by
  kernel_rfl

/-! loop.example/smithy/spec.GraphBehind: function 22 -/
noncomputable def spec_GraphBehind.L0 (k : Nat) : Nat → List T → Heap → Option (Ex × List T × Heap) := hloop (hx (G.env n_spec_GraphBehind k) k 47 (subc (bodyOf Try.f22) [1, 1, 1, 1, 0, 1, 0, 0]) 0) 47 (G.msk n_spec_GraphBehind 0).1 (G.msk n_spec_GraphBehind 0).2
noncomputable def spec_GraphBehind.A0 (k : Nat) : Ex × List T × Heap → Option (V × Heap) := fun r => aft (G.env n_spec_GraphBehind k) k 47 (bodyOf Try.f22) [1, 1, 1, 1, 0, 1, 0] 0 (ck G.P Try.f22) r.1 (unpick 47 (G.msk n_spec_GraphBehind 0).2 r.2.1) r.2.2
theorem spec_GraphBehind.eq (k : Nat) (a1 : V) (a2 : V) (σ : Heap) : hcall G (k + 1) n_spec_GraphBehind [a1, a2] σ = ((hcall G k n_spec_GraphOk [a1] (hnew σ 1 [])).bind fun q3 => castBool q3.1 fun b4 => bif !b4 then (some ((.sl σ.length 0 0 true), q3.2)) else ((hcall G k n_spec_l5Grow [a1, a2] q3.2).bind fun q5 => (spec_GraphBehind.L0 k k [.v a1, .v a2, .v (.sl σ.length 0 0 true), .v q5.1, .v (.int .i64 0)] q5.2).bind (spec_GraphBehind.A0 k))) := by
  kernel_rfl
theorem spec_GraphBehind.L0_step (k m : Nat) (a1 : V) (a2 : V) (a3 : V) (a4 : V) (n5 : Int) (σ : Heap) : spec_GraphBehind.L0 k (m + 1) [.v a1, .v a2, .v a3, .v a4, .v (.int .i64 n5)] σ = ((vlen a1).bind fun k6 => bif decide (n5 < (k6 : Int)) then ((vidx 2 a1 n5).bind fun p7 => (rdc σ p7.1 (p7.2 + 0) 1).bind fun l8 => uncons l8 fun c9 l10 => castStr c9 fun s11 => isNil l10 <| (hcall G k n_spec_l5Has [a4, .str s11] σ).bind fun q12 => castBool q12.1 fun b13 => bif b13 then ((vidx 2 a1 n5).bind fun p14 => (rdc q12.2 p14.1 (p14.2 + 0) 1).bind fun l15 => uncons l15 fun c16 l17 => castStr c16 fun s18 => isNil l17 <| (vappend 1 16 q12.2 a3 1 [.str s18]).bind fun q19 => spec_GraphBehind.L0 k m [.v a1, .v a2, .v q19.1, .v a4, .v (.int .i64 (IntKind.wrap .i64 (n5 + 1)))] q19.2) else ((vidx 2 a1 n5).bind fun p20 => (rdc q12.2 p20.1 (p20.2 + 0) 1).bind fun l21 => uncons l21 fun c22 l23 => castStr c22 fun s24 => isNil l23 <| (hcall G k n_spec_l5Has [a2, .str s24] q12.2).bind fun q25 => castBool q25.1 fun b26 => bif b26 then ((vidx 2 a1 n5).bind fun p27 => (rdc q25.2 p27.1 (p27.2 + 0) 1).bind fun l28 => uncons l28 fun c29 l30 => castStr c29 fun s31 => isNil l30 <| (vappend 1 16 q25.2 a3 1 [.str s31]).bind fun q32 => spec_GraphBehind.L0 k m [.v a1, .v a2, .v q32.1, .v a4, .v (.int .i64 (IntKind.wrap .i64 (n5 + 1)))] q32.2) else (spec_GraphBehind.L0 k m [.v a1, .v a2, .v a3, .v a4, .v (.int .i64 (IntKind.wrap .i64 (n5 + 1)))] q25.2))) else (some (.exit 0, [.bot, .v a3], σ))) := by
  kernel_rfl
theorem spec_GraphBehind.A0_x0 (k : Nat) (t1 : T) (a2 : V) (σ : Heap) : spec_GraphBehind.A0 k (.exit 0, [t1, .v a2], σ) = (some (a2, σ)) := by
  kernel_rfl

/-! loop.example/smithy/laws.wgPlace: function 23 -/
noncomputable def laws_wgPlace.L0 (k : Nat) : Nat → List T → Heap → Option (Ex × List T × Heap) := hloop (hx (G.env n_laws_wgPlace k) k 19 (subc (bodyOf Try.f23) [1, 0, 1, 0, 0]) 0) 19 (G.msk n_laws_wgPlace 0).1 (G.msk n_laws_wgPlace 0).2
noncomputable def laws_wgPlace.A0 (k : Nat) : Ex × List T × Heap → Option (V × Heap) := fun r => aft (G.env n_laws_wgPlace k) k 19 (bodyOf Try.f23) [1, 0, 1, 0] 0 (ck G.P Try.f23) r.1 (unpick 19 (G.msk n_laws_wgPlace 0).2 r.2.1) r.2.2
theorem laws_wgPlace.eq (k : Nat) (a1 : V) (s2 : ByteArray) (σ : Heap) : hcall G (k + 1) n_laws_wgPlace [a1, .str s2] σ = ((laws_wgPlace.L0 k k [.v a1, .v (.str s2), .v (.int .i64 0)] σ).bind (laws_wgPlace.A0 k)) := by
  kernel_rfl
theorem laws_wgPlace.L0_step (k m : Nat) (a1 : V) (s2 : ByteArray) (n3 : Int) (σ : Heap) : laws_wgPlace.L0 k (m + 1) [.v a1, .v (.str s2), .v (.int .i64 n3)] σ = ((vlen a1).bind fun k4 => bif decide (n3 < (k4 : Int)) then ((vidx 1 a1 n3).bind fun p5 => (rdc σ p5.1 p5.2 1).bind fun l6 => uncons l6 fun c7 l8 => castStr c7 fun s9 => isNil l8 <| bif decide (s9 = s2) then (some (.ret, [.v (.int .i64 n3)], σ)) else (laws_wgPlace.L0 k m [.v a1, .v (.str s2), .v (.int .i64 (IntKind.wrap .i64 (n3 + 1)))] σ)) else (some (.exit 0, [.bot], σ))) := by
  kernel_rfl
theorem laws_wgPlace.A0_x0 (k : Nat) (t1 : T) (σ : Heap) : laws_wgPlace.A0 k (.exit 0, [t1], σ) = (some (.int .i64 (-1), σ)) := by
  kernel_rfl
theorem laws_wgPlace.A0_ret (k : Nat) (n1 : Int) (σ : Heap) : laws_wgPlace.A0 k (.ret, [.v (.int .i64 n1)], σ) = (some (.int .i64 n1, σ)) := by
  kernel_rfl

/-! loop.example/smithy/laws.FnGraphBehind: function 5 -/
noncomputable def laws_FnGraphBehind.L1 (k : Nat) : Nat → List T → Heap → Option (Ex × List T × Heap) := hloop (hx (G.env n_laws_FnGraphBehind k) k 92 (subc (bodyOf Try.f5) [1, 1, 1, 1, 1, 1, 1, 0, 1, 0, 0]) 2) 92 (G.msk n_laws_FnGraphBehind 2).1 (G.msk n_laws_FnGraphBehind 2).2
noncomputable def laws_FnGraphBehind.L0 (k : Nat) : Nat → List T → Heap → Option (Ex × List T × Heap) := hloop (hx (G.env n_laws_FnGraphBehind k) k 92 (subc (bodyOf Try.f5) [1, 1, 1, 1, 1, 1, 0, 1, 0, 0]) 0) 92 (G.msk n_laws_FnGraphBehind 0).1 (G.msk n_laws_FnGraphBehind 0).2
noncomputable def laws_FnGraphBehind.A0 (k : Nat) : Ex × List T × Heap → Option (V × Heap) := fun r => aft (G.env n_laws_FnGraphBehind k) k 92 (bodyOf Try.f5) [1, 1, 1, 1, 1, 1, 0, 1, 0] 0 (ck G.P Try.f5) r.1 (unpick 92 (G.msk n_laws_FnGraphBehind 0).2 r.2.1) r.2.2
noncomputable def laws_FnGraphBehind.A1 (k : Nat) : Ex × List T × Heap → Option (V × Heap) := fun r => aft (G.env n_laws_FnGraphBehind k) k 92 (bodyOf Try.f5) [1, 1, 1, 1, 1, 1, 1, 0, 1, 0] 0 (ck G.P Try.f5) r.1 (unpick 92 (G.msk n_laws_FnGraphBehind 2).2 r.2.1) r.2.2
theorem laws_FnGraphBehind.eq (k : Nat) (a1 : V) (a2 : V) (σ : Heap) : hcall G (k + 1) n_laws_FnGraphBehind [a1, a2] σ = ((vlen a1).bind fun k3 => bif decide (1048576 < (k3 : Int)) then (some (.bool true, σ)) else ((vlen a2).bind fun k4 => bif decide (1048576 < (k4 : Int)) then (some (.bool true, σ)) else ((hcall G k n_spec_DrawGraphBehind [a1] σ).bind fun q5 => castTuple q5.1 fun l6 => uncons l6 fun c7 l8 => uncons l8 fun c9 l10 => isNil l10 <| (hcall G k n_impl_GraphBehind [c7, c9] q5.2).bind fun q11 => (vlen a2).bind fun k12 => (vlen c9).bind fun k13 => if IntKind.wrap .i64 ((k13 : Int) + 1) = 0 then none else ((vslice 1 c9 none (some (Int.tmod (k12 : Int) (IntKind.wrap .i64 ((k13 : Int) + 1))))).bind fun a14 => (hcall G k n_impl_GraphBehind [c7, a14] q11.2).bind fun q15 => (hcall G k n_spec_GraphBehind [c7, c9] q15.2).bind fun q16 => (hcall G k n_laws_wlSame [q11.1, q16.1] q16.2).bind fun q17 => castBool q17.1 fun b18 => bif !b18 then (some (.bool false, q17.2)) else ((hcall G k n_impl_GraphBehind [c7, q11.1] q17.2).bind fun q19 => (hcall G k n_laws_wlSame [q19.1, q11.1] q19.2).bind fun q20 => castBool q20.1 fun b21 => bif !b21 then (some (.bool false, q20.2)) else ((laws_FnGraphBehind.L0 k k [.v c7, .v c9, .v q11.1, .v q15.1, .v (.int .i64 0)] q20.2).bind (laws_FnGraphBehind.A0 k))))))) := by
  kernel_rfl
theorem laws_FnGraphBehind.L0_step (k m : Nat) (a1 : V) (a2 : V) (a3 : V) (a4 : V) (n5 : Int) (σ : Heap) : laws_FnGraphBehind.L0 k (m + 1) [.v a1, .v a2, .v a3, .v a4, .v (.int .i64 n5)] σ = ((vlen a4).bind fun k6 => bif decide (n5 < (k6 : Int)) then ((vidx 1 a4 n5).bind fun p7 => (rdc σ p7.1 p7.2 1).bind fun l8 => uncons l8 fun c9 l10 => castStr c9 fun s11 => isNil l10 <| (hcall G k n_laws_wgPlace [a3, .str s11] σ).bind fun q12 => castInt .i64 q12.1 fun n13 => bif decide (n13 < 0) then (some (.ret, [.v (.bool false), .v a1, .v a2, .v a3], q12.2)) else (laws_FnGraphBehind.L0 k m [.v a1, .v a2, .v a3, .v a4, .v (.int .i64 (IntKind.wrap .i64 (n5 + 1)))] q12.2)) else (some (.exit 0, [.bot, .v a1, .v a2, .v a3], σ))) := by
  kernel_rfl
theorem laws_FnGraphBehind.A0_x0 (k : Nat) (t1 : T) (a2 : V) (a3 : V) (a4 : V) (σ : Heap) : laws_FnGraphBehind.A0 k (.exit 0, [t1, .v a2, .v a3, .v a4], σ) = ((laws_FnGraphBehind.L1 k k [.v a2, .v a3, .v a4, .v (.int .i64 0)] σ).bind (laws_FnGraphBehind.A1 k)) := by
  kernel_rfl
theorem laws_FnGraphBehind.A0_ret (k : Nat) (b1 : Bool) (t2 : T) (t3 : T) (t4 : T) (σ : Heap) : laws_FnGraphBehind.A0 k (.ret, [.v (.bool b1), t2, t3, t4], σ) = (some (.bool b1, σ)) := by
  kernel_rfl
theorem laws_FnGraphBehind.L1_step (k m : Nat) (a1 : V) (a2 : V) (a3 : V) (n4 : Int) (σ : Heap) : laws_FnGraphBehind.L1 k (m + 1) [.v a1, .v a2, .v a3, .v (.int .i64 n4)] σ = ((vlen a1).bind fun k5 => bif decide (n4 < (k5 : Int)) then ((hcall G k n_spec_GraphOk [a1] σ).bind fun q6 => castBool q6.1 fun b7 => bif b7 then ((vidx 2 a1 n4).bind fun p8 => (rdc q6.2 p8.1 (p8.2 + 0) 1).bind fun l9 => uncons l9 fun c10 l11 => castStr c10 fun s12 => isNil l11 <| (hcall G k n_laws_wgPlace [a2, .str s12] q6.2).bind fun q13 => castInt .i64 q13.1 fun n14 => bif decide (0 ≤ n14) then ((vidx 2 a1 n4).bind fun p15 => (rdc q13.2 p15.1 (p15.2 + 0) 1).bind fun l16 => uncons l16 fun c17 l18 => castStr c17 fun s19 => isNil l18 <| (hcall G k n_laws_wgPlace [a3, .str s19] q13.2).bind fun q20 => castInt .i64 q20.1 fun n21 => bif decide (n21 < 0) then (some (.ret, [.v (.bool false)], q20.2)) else (laws_FnGraphBehind.L1 k m [.v a1, .v a2, .v a3, .v (.int .i64 (IntKind.wrap .i64 (n4 + 1)))] q20.2)) else (laws_FnGraphBehind.L1 k m [.v a1, .v a2, .v a3, .v (.int .i64 (IntKind.wrap .i64 (n4 + 1)))] q13.2)) else (some (.exit 2, [.bot], q6.2))) else (some (.exit 2, [.bot], σ))) := by
  kernel_rfl
theorem laws_FnGraphBehind.A1_x2 (k : Nat) (t1 : T) (σ : Heap) : laws_FnGraphBehind.A1 k (.exit 2, [t1], σ) = (some (.bool true, σ)) := by
  kernel_rfl
theorem laws_FnGraphBehind.A1_ret (k : Nat) (b1 : Bool) (σ : Heap) : laws_FnGraphBehind.A1 k (.ret, [.v (.bool b1)], σ) = (some (.bool b1, σ)) := by
  kernel_rfl

/-! loop.example/smithy/laws.szCodeRef: function 124 -/
theorem laws_szCodeRef.eq (k : Nat) (s1 : ByteArray) (s2 : ByteArray) (n3 : Int) (σ : Heap) : hcall G (k + 1) n_laws_szCodeRef [.agg [.str s1, .str s2], .int .i64 n3] σ = (bif decide (IntKind.wrap .i64 (n3 - (s1.size : Int)) < 0) then (some (.int .i64 (-1), σ)) else (bif decide (IntKind.wrap .i64 ((IntKind.wrap .i64 (n3 - (s1.size : Int))) - (s2.size : Int)) < 0) then (some (.int .i64 (-1), σ)) else (some (.int .i64 (IntKind.wrap .i64 ((IntKind.wrap .i64 (n3 - (s1.size : Int))) - (s2.size : Int))), σ)))) := by
  kernel_rfl

/-! loop.example/smithy/laws.szCodeRefS: function 93 -/
noncomputable def laws_szCodeRefS.L0 (k : Nat) : Nat → List T → Heap → Option (Ex × List T × Heap) := hloop (hx (G.env n_laws_szCodeRefS k) k 27 (subc (bodyOf Try.f93) [1, 1, 1, 0, 1, 0, 0]) 0) 27 (G.msk n_laws_szCodeRefS 0).1 (G.msk n_laws_szCodeRefS 0).2
noncomputable def laws_szCodeRefS.A0 (k : Nat) : Ex × List T × Heap → Option (V × Heap) := fun r => aft (G.env n_laws_szCodeRefS k) k 27 (bodyOf Try.f93) [1, 1, 1, 0, 1, 0] 0 (ck G.P Try.f93) r.1 (unpick 27 (G.msk n_laws_szCodeRefS 0).2 r.2.1) r.2.2
theorem laws_szCodeRefS.eq (k : Nat) (a1 : V) (n2 : Int) (σ : Heap) : hcall G (k + 1) n_laws_szCodeRefS [a1, .int .i64 n2] σ = ((vlen a1).bind fun k3 => bif decide (IntKind.wrap .i64 (n2 - (k3 : Int)) < 0) then (some (.int .i64 (-1), σ)) else ((laws_szCodeRefS.L0 k k [.v a1, .v (.int .i64 (IntKind.wrap .i64 (n2 - (k3 : Int)))), .v (.int .i64 0)] σ).bind (laws_szCodeRefS.A0 k))) := by
  kernel_rfl
theorem laws_szCodeRefS.L0_step (k m : Nat) (a1 : V) (n2 : Int) (n3 : Int) (σ : Heap) : laws_szCodeRefS.L0 k (m + 1) [.v a1, .v (.int .i64 n2), .v (.int .i64 n3)] σ = ((vlen a1).bind fun k4 => bif decide (n3 < (k4 : Int)) then ((vidx 2 a1 n3).bind fun p5 => (rdc σ p5.1 p5.2 2).bind fun l6 => uncons l6 fun c7 l8 => castStr c7 fun s9 => uncons l8 fun c10 l11 => castStr c10 fun s12 => isNil l11 <| (hcall G k n_laws_szCodeRef [.agg [.str s9, .str s12], .int .i64 n2] σ).bind fun q13 => castInt .i64 q13.1 fun n14 => bif decide (n14 < 0) then (some (.ret, [.v (.int .i64 n14), .v (.int .i64 (-1))], q13.2)) else (laws_szCodeRefS.L0 k m [.v a1, .v (.int .i64 n14), .v (.int .i64 (IntKind.wrap .i64 (n3 + 1)))] q13.2)) else (some (.exit 0, [.v (.int .i64 n2), .bot], σ))) := by
  kernel_rfl
theorem laws_szCodeRefS.A0_x0 (k : Nat) (n1 : Int) (t2 : T) (σ : Heap) : laws_szCodeRefS.A0 k (.exit 0, [.v (.int .i64 n1), t2], σ) = (some (.int .i64 n1, σ)) := by
  kernel_rfl
theorem laws_szCodeRefS.A0_ret (k : Nat) (t1 : T) (n2 : Int) (σ : Heap) : laws_szCodeRefS.A0 k (.ret, [t1, .v (.int .i64 n2)], σ) = (some (.int .i64 n2, σ)) := by
  kernel_rfl

/-! loop.example/smithy/laws.szIntS: function 158 -/
theorem laws_szIntS.eq (k : Nat) (a1 : V) (n2 : Int) (σ : Heap) : hcall G (k + 1) n_laws_szIntS [a1, .int .i64 n2] σ = ((vlen a1).bind fun k3 => bif decide (IntKind.wrap .i64 (n2 - (k3 : Int)) < 0) then (some (.int .i64 (-1), σ)) else (some (.int .i64 (IntKind.wrap .i64 (n2 - (k3 : Int))), σ))) := by
  kernel_rfl

/-! loop.example/smithy/laws.szCodeInsS: function 159 -/
theorem laws_szCodeInsS.eq (k : Nat) (a1 : V) (n2 : Int) (σ : Heap) : hcall G (k + 1) n_laws_szCodeInsS [a1, .int .i64 n2] σ = ((vlen a1).bind fun k3 => bif decide (IntKind.wrap .i64 (n2 - (k3 : Int)) < 0) then (some (.int .i64 (-1), σ)) else (some (.int .i64 (IntKind.wrap .i64 (n2 - (k3 : Int))), σ))) := by
  kernel_rfl

/-! loop.example/smithy/laws.szCodeFun: function 125 -/
theorem laws_szCodeFun.eq (k : Nat) (s1 : ByteArray) (b2 : Bool) (a3 : V) (n4 : Int) (n5 : Int) (a6 : V) (n7 : Int) (σ : Heap) : hcall G (k + 1) n_laws_szCodeFun [.agg [.str s1, .bool b2, a3, .int .i64 n4, .int .i64 n5, a6], .int .i64 n7] σ = (bif decide (IntKind.wrap .i64 (n7 - (s1.size : Int)) < 0) then (some (.int .i64 (-1), σ)) else ((hcall G k n_laws_szIntS [a3, .int .i64 (IntKind.wrap .i64 (n7 - (s1.size : Int)))] σ).bind fun q8 => castInt .i64 q8.1 fun n9 => bif decide (n9 < 0) then (some (.int .i64 (-1), q8.2)) else ((hcall G k n_laws_szCodeInsS [a6, .int .i64 n9] q8.2).bind fun q10 => castInt .i64 q10.1 fun n11 => bif decide (n11 < 0) then (some (.int .i64 (-1), q10.2)) else (some (.int .i64 n11, q10.2))))) := by
  kernel_rfl

/-! loop.example/smithy/laws.szCodeFunS: function 94 -/
noncomputable def laws_szCodeFunS.L0 (k : Nat) : Nat → List T → Heap → Option (Ex × List T × Heap) := hloop (hx (G.env n_laws_szCodeFunS k) k 27 (subc (bodyOf Try.f94) [1, 1, 1, 0, 1, 0, 0]) 0) 27 (G.msk n_laws_szCodeFunS 0).1 (G.msk n_laws_szCodeFunS 0).2
noncomputable def laws_szCodeFunS.A0 (k : Nat) : Ex × List T × Heap → Option (V × Heap) := fun r => aft (G.env n_laws_szCodeFunS k) k 27 (bodyOf Try.f94) [1, 1, 1, 0, 1, 0] 0 (ck G.P Try.f94) r.1 (unpick 27 (G.msk n_laws_szCodeFunS 0).2 r.2.1) r.2.2
theorem laws_szCodeFunS.eq (k : Nat) (a1 : V) (n2 : Int) (σ : Heap) : hcall G (k + 1) n_laws_szCodeFunS [a1, .int .i64 n2] σ = ((vlen a1).bind fun k3 => bif decide (IntKind.wrap .i64 (n2 - (k3 : Int)) < 0) then (some (.int .i64 (-1), σ)) else ((laws_szCodeFunS.L0 k k [.v a1, .v (.int .i64 (IntKind.wrap .i64 (n2 - (k3 : Int)))), .v (.int .i64 0)] σ).bind (laws_szCodeFunS.A0 k))) := by
  kernel_rfl
theorem laws_szCodeFunS.L0_step (k m : Nat) (a1 : V) (n2 : Int) (n3 : Int) (σ : Heap) : laws_szCodeFunS.L0 k (m + 1) [.v a1, .v (.int .i64 n2), .v (.int .i64 n3)] σ = ((vlen a1).bind fun k4 => bif decide (n3 < (k4 : Int)) then ((vidx 6 a1 n3).bind fun p5 => (rdc σ p5.1 p5.2 6).bind fun l6 => uncons l6 fun c7 l8 => castStr c7 fun s9 => uncons l8 fun c10 l11 => castBool c10 fun b12 => uncons l11 fun c13 l14 => uncons l14 fun c15 l16 => castInt .i64 c15 fun n17 => uncons l16 fun c18 l19 => castInt .i64 c18 fun n20 => uncons l19 fun c21 l22 => isNil l22 <| (hcall G k n_laws_szCodeFun [.agg [.str s9, .bool b12, c13, .int .i64 n17, .int .i64 n20, c21], .int .i64 n2] σ).bind fun q23 => castInt .i64 q23.1 fun n24 => bif decide (n24 < 0) then (some (.ret, [.v (.int .i64 n24), .v (.int .i64 (-1))], q23.2)) else (laws_szCodeFunS.L0 k m [.v a1, .v (.int .i64 n24), .v (.int .i64 (IntKind.wrap .i64 (n3 + 1)))] q23.2)) else (some (.exit 0, [.v (.int .i64 n2), .bot], σ))) := by
  kernel_rfl
theorem laws_szCodeFunS.A0_x0 (k : Nat) (n1 : Int) (t2 : T) (σ : Heap) : laws_szCodeFunS.A0 k (.exit 0, [.v (.int .i64 n1), t2], σ) = (some (.int .i64 n1, σ)) := by
  kernel_rfl
theorem laws_szCodeFunS.A0_ret (k : Nat) (t1 : T) (n2 : Int) (σ : Heap) : laws_szCodeFunS.A0 k (.ret, [t1, .v (.int .i64 n2)], σ) = (some (.int .i64 n2, σ)) := by
  kernel_rfl

/-! loop.example/smithy/laws.szCodeObj: function 66 -/
theorem laws_szCodeObj.eq (k : Nat) (a1 : V) (a2 : V) (n3 : Int) (σ : Heap) : hcall G (k + 1) n_laws_szCodeObj [.agg [a1, a2], .int .i64 n3] σ = ((hcall G k n_laws_szCodeRefS [a1, .int .i64 n3] σ).bind fun q4 => castInt .i64 q4.1 fun n5 => bif decide (n5 < 0) then (some (.int .i64 (-1), q4.2)) else ((hcall G k n_laws_szCodeFunS [a2, .int .i64 n5] q4.2).bind fun q6 => castInt .i64 q6.1 fun n7 => bif decide (n7 < 0) then (some (.int .i64 (-1), q6.2)) else (some (.int .i64 n7, q6.2)))) := by
  kernel_rfl

/-! loop.example/smithy/laws.szLinkPart: function 31 -/
theorem laws_szLinkPart.eq (k : Nat) (s1 : ByteArray) (a2 : V) (a3 : V) (n4 : Int) (σ : Heap) : hcall G (k + 1) n_laws_szLinkPart [.agg [.str s1, a2, a3], .int .i64 n4] σ = (bif decide (IntKind.wrap .i64 (n4 - (s1.size : Int)) < 0) then (some (.int .i64 (-1), σ)) else ((hcall G k n_laws_szCodeObj [.agg [a2, a3], .int .i64 (IntKind.wrap .i64 (n4 - (s1.size : Int)))] σ).bind fun q5 => castInt .i64 q5.1 fun n6 => bif decide (n6 < 0) then (some (.int .i64 (-1), q5.2)) else (some (.int .i64 n6, q5.2)))) := by
  kernel_rfl

/-! loop.example/smithy/laws.szLinkPartS: function 7 -/
noncomputable def laws_szLinkPartS.L0 (k : Nat) : Nat → List T → Heap → Option (Ex × List T × Heap) := hloop (hx (G.env n_laws_szLinkPartS k) k 27 (subc (bodyOf Try.f7) [1, 1, 1, 0, 1, 0, 0]) 0) 27 (G.msk n_laws_szLinkPartS 0).1 (G.msk n_laws_szLinkPartS 0).2
noncomputable def laws_szLinkPartS.A0 (k : Nat) : Ex × List T × Heap → Option (V × Heap) := fun r => aft (G.env n_laws_szLinkPartS k) k 27 (bodyOf Try.f7) [1, 1, 1, 0, 1, 0] 0 (ck G.P Try.f7) r.1 (unpick 27 (G.msk n_laws_szLinkPartS 0).2 r.2.1) r.2.2
theorem laws_szLinkPartS.eq (k : Nat) (a1 : V) (n2 : Int) (σ : Heap) : hcall G (k + 1) n_laws_szLinkPartS [a1, .int .i64 n2] σ = ((vlen a1).bind fun k3 => bif decide (IntKind.wrap .i64 (n2 - (k3 : Int)) < 0) then (some (.int .i64 (-1), σ)) else ((laws_szLinkPartS.L0 k k [.v a1, .v (.int .i64 (IntKind.wrap .i64 (n2 - (k3 : Int)))), .v (.int .i64 0)] σ).bind (laws_szLinkPartS.A0 k))) := by
  kernel_rfl
theorem laws_szLinkPartS.L0_step (k m : Nat) (a1 : V) (n2 : Int) (n3 : Int) (σ : Heap) : laws_szLinkPartS.L0 k (m + 1) [.v a1, .v (.int .i64 n2), .v (.int .i64 n3)] σ = ((vlen a1).bind fun k4 => bif decide (n3 < (k4 : Int)) then ((vidx 3 a1 n3).bind fun p5 => (rdc σ p5.1 p5.2 3).bind fun l6 => uncons l6 fun c7 l8 => castStr c7 fun s9 => uncons l8 fun c10 l11 => uncons l11 fun c12 l13 => isNil l13 <| (hcall G k n_laws_szLinkPart [.agg [.str s9, c10, c12], .int .i64 n2] σ).bind fun q14 => castInt .i64 q14.1 fun n15 => bif decide (n15 < 0) then (some (.ret, [.v (.int .i64 n15), .v (.int .i64 (-1))], q14.2)) else (laws_szLinkPartS.L0 k m [.v a1, .v (.int .i64 n15), .v (.int .i64 (IntKind.wrap .i64 (n3 + 1)))] q14.2)) else (some (.exit 0, [.v (.int .i64 n2), .bot], σ))) := by
  kernel_rfl
theorem laws_szLinkPartS.A0_x0 (k : Nat) (n1 : Int) (t2 : T) (σ : Heap) : laws_szLinkPartS.A0 k (.exit 0, [.v (.int .i64 n1), t2], σ) = (some (.int .i64 n1, σ)) := by
  kernel_rfl
theorem laws_szLinkPartS.A0_ret (k : Nat) (t1 : T) (n2 : Int) (σ : Heap) : laws_szLinkPartS.A0 k (.ret, [t1, .v (.int .i64 n2)], σ) = (some (.int .i64 n2, σ)) := by
  kernel_rfl

/-! loop.example/smithy/laws.toCodeRef: function 128 -/
theorem laws_toCodeRef.eq (k : Nat) (s1 : ByteArray) (s2 : ByteArray) (σ : Heap) : hcall G (k + 1) n_laws_toCodeRef [.agg [.str s1, .str s2]] σ = (some (.agg [.str s1, .str s2], σ)) := by
  kernel_rfl

/-! loop.example/smithy/laws.toCodeRefS: function 100 -/
noncomputable def laws_toCodeRefS.L0 (k : Nat) : Nat → List T → Heap → Option (Ex × List T × Heap) := hloop (hx (G.env n_laws_toCodeRefS k) k 23 (subc (bodyOf Try.f100) [1, 1, 0, 1, 0, 0]) 0) 23 (G.msk n_laws_toCodeRefS 0).1 (G.msk n_laws_toCodeRefS 0).2
noncomputable def laws_toCodeRefS.A0 (k : Nat) : Ex × List T × Heap → Option (V × Heap) := fun r => aft (G.env n_laws_toCodeRefS k) k 23 (bodyOf Try.f100) [1, 1, 0, 1, 0] 0 (ck G.P Try.f100) r.1 (unpick 23 (G.msk n_laws_toCodeRefS 0).2 r.2.1) r.2.2
theorem laws_toCodeRefS.eq (k : Nat) (a1 : V) (σ : Heap) : hcall G (k + 1) n_laws_toCodeRefS [a1] σ = ((vlen a1).bind fun k2 => if 0 ≤ (k2 : Int) ∧ (k2 : Int) * 32 ≤ 2 ^ 46 ∧ (k2 : Int) ≤ 2 ^ 46 then ((laws_toCodeRefS.L0 k k [.v a1, .v (.sl σ.length 0 ((k2 : Int) : Int).toNat true), .v (.int .i64 0)] (hnew σ 2 (List.replicate ((k2 : Int) : Int).toNat [.str (⟨#[]⟩ : ByteArray), .str (⟨#[]⟩ : ByteArray)]).flatten)).bind (laws_toCodeRefS.A0 k)) else none) := by
  kernel_rfl
theorem laws_toCodeRefS.L0_step (k m : Nat) (a1 : V) (a2 : V) (n3 : Int) (σ : Heap) : laws_toCodeRefS.L0 k (m + 1) [.v a1, .v a2, .v (.int .i64 n3)] σ = ((vlen a1).bind fun k4 => bif decide (n3 < (k4 : Int)) then ((vidx 2 a1 n3).bind fun p5 => (rdc σ p5.1 p5.2 2).bind fun l6 => uncons l6 fun c7 l8 => castStr c7 fun s9 => uncons l8 fun c10 l11 => castStr c10 fun s12 => isNil l11 <| (hcall G k n_laws_toCodeRef [.agg [.str s9, .str s12]] σ).bind fun q13 => castAgg q13.1 fun l14 => uncons l14 fun c15 l16 => castStr c15 fun s17 => uncons l16 fun c18 l19 => castStr c18 fun s20 => isNil l19 <| (vidx 2 a2 n3).bind fun p21 => (wrc q13.2 p21.1 p21.2 [.str s17, .str s20]).bind fun h22 => laws_toCodeRefS.L0 k m [.v a1, .v a2, .v (.int .i64 (IntKind.wrap .i64 (n3 + 1)))] h22) else (some (.exit 0, [.bot, .v a2], σ))) := by
  kernel_rfl
theorem laws_toCodeRefS.A0_x0 (k : Nat) (t1 : T) (a2 : V) (σ : Heap) : laws_toCodeRefS.A0 k (.exit 0, [t1, .v a2], σ) = (some (a2, σ)) := by
  kernel_rfl

/-! loop.example/smithy/laws.toIntS: function 163 -/
noncomputable def laws_toIntS.L0 (k : Nat) : Nat → List T → Heap → Option (Ex × List T × Heap) := hloop (hx (G.env n_laws_toIntS k) k 22 (subc (bodyOf Try.f163) [1, 1, 0, 1, 0, 0]) 0) 22 (G.msk n_laws_toIntS 0).1 (G.msk n_laws_toIntS 0).2
noncomputable def laws_toIntS.A0 (k : Nat) : Ex × List T × Heap → Option (V × Heap) := fun r => aft (G.env n_laws_toIntS k) k 22 (bodyOf Try.f163) [1, 1, 0, 1, 0] 0 (ck G.P Try.f163) r.1 (unpick 22 (G.msk n_laws_toIntS 0).2 r.2.1) r.2.2
theorem laws_toIntS.eq (k : Nat) (a1 : V) (σ : Heap) : hcall G (k + 1) n_laws_toIntS [a1] σ = ((vlen a1).bind fun k2 => if 0 ≤ (k2 : Int) ∧ (k2 : Int) * 8 ≤ 2 ^ 46 ∧ (k2 : Int) ≤ 2 ^ 46 then ((laws_toIntS.L0 k k [.v a1, .v (.sl σ.length 0 ((k2 : Int) : Int).toNat true), .v (.int .i64 0)] (hnew σ 1 (List.replicate ((k2 : Int) : Int).toNat [.int .i64 0]).flatten)).bind (laws_toIntS.A0 k)) else none) := by
  kernel_rfl
theorem laws_toIntS.L0_step (k m : Nat) (a1 : V) (a2 : V) (n3 : Int) (σ : Heap) : laws_toIntS.L0 k (m + 1) [.v a1, .v a2, .v (.int .i64 n3)] σ = ((vlen a1).bind fun k4 => bif decide (n3 < (k4 : Int)) then ((vidx 1 a1 n3).bind fun p5 => (rdc σ p5.1 p5.2 1).bind fun l6 => uncons l6 fun c7 l8 => castInt .i64 c7 fun n9 => isNil l8 <| (vidx 1 a2 n3).bind fun p10 => (wrc σ p10.1 p10.2 [.int .i64 n9]).bind fun h11 => laws_toIntS.L0 k m [.v a1, .v a2, .v (.int .i64 (IntKind.wrap .i64 (n3 + 1)))] h11) else (some (.exit 0, [.bot, .v a2], σ))) := by
  kernel_rfl
theorem laws_toIntS.A0_x0 (k : Nat) (t1 : T) (a2 : V) (σ : Heap) : laws_toIntS.A0 k (.exit 0, [t1, .v a2], σ) = (some (a2, σ)) := by
  kernel_rfl

/-! loop.example/smithy/laws.toCodeIns: function 175 -/
theorem laws_toCodeIns.eq (k : Nat) (n1 : Int) (n2 : Int) (σ : Heap) : hcall G (k + 1) n_laws_toCodeIns [.agg [.int .i64 n1, .int .i64 n2]] σ = (some (.agg [.int .i64 n1, .int .i64 n2], σ)) := by
  kernel_rfl

/-! loop.example/smithy/laws.toCodeInsS: function 164 -/
noncomputable def laws_toCodeInsS.L0 (k : Nat) : Nat → List T → Heap → Option (Ex × List T × Heap) := hloop (hx (G.env n_laws_toCodeInsS k) k 23 (subc (bodyOf Try.f164) [1, 1, 0, 1, 0, 0]) 0) 23 (G.msk n_laws_toCodeInsS 0).1 (G.msk n_laws_toCodeInsS 0).2
noncomputable def laws_toCodeInsS.A0 (k : Nat) : Ex × List T × Heap → Option (V × Heap) := fun r => aft (G.env n_laws_toCodeInsS k) k 23 (bodyOf Try.f164) [1, 1, 0, 1, 0] 0 (ck G.P Try.f164) r.1 (unpick 23 (G.msk n_laws_toCodeInsS 0).2 r.2.1) r.2.2
theorem laws_toCodeInsS.eq (k : Nat) (a1 : V) (σ : Heap) : hcall G (k + 1) n_laws_toCodeInsS [a1] σ = ((vlen a1).bind fun k2 => if 0 ≤ (k2 : Int) ∧ (k2 : Int) * 16 ≤ 2 ^ 46 ∧ (k2 : Int) ≤ 2 ^ 46 then ((laws_toCodeInsS.L0 k k [.v a1, .v (.sl σ.length 0 ((k2 : Int) : Int).toNat true), .v (.int .i64 0)] (hnew σ 2 (List.replicate ((k2 : Int) : Int).toNat [.int .i64 0, .int .i64 0]).flatten)).bind (laws_toCodeInsS.A0 k)) else none) := by
  kernel_rfl
theorem laws_toCodeInsS.L0_step (k m : Nat) (a1 : V) (a2 : V) (n3 : Int) (σ : Heap) : laws_toCodeInsS.L0 k (m + 1) [.v a1, .v a2, .v (.int .i64 n3)] σ = ((vlen a1).bind fun k4 => bif decide (n3 < (k4 : Int)) then ((vidx 2 a1 n3).bind fun p5 => (rdc σ p5.1 p5.2 2).bind fun l6 => uncons l6 fun c7 l8 => castInt .i64 c7 fun n9 => uncons l8 fun c10 l11 => castInt .i64 c10 fun n12 => isNil l11 <| (hcall G k n_laws_toCodeIns [.agg [.int .i64 n9, .int .i64 n12]] σ).bind fun q13 => castAgg q13.1 fun l14 => uncons l14 fun c15 l16 => castInt .i64 c15 fun n17 => uncons l16 fun c18 l19 => castInt .i64 c18 fun n20 => isNil l19 <| (vidx 2 a2 n3).bind fun p21 => (wrc q13.2 p21.1 p21.2 [.int .i64 n17, .int .i64 n20]).bind fun h22 => laws_toCodeInsS.L0 k m [.v a1, .v a2, .v (.int .i64 (IntKind.wrap .i64 (n3 + 1)))] h22) else (some (.exit 0, [.bot, .v a2], σ))) := by
  kernel_rfl
theorem laws_toCodeInsS.A0_x0 (k : Nat) (t1 : T) (a2 : V) (σ : Heap) : laws_toCodeInsS.A0 k (.exit 0, [t1, .v a2], σ) = (some (a2, σ)) := by
  kernel_rfl

/-! loop.example/smithy/laws.toCodeFun: function 129 -/
theorem laws_toCodeFun.eq (k : Nat) (s1 : ByteArray) (b2 : Bool) (a3 : V) (n4 : Int) (n5 : Int) (a6 : V) (σ : Heap) : hcall G (k + 1) n_laws_toCodeFun [.agg [.str s1, .bool b2, a3, .int .i64 n4, .int .i64 n5, a6]] σ = ((hcall G k n_laws_toIntS [a3] σ).bind fun q7 => one q7.1 <| (hcall G k n_laws_toCodeInsS [a6] q7.2).bind fun q8 => one q8.1 <| some (.agg [.str s1, .bool b2, q7.1, .int .i64 n4, .int .i64 n5, q8.1], q8.2)) := by
  kernel_rfl

/-! loop.example/smithy/laws.toCodeFunS: function 101 -/
noncomputable def laws_toCodeFunS.L0 (k : Nat) : Nat → List T → Heap → Option (Ex × List T × Heap) := hloop (hx (G.env n_laws_toCodeFunS k) k 23 (subc (bodyOf Try.f101) [1, 1, 0, 1, 0, 0]) 0) 23 (G.msk n_laws_toCodeFunS 0).1 (G.msk n_laws_toCodeFunS 0).2
noncomputable def laws_toCodeFunS.A0 (k : Nat) : Ex × List T × Heap → Option (V × Heap) := fun r => aft (G.env n_laws_toCodeFunS k) k 23 (bodyOf Try.f101) [1, 1, 0, 1, 0] 0 (ck G.P Try.f101) r.1 (unpick 23 (G.msk n_laws_toCodeFunS 0).2 r.2.1) r.2.2
theorem laws_toCodeFunS.eq (k : Nat) (a1 : V) (σ : Heap) : hcall G (k + 1) n_laws_toCodeFunS [a1] σ = ((vlen a1).bind fun k2 => if 0 ≤ (k2 : Int) ∧ (k2 : Int) * 88 ≤ 2 ^ 46 ∧ (k2 : Int) ≤ 2 ^ 46 then ((laws_toCodeFunS.L0 k k [.v a1, .v (.sl σ.length 0 ((k2 : Int) : Int).toNat true), .v (.int .i64 0)] (hnew σ 6 (List.replicate ((k2 : Int) : Int).toNat [.str (⟨#[]⟩ : ByteArray), .bool false, .nils, .int .i64 0, .int .i64 0, .nils]).flatten)).bind (laws_toCodeFunS.A0 k)) else none) := by
  kernel_rfl
theorem laws_toCodeFunS.L0_step (k m : Nat) (a1 : V) (a2 : V) (n3 : Int) (σ : Heap) : laws_toCodeFunS.L0 k (m + 1) [.v a1, .v a2, .v (.int .i64 n3)] σ = ((vlen a1).bind fun k4 => bif decide (n3 < (k4 : Int)) then ((vidx 6 a1 n3).bind fun p5 => (rdc σ p5.1 p5.2 6).bind fun l6 => uncons l6 fun c7 l8 => castStr c7 fun s9 => uncons l8 fun c10 l11 => castBool c10 fun b12 => uncons l11 fun c13 l14 => uncons l14 fun c15 l16 => castInt .i64 c15 fun n17 => uncons l16 fun c18 l19 => castInt .i64 c18 fun n20 => uncons l19 fun c21 l22 => isNil l22 <| (hcall G k n_laws_toCodeFun [.agg [.str s9, .bool b12, c13, .int .i64 n17, .int .i64 n20, c21]] σ).bind fun q23 => castAgg q23.1 fun l24 => uncons l24 fun c25 l26 => castStr c25 fun s27 => uncons l26 fun c28 l29 => castBool c28 fun b30 => uncons l29 fun c31 l32 => uncons l32 fun c33 l34 => castInt .i64 c33 fun n35 => uncons l34 fun c36 l37 => castInt .i64 c36 fun n38 => uncons l37 fun c39 l40 => isNil l40 <| (vidx 6 a2 n3).bind fun p41 => (wrc q23.2 p41.1 p41.2 [.str s27, .bool b30, c31, .int .i64 n35, .int .i64 n38, c39]).bind fun h42 => laws_toCodeFunS.L0 k m [.v a1, .v a2, .v (.int .i64 (IntKind.wrap .i64 (n3 + 1)))] h42) else (some (.exit 0, [.bot, .v a2], σ))) := by
  kernel_rfl
theorem laws_toCodeFunS.A0_x0 (k : Nat) (t1 : T) (a2 : V) (σ : Heap) : laws_toCodeFunS.A0 k (.exit 0, [t1, .v a2], σ) = (some (a2, σ)) := by
  kernel_rfl

/-! loop.example/smithy/laws.toCodeObj: function 71 -/
theorem laws_toCodeObj.eq (k : Nat) (a1 : V) (a2 : V) (σ : Heap) : hcall G (k + 1) n_laws_toCodeObj [.agg [a1, a2]] σ = ((hcall G k n_laws_toCodeRefS [a1] σ).bind fun q3 => one q3.1 <| (hcall G k n_laws_toCodeFunS [a2] q3.2).bind fun q4 => one q4.1 <| some (.agg [q3.1, q4.1], q4.2)) := by
  kernel_rfl

/-! loop.example/smithy/laws.toLinkPart: function 34 -/
theorem laws_toLinkPart.eq (k : Nat) (s1 : ByteArray) (a2 : V) (a3 : V) (σ : Heap) : hcall G (k + 1) n_laws_toLinkPart [.agg [.str s1, a2, a3]] σ = ((hcall G k n_laws_toCodeObj [.agg [a2, a3]] σ).bind fun q4 => castAgg q4.1 fun l5 => uncons l5 fun c6 l7 => uncons l7 fun c8 l9 => isNil l9 <| some (.agg [.str s1, c6, c8], q4.2)) := by
  kernel_rfl

/-! loop.example/smithy/laws.toLinkPartS: function 9 -/
noncomputable def laws_toLinkPartS.L0 (k : Nat) : Nat → List T → Heap → Option (Ex × List T × Heap) := hloop (hx (G.env n_laws_toLinkPartS k) k 23 (subc (bodyOf Try.f9) [1, 1, 0, 1, 0, 0]) 0) 23 (G.msk n_laws_toLinkPartS 0).1 (G.msk n_laws_toLinkPartS 0).2
noncomputable def laws_toLinkPartS.A0 (k : Nat) : Ex × List T × Heap → Option (V × Heap) := fun r => aft (G.env n_laws_toLinkPartS k) k 23 (bodyOf Try.f9) [1, 1, 0, 1, 0] 0 (ck G.P Try.f9) r.1 (unpick 23 (G.msk n_laws_toLinkPartS 0).2 r.2.1) r.2.2
theorem laws_toLinkPartS.eq (k : Nat) (a1 : V) (σ : Heap) : hcall G (k + 1) n_laws_toLinkPartS [a1] σ = ((vlen a1).bind fun k2 => if 0 ≤ (k2 : Int) ∧ (k2 : Int) * 64 ≤ 2 ^ 46 ∧ (k2 : Int) ≤ 2 ^ 46 then ((laws_toLinkPartS.L0 k k [.v a1, .v (.sl σ.length 0 ((k2 : Int) : Int).toNat true), .v (.int .i64 0)] (hnew σ 3 (List.replicate ((k2 : Int) : Int).toNat [.str (⟨#[]⟩ : ByteArray), .nils, .nils]).flatten)).bind (laws_toLinkPartS.A0 k)) else none) := by
  kernel_rfl
theorem laws_toLinkPartS.L0_step (k m : Nat) (a1 : V) (a2 : V) (n3 : Int) (σ : Heap) : laws_toLinkPartS.L0 k (m + 1) [.v a1, .v a2, .v (.int .i64 n3)] σ = ((vlen a1).bind fun k4 => bif decide (n3 < (k4 : Int)) then ((vidx 3 a1 n3).bind fun p5 => (rdc σ p5.1 p5.2 3).bind fun l6 => uncons l6 fun c7 l8 => castStr c7 fun s9 => uncons l8 fun c10 l11 => uncons l11 fun c12 l13 => isNil l13 <| (hcall G k n_laws_toLinkPart [.agg [.str s9, c10, c12]] σ).bind fun q14 => castAgg q14.1 fun l15 => uncons l15 fun c16 l17 => castStr c16 fun s18 => uncons l17 fun c19 l20 => uncons l20 fun c21 l22 => isNil l22 <| (vidx 3 a2 n3).bind fun p23 => (wrc q14.2 p23.1 p23.2 [.str s18, c19, c21]).bind fun h24 => laws_toLinkPartS.L0 k m [.v a1, .v a2, .v (.int .i64 (IntKind.wrap .i64 (n3 + 1)))] h24) else (some (.exit 0, [.bot, .v a2], σ))) := by
  kernel_rfl
theorem laws_toLinkPartS.A0_x0 (k : Nat) (t1 : T) (a2 : V) (σ : Heap) : laws_toLinkPartS.A0 k (.exit 0, [t1, .v a2], σ) = (some (a2, σ)) := by
  kernel_rfl

/-! loop.example/smithy/laws.eqCodeRef: function 143 -/
theorem laws_eqCodeRef.eq (k : Nat) (s1 : ByteArray) (s2 : ByteArray) (s3 : ByteArray) (s4 : ByteArray) (σ : Heap) : hcall G (k + 1) n_laws_eqCodeRef [.agg [.str s1, .str s2], .agg [.str s3, .str s4]] σ = (bif !decide (s1 = s3) then (some (.bool false, σ)) else (bif !decide (s2 = s4) then (some (.bool false, σ)) else (some (.bool true, σ)))) := by
  kernel_rfl

/-! loop.example/smithy/laws.eqCodeRefS: function 110 -/
noncomputable def laws_eqCodeRefS.L0 (k : Nat) : Nat → List T → Heap → Option (Ex × List T × Heap) := hloop (hx (G.env n_laws_eqCodeRefS k) k 27 (subc (bodyOf Try.f110) [1, 1, 0, 1, 0, 0]) 0) 27 (G.msk n_laws_eqCodeRefS 0).1 (G.msk n_laws_eqCodeRefS 0).2
noncomputable def laws_eqCodeRefS.A0 (k : Nat) : Ex × List T × Heap → Option (V × Heap) := fun r => aft (G.env n_laws_eqCodeRefS k) k 27 (bodyOf Try.f110) [1, 1, 0, 1, 0] 0 (ck G.P Try.f110) r.1 (unpick 27 (G.msk n_laws_eqCodeRefS 0).2 r.2.1) r.2.2
theorem laws_eqCodeRefS.eq (k : Nat) (a1 : V) (a2 : V) (σ : Heap) : hcall G (k + 1) n_laws_eqCodeRefS [a1, a2] σ = ((vlen a1).bind fun k3 => (vlen a2).bind fun k4 => bif !decide ((k3 : Int) = (k4 : Int)) then (some (.bool false, σ)) else ((laws_eqCodeRefS.L0 k k [.v a1, .v a2, .v (.int .i64 0)] σ).bind (laws_eqCodeRefS.A0 k))) := by
  kernel_rfl
theorem laws_eqCodeRefS.L0_step (k m : Nat) (a1 : V) (a2 : V) (n3 : Int) (σ : Heap) : laws_eqCodeRefS.L0 k (m + 1) [.v a1, .v a2, .v (.int .i64 n3)] σ = ((vlen a1).bind fun k4 => bif decide (n3 < (k4 : Int)) then ((vidx 2 a1 n3).bind fun p5 => (rdc σ p5.1 p5.2 2).bind fun l6 => uncons l6 fun c7 l8 => castStr c7 fun s9 => uncons l8 fun c10 l11 => castStr c10 fun s12 => isNil l11 <| (vidx 2 a2 n3).bind fun p13 => (rdc σ p13.1 p13.2 2).bind fun l14 => uncons l14 fun c15 l16 => castStr c15 fun s17 => uncons l16 fun c18 l19 => castStr c18 fun s20 => isNil l19 <| (hcall G k n_laws_eqCodeRef [.agg [.str s9, .str s12], .agg [.str s17, .str s20]] σ).bind fun q21 => castBool q21.1 fun b22 => bif !b22 then (some (.ret, [.v (.bool false)], q21.2)) else (laws_eqCodeRefS.L0 k m [.v a1, .v a2, .v (.int .i64 (IntKind.wrap .i64 (n3 + 1)))] q21.2)) else (some (.exit 0, [.bot], σ))) := by
  kernel_rfl
theorem laws_eqCodeRefS.A0_x0 (k : Nat) (t1 : T) (σ : Heap) : laws_eqCodeRefS.A0 k (.exit 0, [t1], σ) = (some (.bool true, σ)) := by
  kernel_rfl
theorem laws_eqCodeRefS.A0_ret (k : Nat) (b1 : Bool) (σ : Heap) : laws_eqCodeRefS.A0 k (.ret, [.v (.bool b1)], σ) = (some (.bool b1, σ)) := by
  kernel_rfl

/-! loop.example/smithy/laws.eqIntS: function 39 -/
noncomputable def laws_eqIntS.L0 (k : Nat) : Nat → List T → Heap → Option (Ex × List T × Heap) := hloop (hx (G.env n_laws_eqIntS k) k 26 (subc (bodyOf Try.f39) [1, 1, 0, 1, 0, 0]) 0) 26 (G.msk n_laws_eqIntS 0).1 (G.msk n_laws_eqIntS 0).2
noncomputable def laws_eqIntS.A0 (k : Nat) : Ex × List T × Heap → Option (V × Heap) := fun r => aft (G.env n_laws_eqIntS k) k 26 (bodyOf Try.f39) [1, 1, 0, 1, 0] 0 (ck G.P Try.f39) r.1 (unpick 26 (G.msk n_laws_eqIntS 0).2 r.2.1) r.2.2
theorem laws_eqIntS.eq (k : Nat) (a1 : V) (a2 : V) (σ : Heap) : hcall G (k + 1) n_laws_eqIntS [a1, a2] σ = ((vlen a1).bind fun k3 => (vlen a2).bind fun k4 => bif !decide ((k3 : Int) = (k4 : Int)) then (some (.bool false, σ)) else ((laws_eqIntS.L0 k k [.v a1, .v a2, .v (.int .i64 0)] σ).bind (laws_eqIntS.A0 k))) := by
  kernel_rfl
theorem laws_eqIntS.L0_step (k m : Nat) (a1 : V) (a2 : V) (n3 : Int) (σ : Heap) : laws_eqIntS.L0 k (m + 1) [.v a1, .v a2, .v (.int .i64 n3)] σ = ((vlen a1).bind fun k4 => bif decide (n3 < (k4 : Int)) then ((vidx 1 a1 n3).bind fun p5 => (rdc σ p5.1 p5.2 1).bind fun l6 => uncons l6 fun c7 l8 => castInt .i64 c7 fun n9 => isNil l8 <| (vidx 1 a2 n3).bind fun p10 => (rdc σ p10.1 p10.2 1).bind fun l11 => uncons l11 fun c12 l13 => castInt .i64 c12 fun n14 => isNil l13 <| bif !decide (n9 = n14) then (some (.ret, [.v (.bool false)], σ)) else (laws_eqIntS.L0 k m [.v a1, .v a2, .v (.int .i64 (IntKind.wrap .i64 (n3 + 1)))] σ)) else (some (.exit 0, [.bot], σ))) := by
  kernel_rfl
theorem laws_eqIntS.A0_x0 (k : Nat) (t1 : T) (σ : Heap) : laws_eqIntS.A0 k (.exit 0, [t1], σ) = (some (.bool true, σ)) := by
  kernel_rfl
theorem laws_eqIntS.A0_ret (k : Nat) (b1 : Bool) (σ : Heap) : laws_eqIntS.A0 k (.ret, [.v (.bool b1)], σ) = (some (.bool b1, σ)) := by
  kernel_rfl

/-! loop.example/smithy/laws.eqCodeIns: function 142 -/
theorem laws_eqCodeIns.eq (k : Nat) (n1 : Int) (n2 : Int) (n3 : Int) (n4 : Int) (σ : Heap) : hcall G (k + 1) n_laws_eqCodeIns [.agg [.int .i64 n1, .int .i64 n2], .agg [.int .i64 n3, .int .i64 n4]] σ = (bif !decide (n1 = n3) then (some (.bool false, σ)) else (bif !decide (n2 = n4) then (some (.bool false, σ)) else (some (.bool true, σ)))) := by
  kernel_rfl

/-! loop.example/smithy/laws.eqCodeInsS: function 109 -/
noncomputable def laws_eqCodeInsS.L0 (k : Nat) : Nat → List T → Heap → Option (Ex × List T × Heap) := hloop (hx (G.env n_laws_eqCodeInsS k) k 27 (subc (bodyOf Try.f109) [1, 1, 0, 1, 0, 0]) 0) 27 (G.msk n_laws_eqCodeInsS 0).1 (G.msk n_laws_eqCodeInsS 0).2
noncomputable def laws_eqCodeInsS.A0 (k : Nat) : Ex × List T × Heap → Option (V × Heap) := fun r => aft (G.env n_laws_eqCodeInsS k) k 27 (bodyOf Try.f109) [1, 1, 0, 1, 0] 0 (ck G.P Try.f109) r.1 (unpick 27 (G.msk n_laws_eqCodeInsS 0).2 r.2.1) r.2.2
theorem laws_eqCodeInsS.eq (k : Nat) (a1 : V) (a2 : V) (σ : Heap) : hcall G (k + 1) n_laws_eqCodeInsS [a1, a2] σ = ((vlen a1).bind fun k3 => (vlen a2).bind fun k4 => bif !decide ((k3 : Int) = (k4 : Int)) then (some (.bool false, σ)) else ((laws_eqCodeInsS.L0 k k [.v a1, .v a2, .v (.int .i64 0)] σ).bind (laws_eqCodeInsS.A0 k))) := by
  kernel_rfl
theorem laws_eqCodeInsS.L0_step (k m : Nat) (a1 : V) (a2 : V) (n3 : Int) (σ : Heap) : laws_eqCodeInsS.L0 k (m + 1) [.v a1, .v a2, .v (.int .i64 n3)] σ = ((vlen a1).bind fun k4 => bif decide (n3 < (k4 : Int)) then ((vidx 2 a1 n3).bind fun p5 => (rdc σ p5.1 p5.2 2).bind fun l6 => uncons l6 fun c7 l8 => castInt .i64 c7 fun n9 => uncons l8 fun c10 l11 => castInt .i64 c10 fun n12 => isNil l11 <| (vidx 2 a2 n3).bind fun p13 => (rdc σ p13.1 p13.2 2).bind fun l14 => uncons l14 fun c15 l16 => castInt .i64 c15 fun n17 => uncons l16 fun c18 l19 => castInt .i64 c18 fun n20 => isNil l19 <| (hcall G k n_laws_eqCodeIns [.agg [.int .i64 n9, .int .i64 n12], .agg [.int .i64 n17, .int .i64 n20]] σ).bind fun q21 => castBool q21.1 fun b22 => bif !b22 then (some (.ret, [.v (.bool false)], q21.2)) else (laws_eqCodeInsS.L0 k m [.v a1, .v a2, .v (.int .i64 (IntKind.wrap .i64 (n3 + 1)))] q21.2)) else (some (.exit 0, [.bot], σ))) := by
  kernel_rfl
theorem laws_eqCodeInsS.A0_x0 (k : Nat) (t1 : T) (σ : Heap) : laws_eqCodeInsS.A0 k (.exit 0, [t1], σ) = (some (.bool true, σ)) := by
  kernel_rfl
theorem laws_eqCodeInsS.A0_ret (k : Nat) (b1 : Bool) (σ : Heap) : laws_eqCodeInsS.A0 k (.ret, [.v (.bool b1)], σ) = (some (.bool b1, σ)) := by
  kernel_rfl

/-! loop.example/smithy/laws.eqCodeFun: function 144 -/
theorem laws_eqCodeFun.eq (k : Nat) (s1 : ByteArray) (b2 : Bool) (a3 : V) (n4 : Int) (n5 : Int) (a6 : V) (s7 : ByteArray) (b8 : Bool) (a9 : V) (n10 : Int) (n11 : Int) (a12 : V) (σ : Heap) : hcall G (k + 1) n_laws_eqCodeFun [.agg [.str s1, .bool b2, a3, .int .i64 n4, .int .i64 n5, a6], .agg [.str s7, .bool b8, a9, .int .i64 n10, .int .i64 n11, a12]] σ = (bif !decide (s1 = s7) then (some (.bool false, σ)) else (bif !(b2 == b8) then (some (.bool false, σ)) else ((hcall G k n_laws_eqIntS [a3, a9] σ).bind fun q13 => castBool q13.1 fun b14 => bif !b14 then (some (.bool false, q13.2)) else (bif !decide (n4 = n10) then (some (.bool false, q13.2)) else (bif !decide (n5 = n11) then (some (.bool false, q13.2)) else ((hcall G k n_laws_eqCodeInsS [a6, a12] q13.2).bind fun q15 => castBool q15.1 fun b16 => bif !b16 then (some (.bool false, q15.2)) else (some (.bool true, q15.2)))))))) := by
  kernel_rfl

/-! loop.example/smithy/laws.eqCodeFunS: function 111 -/
noncomputable def laws_eqCodeFunS.L0 (k : Nat) : Nat → List T → Heap → Option (Ex × List T × Heap) := hloop (hx (G.env n_laws_eqCodeFunS k) k 27 (subc (bodyOf Try.f111) [1, 1, 0, 1, 0, 0]) 0) 27 (G.msk n_laws_eqCodeFunS 0).1 (G.msk n_laws_eqCodeFunS 0).2
noncomputable def laws_eqCodeFunS.A0 (k : Nat) : Ex × List T × Heap → Option (V × Heap) := fun r => aft (G.env n_laws_eqCodeFunS k) k 27 (bodyOf Try.f111) [1, 1, 0, 1, 0] 0 (ck G.P Try.f111) r.1 (unpick 27 (G.msk n_laws_eqCodeFunS 0).2 r.2.1) r.2.2
theorem laws_eqCodeFunS.eq (k : Nat) (a1 : V) (a2 : V) (σ : Heap) : hcall G (k + 1) n_laws_eqCodeFunS [a1, a2] σ = ((vlen a1).bind fun k3 => (vlen a2).bind fun k4 => bif !decide ((k3 : Int) = (k4 : Int)) then (some (.bool false, σ)) else ((laws_eqCodeFunS.L0 k k [.v a1, .v a2, .v (.int .i64 0)] σ).bind (laws_eqCodeFunS.A0 k))) := by
  kernel_rfl
theorem laws_eqCodeFunS.L0_step (k m : Nat) (a1 : V) (a2 : V) (n3 : Int) (σ : Heap) : laws_eqCodeFunS.L0 k (m + 1) [.v a1, .v a2, .v (.int .i64 n3)] σ = ((vlen a1).bind fun k4 => bif decide (n3 < (k4 : Int)) then ((vidx 6 a1 n3).bind fun p5 => (rdc σ p5.1 p5.2 6).bind fun l6 => uncons l6 fun c7 l8 => castStr c7 fun s9 => uncons l8 fun c10 l11 => castBool c10 fun b12 => uncons l11 fun c13 l14 => uncons l14 fun c15 l16 => castInt .i64 c15 fun n17 => uncons l16 fun c18 l19 => castInt .i64 c18 fun n20 => uncons l19 fun c21 l22 => isNil l22 <| (vidx 6 a2 n3).bind fun p23 => (rdc σ p23.1 p23.2 6).bind fun l24 => uncons l24 fun c25 l26 => castStr c25 fun s27 => uncons l26 fun c28 l29 => castBool c28 fun b30 => uncons l29 fun c31 l32 => uncons l32 fun c33 l34 => castInt .i64 c33 fun n35 => uncons l34 fun c36 l37 => castInt .i64 c36 fun n38 => uncons l37 fun c39 l40 => isNil l40 <| (hcall G k n_laws_eqCodeFun [.agg [.str s9, .bool b12, c13, .int .i64 n17, .int .i64 n20, c21], .agg [.str s27, .bool b30, c31, .int .i64 n35, .int .i64 n38, c39]] σ).bind fun q41 => castBool q41.1 fun b42 => bif !b42 then (some (.ret, [.v (.bool false)], q41.2)) else (laws_eqCodeFunS.L0 k m [.v a1, .v a2, .v (.int .i64 (IntKind.wrap .i64 (n3 + 1)))] q41.2)) else (some (.exit 0, [.bot], σ))) := by
  kernel_rfl
theorem laws_eqCodeFunS.A0_x0 (k : Nat) (t1 : T) (σ : Heap) : laws_eqCodeFunS.A0 k (.exit 0, [t1], σ) = (some (.bool true, σ)) := by
  kernel_rfl
theorem laws_eqCodeFunS.A0_ret (k : Nat) (b1 : Bool) (σ : Heap) : laws_eqCodeFunS.A0 k (.ret, [.v (.bool b1)], σ) = (some (.bool b1, σ)) := by
  kernel_rfl

/-! loop.example/smithy/laws.eqCodeObj: function 77 -/
theorem laws_eqCodeObj.eq (k : Nat) (a1 : V) (a2 : V) (a3 : V) (a4 : V) (σ : Heap) : hcall G (k + 1) n_laws_eqCodeObj [.agg [a1, a2], .agg [a3, a4]] σ = ((hcall G k n_laws_eqCodeRefS [a1, a3] σ).bind fun q5 => castBool q5.1 fun b6 => bif !b6 then (some (.bool false, q5.2)) else ((hcall G k n_laws_eqCodeFunS [a2, a4] q5.2).bind fun q7 => castBool q7.1 fun b8 => bif !b8 then (some (.bool false, q7.2)) else (some (.bool true, q7.2)))) := by
  kernel_rfl

/-! loop.example/smithy/laws.eqLinkPart: function 40 -/
theorem laws_eqLinkPart.eq (k : Nat) (s1 : ByteArray) (a2 : V) (a3 : V) (s4 : ByteArray) (a5 : V) (a6 : V) (σ : Heap) : hcall G (k + 1) n_laws_eqLinkPart [.agg [.str s1, a2, a3], .agg [.str s4, a5, a6]] σ = (bif !decide (s1 = s4) then (some (.bool false, σ)) else ((hcall G k n_laws_eqCodeObj [.agg [a2, a3], .agg [a5, a6]] σ).bind fun q7 => castBool q7.1 fun b8 => bif !b8 then (some (.bool false, q7.2)) else (some (.bool true, q7.2)))) := by
  kernel_rfl
end Go.B
