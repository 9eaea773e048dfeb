/- The functions' equations. -/
import Derived.Test.YthcinellhbmcoaaEG
namespace Go.X
open Go.HM Go.Proofs
set_option linter.unusedVariables false
set_option maxRecDepth 1000000
set_option maxHeartbeats 4000000

/-! slices.IndexFunc[[]loop.example/smithy/impl.TreeFun,loop.example/smithy/impl.TreeFun]: function 79 -/
noncomputable def slices_IndexFunc_impl_TreeFun_impl_TreeFun.L0 (k : Nat) : Nat → List T → Heap → Option (Ex × List T × Heap) := hloop (hx (G.env n_slices_IndexFunc_impl_TreeFun_impl_TreeFun k) k 19 (subc (bodyOf Try.f79) [1, 0, 1, 0, 0]) 0) 19 (G.msk n_slices_IndexFunc_impl_TreeFun_impl_TreeFun 0).1 (G.msk n_slices_IndexFunc_impl_TreeFun_impl_TreeFun 0).2
noncomputable def slices_IndexFunc_impl_TreeFun_impl_TreeFun.A0 (k : Nat) : Ex × List T × Heap → Option (V × Heap) := fun r => aft (G.env n_slices_IndexFunc_impl_TreeFun_impl_TreeFun k) k 19 (bodyOf Try.f79) [1, 0, 1, 0] 0 (ck G.P Try.f79) r.1 (unpick 19 (G.msk n_slices_IndexFunc_impl_TreeFun_impl_TreeFun 0).2 r.2.1) r.2.2
theorem slices_IndexFunc_impl_TreeFun_impl_TreeFun.eq (k : Nat) (a1 : V) (a2 : V) (σ : Heap) : hcall G (k + 1) n_slices_IndexFunc_impl_TreeFun_impl_TreeFun [a1, a2] σ = ((vlen a1).bind fun k3 => (slices_IndexFunc_impl_TreeFun_impl_TreeFun.L0 k k [.v a1, .v a2, .v (.int .i64 (k3 : Int)), .v (.int .i64 0)] σ).bind (slices_IndexFunc_impl_TreeFun_impl_TreeFun.A0 k)) := by
  kernel_rfl
theorem slices_IndexFunc_impl_TreeFun_impl_TreeFun.L0_step (k m : Nat) (a1 : V) (a2 : V) (n3 : Int) (n4 : Int) (σ : Heap) : slices_IndexFunc_impl_TreeFun_impl_TreeFun.L0 k (m + 1) [.v a1, .v a2, .v (.int .i64 n3), .v (.int .i64 n4)] σ = (bif decide (n4 < n3) then ((vidx 9 a1 n4).bind fun p5 => (rdc σ p5.1 p5.2 9).bind fun l6 => uncons l6 fun c7 l8 => castStr c7 fun s9 => uncons l8 fun c10 l11 => castBool c10 fun b12 => uncons l11 fun c13 l14 => uncons l14 fun c15 l16 => castInt .i64 c15 fun n17 => uncons l16 fun c18 l19 => castInt .i64 c18 fun n20 => uncons l19 fun c21 l22 => castInt .i64 c21 fun n23 => uncons l22 fun c24 l25 => castStr c24 fun s26 => uncons l25 fun c27 l28 => castStr c27 fun s29 => uncons l28 fun c30 l31 => isNil l31 <| castFn a2 fun f33 l34 => (hcall G k f33 ([.agg [.str s9, .bool b12, c13, .int .i64 n17, .int .i64 n20, .int .i64 n23, .str s26, .str s29, c30]] ++ l34) σ).bind fun q32 => castBool q32.1 fun b35 => bif b35 then (some (.ret, [.v (.int .i64 n4)], q32.2)) else (slices_IndexFunc_impl_TreeFun_impl_TreeFun.L0 k m [.v a1, .v a2, .v (.int .i64 n3), .v (.int .i64 (IntKind.wrap .i64 (n4 + 1)))] q32.2)) else (some (.exit 0, [.bot], σ))) := by
  kernel_rfl
theorem slices_IndexFunc_impl_TreeFun_impl_TreeFun.A0_x0 (k : Nat) (t1 : T) (σ : Heap) : slices_IndexFunc_impl_TreeFun_impl_TreeFun.A0 k (.exit 0, [t1], σ) = (some (.int .i64 (-1), σ)) := by
  kernel_rfl
theorem slices_IndexFunc_impl_TreeFun_impl_TreeFun.A0_ret (k : Nat) (n1 : Int) (σ : Heap) : slices_IndexFunc_impl_TreeFun_impl_TreeFun.A0 k (.ret, [.v (.int .i64 n1)], σ) = (some (.int .i64 n1, σ)) := by
  kernel_rfl

/-! loop.example/smithy/impl.TypeFind$1: function 80 -/
theorem impl_TypeFind_1.eq (k : Nat) (s1 : ByteArray) (b2 : Bool) (a3 : V) (n4 : Int) (n5 : Int) (n6 : Int) (s7 : ByteArray) (s8 : ByteArray) (a9 : V) (a10 : V) (σ : Heap) : hcall G (k + 1) n_impl_TypeFind_1 [.agg [.str s1, .bool b2, a3, .int .i64 n4, .int .i64 n5, .int .i64 n6, .str s7, .str s8, a9], a10] σ = (castPtr a10 fun r11 o12 => (rdc σ r11 o12 1).bind fun l13 => uncons l13 fun c14 l15 => castStr c14 fun s16 => isNil l15 <| some (.bool (decide (s1 = s16)), σ)) := by
  kernel_rfl

/-! loop.example/smithy/impl.argTypes: function 125 -/
noncomputable def impl_argTypes.L0 (k : Nat) : Nat → List T → Heap → Option (Ex × List T × Heap) := hloop (hx (G.env n_impl_argTypes k) k 20 (subc (bodyOf Try.f125) [1, 1, 0, 1, 0, 0]) 0) 20 (G.msk n_impl_argTypes 0).1 (G.msk n_impl_argTypes 0).2
noncomputable def impl_argTypes.A0 (k : Nat) : Ex × List T × Heap → Option (V × Heap) := fun r => aft (G.env n_impl_argTypes k) k 20 (bodyOf Try.f125) [1, 1, 0, 1, 0] 0 (ck G.P Try.f125) r.1 (unpick 20 (G.msk n_impl_argTypes 0).2 r.2.1) r.2.2
theorem impl_argTypes.eq (k : Nat) (a1 : V) (σ : Heap) : hcall G (k + 1) n_impl_argTypes [a1] σ = ((vlen a1).bind fun k2 => (impl_argTypes.L0 k k [.v (.sl σ.length 0 0 true), .v a1, .v (.int .i64 (k2 : Int)), .v (.int .i64 0)] (hnew σ 1 [])).bind (impl_argTypes.A0 k)) := by
  kernel_rfl
theorem impl_argTypes.L0_step (k m : Nat) (a1 : V) (a2 : V) (n3 : Int) (n4 : Int) (σ : Heap) : impl_argTypes.L0 k (m + 1) [.v a1, .v a2, .v (.int .i64 n3), .v (.int .i64 n4)] σ = (bif decide (n4 < n3) then ((vidx 2 a2 n4).bind fun p5 => (rdc σ p5.1 p5.2 2).bind fun l6 => uncons l6 fun c7 l8 => castStr c7 fun s9 => uncons l8 fun c10 l11 => castInt .i64 c10 fun n12 => isNil l11 <| (vappend 1 8 σ a1 1 [.int .i64 n12]).bind fun q13 => impl_argTypes.L0 k m [.v q13.1, .v a2, .v (.int .i64 n3), .v (.int .i64 (IntKind.wrap .i64 (n4 + 1)))] q13.2) else (some (.exit 0, [.bot, .v a1], σ))) := by
  kernel_rfl
theorem impl_argTypes.A0_x0 (k : Nat) (t1 : T) (a2 : V) (σ : Heap) : impl_argTypes.A0 k (.exit 0, [t1, .v a2], σ) = (some (a2, σ)) := by
  kernel_rfl

/-! (loop.example/smithy/impl.TreeFun).sig: function 81 -/
theorem impl_TreeFun_sig.eq (k : Nat) (s1 : ByteArray) (b2 : Bool) (a3 : V) (n4 : Int) (n5 : Int) (n6 : Int) (s7 : ByteArray) (s8 : ByteArray) (a9 : V) (σ : Heap) : hcall G (k + 1) n_impl_TreeFun_sig [.agg [.str s1, .bool b2, a3, .int .i64 n4, .int .i64 n5, .int .i64 n6, .str s7, .str s8, a9]] σ = ((hcall G k n_impl_argTypes [a3] σ).bind fun q10 => one q10.1 <| some (.agg [.str s1, q10.1, .int .i64 n4], q10.2)) := by
  kernel_rfl

/-! slices.IndexFunc[[]loop.example/smithy/impl.TypeFace,loop.example/smithy/impl.TypeFace]: function 82 -/
noncomputable def slices_IndexFunc_impl_TypeFace_impl_TypeFace.L0 (k : Nat) : Nat → List T → Heap → Option (Ex × List T × Heap) := hloop (hx (G.env n_slices_IndexFunc_impl_TypeFace_impl_TypeFace k) k 19 (subc (bodyOf Try.f82) [1, 0, 1, 0, 0]) 0) 19 (G.msk n_slices_IndexFunc_impl_TypeFace_impl_TypeFace 0).1 (G.msk n_slices_IndexFunc_impl_TypeFace_impl_TypeFace 0).2
noncomputable def slices_IndexFunc_impl_TypeFace_impl_TypeFace.A0 (k : Nat) : Ex × List T × Heap → Option (V × Heap) := fun r => aft (G.env n_slices_IndexFunc_impl_TypeFace_impl_TypeFace k) k 19 (bodyOf Try.f82) [1, 0, 1, 0] 0 (ck G.P Try.f82) r.1 (unpick 19 (G.msk n_slices_IndexFunc_impl_TypeFace_impl_TypeFace 0).2 r.2.1) r.2.2
theorem slices_IndexFunc_impl_TypeFace_impl_TypeFace.eq (k : Nat) (a1 : V) (a2 : V) (σ : Heap) : hcall G (k + 1) n_slices_IndexFunc_impl_TypeFace_impl_TypeFace [a1, a2] σ = ((vlen a1).bind fun k3 => (slices_IndexFunc_impl_TypeFace_impl_TypeFace.L0 k k [.v a1, .v a2, .v (.int .i64 (k3 : Int)), .v (.int .i64 0)] σ).bind (slices_IndexFunc_impl_TypeFace_impl_TypeFace.A0 k)) := by
  kernel_rfl
theorem slices_IndexFunc_impl_TypeFace_impl_TypeFace.L0_step (k m : Nat) (a1 : V) (a2 : V) (n3 : Int) (n4 : Int) (σ : Heap) : slices_IndexFunc_impl_TypeFace_impl_TypeFace.L0 k (m + 1) [.v a1, .v a2, .v (.int .i64 n3), .v (.int .i64 n4)] σ = (bif decide (n4 < n3) then ((vidx 2 a1 n4).bind fun p5 => (rdc σ p5.1 p5.2 2).bind fun l6 => uncons l6 fun c7 l8 => castStr c7 fun s9 => uncons l8 fun c10 l11 => isNil l11 <| castFn a2 fun f13 l14 => (hcall G k f13 ([.agg [.str s9, c10]] ++ l14) σ).bind fun q12 => castBool q12.1 fun b15 => bif b15 then (some (.ret, [.v (.int .i64 n4)], q12.2)) else (slices_IndexFunc_impl_TypeFace_impl_TypeFace.L0 k m [.v a1, .v a2, .v (.int .i64 n3), .v (.int .i64 (IntKind.wrap .i64 (n4 + 1)))] q12.2)) else (some (.exit 0, [.bot], σ))) := by
  kernel_rfl
theorem slices_IndexFunc_impl_TypeFace_impl_TypeFace.A0_x0 (k : Nat) (t1 : T) (σ : Heap) : slices_IndexFunc_impl_TypeFace_impl_TypeFace.A0 k (.exit 0, [t1], σ) = (some (.int .i64 (-1), σ)) := by
  kernel_rfl
theorem slices_IndexFunc_impl_TypeFace_impl_TypeFace.A0_ret (k : Nat) (n1 : Int) (σ : Heap) : slices_IndexFunc_impl_TypeFace_impl_TypeFace.A0 k (.ret, [.v (.int .i64 n1)], σ) = (some (.int .i64 n1, σ)) := by
  kernel_rfl

/-! loop.example/smithy/impl.TypeFind$2: function 83 -/
theorem impl_TypeFind_2.eq (k : Nat) (s1 : ByteArray) (a2 : V) (a3 : V) (σ : Heap) : hcall G (k + 1) n_impl_TypeFind_2 [.agg [.str s1, a2], a3] σ = (castPtr a3 fun r4 o5 => (rdc σ r4 o5 1).bind fun l6 => uncons l6 fun c7 l8 => castStr c7 fun s9 => isNil l8 <| some (.bool (decide (s1 = s9)), σ)) := by
  kernel_rfl

/-! slices.Index[[]string,string]: function 126 -/
noncomputable def slices_Index_string_string.L0 (k : Nat) : Nat → List T → Heap → Option (Ex × List T × Heap) := hloop (hx (G.env n_slices_Index_string_string k) k 19 (subc (bodyOf Try.f126) [1, 0, 1, 0, 0]) 0) 19 (G.msk n_slices_Index_string_string 0).1 (G.msk n_slices_Index_string_string 0).2
noncomputable def slices_Index_string_string.A0 (k : Nat) : Ex × List T × Heap → Option (V × Heap) := fun r => aft (G.env n_slices_Index_string_string k) k 19 (bodyOf Try.f126) [1, 0, 1, 0] 0 (ck G.P Try.f126) r.1 (unpick 19 (G.msk n_slices_Index_string_string 0).2 r.2.1) r.2.2
theorem slices_Index_string_string.eq (k : Nat) (a1 : V) (s2 : ByteArray) (σ : Heap) : hcall G (k + 1) n_slices_Index_string_string [a1, .str s2] σ = ((vlen a1).bind fun k3 => (slices_Index_string_string.L0 k k [.v a1, .v (.str s2), .v (.int .i64 (k3 : Int)), .v (.int .i64 0)] σ).bind (slices_Index_string_string.A0 k)) := by
  kernel_rfl
theorem slices_Index_string_string.L0_step (k m : Nat) (a1 : V) (s2 : ByteArray) (n3 : Int) (n4 : Int) (σ : Heap) : slices_Index_string_string.L0 k (m + 1) [.v a1, .v (.str s2), .v (.int .i64 n3), .v (.int .i64 n4)] σ = (bif decide (n4 < n3) then ((vidx 1 a1 n4).bind fun p5 => (rdc σ p5.1 p5.2 1).bind fun l6 => uncons l6 fun c7 l8 => castStr c7 fun s9 => isNil l8 <| bif decide (s2 = s9) then (some (.ret, [.v (.int .i64 n4)], σ)) else (slices_Index_string_string.L0 k m [.v a1, .v (.str s2), .v (.int .i64 n3), .v (.int .i64 (IntKind.wrap .i64 (n4 + 1)))] σ)) else (some (.exit 0, [.bot], σ))) := by
  kernel_rfl
theorem slices_Index_string_string.A0_x0 (k : Nat) (t1 : T) (σ : Heap) : slices_Index_string_string.A0 k (.exit 0, [t1], σ) = (some (.int .i64 (-1), σ)) := by
  kernel_rfl
theorem slices_Index_string_string.A0_ret (k : Nat) (n1 : Int) (σ : Heap) : slices_Index_string_string.A0 k (.ret, [.v (.int .i64 n1)], σ) = (some (.int .i64 n1, σ)) := by
  kernel_rfl

/-! slices.Contains[[]string,string]: function 84 -/
theorem slices_Contains_string_string.eq (k : Nat) (a1 : V) (s2 : ByteArray) (σ : Heap) : hcall G (k + 1) n_slices_Contains_string_string [a1, .str s2] σ = ((hcall G k n_slices_Index_string_string [a1, .str s2] σ).bind fun q3 => castInt .i64 q3.1 fun n4 => some (.bool (decide (0 ≤ n4)), q3.2)) := by
  kernel_rfl

/-! slices.IndexFunc[[]loop.example/smithy/impl.FaceSig,loop.example/smithy/impl.FaceSig]: function 85 -/
noncomputable def slices_IndexFunc_impl_FaceSig_impl_FaceSig.L0 (k : Nat) : Nat → List T → Heap → Option (Ex × List T × Heap) := hloop (hx (G.env n_slices_IndexFunc_impl_FaceSig_impl_FaceSig k) k 19 (subc (bodyOf Try.f85) [1, 0, 1, 0, 0]) 0) 19 (G.msk n_slices_IndexFunc_impl_FaceSig_impl_FaceSig 0).1 (G.msk n_slices_IndexFunc_impl_FaceSig_impl_FaceSig 0).2
noncomputable def slices_IndexFunc_impl_FaceSig_impl_FaceSig.A0 (k : Nat) : Ex × List T × Heap → Option (V × Heap) := fun r => aft (G.env n_slices_IndexFunc_impl_FaceSig_impl_FaceSig k) k 19 (bodyOf Try.f85) [1, 0, 1, 0] 0 (ck G.P Try.f85) r.1 (unpick 19 (G.msk n_slices_IndexFunc_impl_FaceSig_impl_FaceSig 0).2 r.2.1) r.2.2
theorem slices_IndexFunc_impl_FaceSig_impl_FaceSig.eq (k : Nat) (a1 : V) (a2 : V) (σ : Heap) : hcall G (k + 1) n_slices_IndexFunc_impl_FaceSig_impl_FaceSig [a1, a2] σ = ((vlen a1).bind fun k3 => (slices_IndexFunc_impl_FaceSig_impl_FaceSig.L0 k k [.v a1, .v a2, .v (.int .i64 (k3 : Int)), .v (.int .i64 0)] σ).bind (slices_IndexFunc_impl_FaceSig_impl_FaceSig.A0 k)) := by
  kernel_rfl
theorem slices_IndexFunc_impl_FaceSig_impl_FaceSig.L0_step (k m : Nat) (a1 : V) (a2 : V) (n3 : Int) (n4 : Int) (σ : Heap) : slices_IndexFunc_impl_FaceSig_impl_FaceSig.L0 k (m + 1) [.v a1, .v a2, .v (.int .i64 n3), .v (.int .i64 n4)] σ = (bif decide (n4 < n3) then ((vidx 3 a1 n4).bind fun p5 => (rdc σ p5.1 p5.2 3).bind fun l6 => uncons l6 fun c7 l8 => castStr c7 fun s9 => uncons l8 fun c10 l11 => uncons l11 fun c12 l13 => castInt .i64 c12 fun n14 => isNil l13 <| castFn a2 fun f16 l17 => (hcall G k f16 ([.agg [.str s9, c10, .int .i64 n14]] ++ l17) σ).bind fun q15 => castBool q15.1 fun b18 => bif b18 then (some (.ret, [.v (.int .i64 n4)], q15.2)) else (slices_IndexFunc_impl_FaceSig_impl_FaceSig.L0 k m [.v a1, .v a2, .v (.int .i64 n3), .v (.int .i64 (IntKind.wrap .i64 (n4 + 1)))] q15.2)) else (some (.exit 0, [.bot], σ))) := by
  kernel_rfl
theorem slices_IndexFunc_impl_FaceSig_impl_FaceSig.A0_x0 (k : Nat) (t1 : T) (σ : Heap) : slices_IndexFunc_impl_FaceSig_impl_FaceSig.A0 k (.exit 0, [t1], σ) = (some (.int .i64 (-1), σ)) := by
  kernel_rfl
theorem slices_IndexFunc_impl_FaceSig_impl_FaceSig.A0_ret (k : Nat) (n1 : Int) (σ : Heap) : slices_IndexFunc_impl_FaceSig_impl_FaceSig.A0 k (.ret, [.v (.int .i64 n1)], σ) = (some (.int .i64 n1, σ)) := by
  kernel_rfl

/-! loop.example/smithy/impl.TypeFind$3: function 86 -/
theorem impl_TypeFind_3.eq (k : Nat) (s1 : ByteArray) (a2 : V) (n3 : Int) (a4 : V) (σ : Heap) : hcall G (k + 1) n_impl_TypeFind_3 [.agg [.str s1, a2, .int .i64 n3], a4] σ = (castPtr a4 fun r5 o6 => (rdc σ r5 o6 1).bind fun l7 => uncons l7 fun c8 l9 => castStr c8 fun s10 => isNil l9 <| some (.bool (decide (s1 = s10)), σ)) := by
  kernel_rfl

/-! slices.Clone[[]int,int]: function 127 -/
theorem slices_Clone_int_int.eq (k : Nat) (a1 : V) (σ : Heap) : hcall G (k + 1) n_slices_Clone_int_int [a1] σ = ((nilS a1).bind fun b2 => bif b2 then (some (.nils, σ)) else ((vcells (hnew σ 1 []) 1 a1).bind fun p4 => (vappend 1 8 (hnew σ 1 []) (.sl σ.length 0 0 true) p4.1 p4.2).bind fun q3 => some (q3.1, q3.2))) := by
  kernel_rfl

/-! loop.example/smithy/impl.cloneSig: function 87 -/
theorem impl_cloneSig.eq (k : Nat) (s1 : ByteArray) (a2 : V) (n3 : Int) (σ : Heap) : hcall G (k + 1) n_impl_cloneSig [.agg [.str s1, a2, .int .i64 n3]] σ = ((hcall G k n_slices_Clone_int_int [a2] σ).bind fun q4 => one q4.1 <| some (.agg [.str s1, q4.1, .int .i64 n3], q4.2)) := by
  kernel_rfl

/-! loop.example/smithy/impl.TypeFind: function 24 -/
theorem impl_TypeFind.eq (k : Nat) (a1 : V) (a2 : V) (a3 : V) (a4 : V) (s5 : ByteArray) (s6 : ByteArray) (σ : Heap) : hcall G (k + 1) n_impl_TypeFind [.agg [a1, a2, a3], a4, .str s5, .str s6] σ = ((rdc (hnew (hnew σ 1 [.str s5]) 1 [.str s6]) σ.length 0 1).bind fun l7 => uncons l7 fun c8 l9 => castStr c8 fun s10 => isNil l9 <| bif decide (s10 = (⟨#[]⟩ : ByteArray)) then ((hcall G k n_slices_IndexFunc_impl_TreeFun_impl_TreeFun [a2, .fn n_impl_TypeFind_1 [.ptr ((hnew σ 1 [.str s5]).length) 0]] (hnew (hnew σ 1 [.str s5]) 1 [.str s6])).bind fun q11 => castInt .i64 q11.1 fun n12 => bif decide (n12 < 0) then (some (.tuple [.agg [.str (⟨#[]⟩ : ByteArray), .nils, .int .i64 0], .bool false], q11.2)) else ((vidx 9 a2 n12).bind fun p13 => (rdc q11.2 p13.1 p13.2 9).bind fun l14 => uncons l14 fun c15 l16 => castStr c15 fun s17 => uncons l16 fun c18 l19 => castBool c18 fun b20 => uncons l19 fun c21 l22 => uncons l22 fun c23 l24 => castInt .i64 c23 fun n25 => uncons l24 fun c26 l27 => castInt .i64 c26 fun n28 => uncons l27 fun c29 l30 => castInt .i64 c29 fun n31 => uncons l30 fun c32 l33 => castStr c32 fun s34 => uncons l33 fun c35 l36 => castStr c35 fun s37 => uncons l36 fun c38 l39 => isNil l39 <| (hcall G k n_impl_TreeFun_sig [.agg [.str s17, .bool b20, c21, .int .i64 n25, .int .i64 n28, .int .i64 n31, .str s34, .str s37, c38]] q11.2).bind fun q40 => castAgg q40.1 fun l41 => uncons l41 fun c42 l43 => castStr c42 fun s44 => uncons l43 fun c45 l46 => uncons l46 fun c47 l48 => castInt .i64 c47 fun n49 => isNil l48 <| some (.tuple [.agg [.str s44, c45, .int .i64 n49], .bool true], q40.2))) else ((hcall G k n_slices_IndexFunc_impl_TypeFace_impl_TypeFace [a4, .fn n_impl_TypeFind_2 [.ptr σ.length 0]] (hnew (hnew σ 1 [.str s5]) 1 [.str s6])).bind fun q50 => castInt .i64 q50.1 fun n51 => bif decide (n51 < 0) then (some (.tuple [.agg [.str (⟨#[]⟩ : ByteArray), .nils, .int .i64 0], .bool false], q50.2)) else ((rdc q50.2 σ.length 0 1).bind fun l52 => uncons l52 fun c53 l54 => castStr c53 fun s55 => isNil l54 <| (hcall G k n_slices_Contains_string_string [a1, .str s55] q50.2).bind fun q56 => castBool q56.1 fun b57 => bif !b57 then (some (.tuple [.agg [.str (⟨#[]⟩ : ByteArray), .nils, .int .i64 0], .bool false], q56.2)) else ((vidx 2 a4 n51).bind fun p58 => (rdc q56.2 p58.1 (p58.2 + 1) 1).bind fun l59 => uncons l59 fun c60 l61 => isNil l61 <| (hcall G k n_slices_IndexFunc_impl_FaceSig_impl_FaceSig [c60, .fn n_impl_TypeFind_3 [.ptr ((hnew σ 1 [.str s5]).length) 0]] q56.2).bind fun q62 => castInt .i64 q62.1 fun n63 => bif decide (n63 < 0) then (some (.tuple [.agg [.str (⟨#[]⟩ : ByteArray), .nils, .int .i64 0], .bool false], q62.2)) else ((vidx 2 a4 n51).bind fun p64 => (rdc q62.2 p64.1 (p64.2 + 1) 1).bind fun l65 => uncons l65 fun c66 l67 => isNil l67 <| (vidx 3 c66 n63).bind fun p68 => (rdc q62.2 p68.1 p68.2 3).bind fun l69 => uncons l69 fun c70 l71 => castStr c70 fun s72 => uncons l71 fun c73 l74 => uncons l74 fun c75 l76 => castInt .i64 c75 fun n77 => isNil l76 <| (hcall G k n_impl_cloneSig [.agg [.str s72, c73, .int .i64 n77]] q62.2).bind fun q78 => castAgg q78.1 fun l79 => uncons l79 fun c80 l81 => castStr c80 fun s82 => uncons l81 fun c83 l84 => uncons l84 fun c85 l86 => castInt .i64 c85 fun n87 => isNil l86 <| some (.tuple [.agg [.str s82, c83, .int .i64 n87], .bool true], q78.2)))))) := by
  kernel_rfl

/-! loop.example/smithy/laws.eqIntS: function 88 -/
noncomputable def laws_eqIntS.L0 (k : Nat) : Nat → List T → Heap → Option (Ex × List T × Heap) := hloop (hx (G.env n_laws_eqIntS k) k 26 (subc (bodyOf Try.f88) [1, 1, 0, 1, 0, 0]) 0) 26 (G.msk n_laws_eqIntS 0).1 (G.msk n_laws_eqIntS 0).2
noncomputable def laws_eqIntS.A0 (k : Nat) : Ex × List T × Heap → Option (V × Heap) := fun r => aft (G.env n_laws_eqIntS k) k 26 (bodyOf Try.f88) [1, 1, 0, 1, 0] 0 (ck G.P Try.f88) r.1 (unpick 26 (G.msk n_laws_eqIntS 0).2 r.2.1) r.2.2
theorem laws_eqIntS.eq (k : Nat) (a1 : V) (a2 : V) (σ : Heap) : hcall G (k + 1) n_laws_eqIntS [a1, a2] σ = ((vlen a1).bind fun k3 => (vlen a2).bind fun k4 => bif !decide ((k3 : Int) = (k4 : Int)) then (some (.bool false, σ)) else ((laws_eqIntS.L0 k k [.v a1, .v a2, .v (.int .i64 0)] σ).bind (laws_eqIntS.A0 k))) := by
  kernel_rfl
theorem laws_eqIntS.L0_step (k m : Nat) (a1 : V) (a2 : V) (n3 : Int) (σ : Heap) : laws_eqIntS.L0 k (m + 1) [.v a1, .v a2, .v (.int .i64 n3)] σ = ((vlen a1).bind fun k4 => bif decide (n3 < (k4 : Int)) then ((vidx 1 a1 n3).bind fun p5 => (rdc σ p5.1 p5.2 1).bind fun l6 => uncons l6 fun c7 l8 => castInt .i64 c7 fun n9 => isNil l8 <| (vidx 1 a2 n3).bind fun p10 => (rdc σ p10.1 p10.2 1).bind fun l11 => uncons l11 fun c12 l13 => castInt .i64 c12 fun n14 => isNil l13 <| bif !decide (n9 = n14) then (some (.ret, [.v (.bool false)], σ)) else (laws_eqIntS.L0 k m [.v a1, .v a2, .v (.int .i64 (IntKind.wrap .i64 (n3 + 1)))] σ)) else (some (.exit 0, [.bot], σ))) := by
  kernel_rfl
theorem laws_eqIntS.A0_x0 (k : Nat) (t1 : T) (σ : Heap) : laws_eqIntS.A0 k (.exit 0, [t1], σ) = (some (.bool true, σ)) := by
  kernel_rfl
theorem laws_eqIntS.A0_ret (k : Nat) (b1 : Bool) (σ : Heap) : laws_eqIntS.A0 k (.ret, [.v (.bool b1)], σ) = (some (.bool b1, σ)) := by
  kernel_rfl

/-! loop.example/smithy/laws.eqFaceSig: function 25 -/
theorem laws_eqFaceSig.eq (k : Nat) (s1 : ByteArray) (a2 : V) (n3 : Int) (s4 : ByteArray) (a5 : V) (n6 : Int) (σ : Heap) : hcall G (k + 1) n_laws_eqFaceSig [.agg [.str s1, a2, .int .i64 n3], .agg [.str s4, a5, .int .i64 n6]] σ = (bif !decide (s1 = s4) then (some (.bool false, σ)) else ((hcall G k n_laws_eqIntS [a2, a5] σ).bind fun q7 => castBool q7.1 fun b8 => bif !b8 then (some (.bool false, q7.2)) else (bif !decide (n3 = n6) then (some (.bool false, q7.2)) else (some (.bool true, q7.2))))) := by
  kernel_rfl

/-! loop.example/smithy/laws.eqFaceSigS: function 128 -/
noncomputable def laws_eqFaceSigS.L0 (k : Nat) : Nat → List T → Heap → Option (Ex × List T × Heap) := hloop (hx (G.env n_laws_eqFaceSigS k) k 27 (subc (bodyOf Try.f128) [1, 1, 0, 1, 0, 0]) 0) 27 (G.msk n_laws_eqFaceSigS 0).1 (G.msk n_laws_eqFaceSigS 0).2
noncomputable def laws_eqFaceSigS.A0 (k : Nat) : Ex × List T × Heap → Option (V × Heap) := fun r => aft (G.env n_laws_eqFaceSigS k) k 27 (bodyOf Try.f128) [1, 1, 0, 1, 0] 0 (ck G.P Try.f128) r.1 (unpick 27 (G.msk n_laws_eqFaceSigS 0).2 r.2.1) r.2.2
theorem laws_eqFaceSigS.eq (k : Nat) (a1 : V) (a2 : V) (σ : Heap) : hcall G (k + 1) n_laws_eqFaceSigS [a1, a2] σ = ((vlen a1).bind fun k3 => (vlen a2).bind fun k4 => bif !decide ((k3 : Int) = (k4 : Int)) then (some (.bool false, σ)) else ((laws_eqFaceSigS.L0 k k [.v a1, .v a2, .v (.int .i64 0)] σ).bind (laws_eqFaceSigS.A0 k))) := by
  kernel_rfl
theorem laws_eqFaceSigS.L0_step (k m : Nat) (a1 : V) (a2 : V) (n3 : Int) (σ : Heap) : laws_eqFaceSigS.L0 k (m + 1) [.v a1, .v a2, .v (.int .i64 n3)] σ = ((vlen a1).bind fun k4 => bif decide (n3 < (k4 : Int)) then ((vidx 3 a1 n3).bind fun p5 => (rdc σ p5.1 p5.2 3).bind fun l6 => uncons l6 fun c7 l8 => castStr c7 fun s9 => uncons l8 fun c10 l11 => uncons l11 fun c12 l13 => castInt .i64 c12 fun n14 => isNil l13 <| (vidx 3 a2 n3).bind fun p15 => (rdc σ p15.1 p15.2 3).bind fun l16 => uncons l16 fun c17 l18 => castStr c17 fun s19 => uncons l18 fun c20 l21 => uncons l21 fun c22 l23 => castInt .i64 c22 fun n24 => isNil l23 <| (hcall G k n_laws_eqFaceSig [.agg [.str s9, c10, .int .i64 n14], .agg [.str s19, c20, .int .i64 n24]] σ).bind fun q25 => castBool q25.1 fun b26 => bif !b26 then (some (.ret, [.v (.bool false)], q25.2)) else (laws_eqFaceSigS.L0 k m [.v a1, .v a2, .v (.int .i64 (IntKind.wrap .i64 (n3 + 1)))] q25.2)) else (some (.exit 0, [.bot], σ))) := by
  kernel_rfl
theorem laws_eqFaceSigS.A0_x0 (k : Nat) (t1 : T) (σ : Heap) : laws_eqFaceSigS.A0 k (.exit 0, [t1], σ) = (some (.bool true, σ)) := by
  kernel_rfl
theorem laws_eqFaceSigS.A0_ret (k : Nat) (b1 : Bool) (σ : Heap) : laws_eqFaceSigS.A0 k (.ret, [.v (.bool b1)], σ) = (some (.bool b1, σ)) := by
  kernel_rfl

/-! loop.example/smithy/laws.eqTypeFace: function 89 -/
theorem laws_eqTypeFace.eq (k : Nat) (s1 : ByteArray) (a2 : V) (s3 : ByteArray) (a4 : V) (σ : Heap) : hcall G (k + 1) n_laws_eqTypeFace [.agg [.str s1, a2], .agg [.str s3, a4]] σ = (bif !decide (s1 = s3) then (some (.bool false, σ)) else ((hcall G k n_laws_eqFaceSigS [a2, a4] σ).bind fun q5 => castBool q5.1 fun b6 => bif !b6 then (some (.bool false, q5.2)) else (some (.bool true, q5.2)))) := by
  kernel_rfl

/-! loop.example/smithy/laws.eqTypeFaceS: function 26 -/
noncomputable def laws_eqTypeFaceS.L0 (k : Nat) : Nat → List T → Heap → Option (Ex × List T × Heap) := hloop (hx (G.env n_laws_eqTypeFaceS k) k 27 (subc (bodyOf Try.f26) [1, 1, 0, 1, 0, 0]) 0) 27 (G.msk n_laws_eqTypeFaceS 0).1 (G.msk n_laws_eqTypeFaceS 0).2
noncomputable def laws_eqTypeFaceS.A0 (k : Nat) : Ex × List T × Heap → Option (V × Heap) := fun r => aft (G.env n_laws_eqTypeFaceS k) k 27 (bodyOf Try.f26) [1, 1, 0, 1, 0] 0 (ck G.P Try.f26) r.1 (unpick 27 (G.msk n_laws_eqTypeFaceS 0).2 r.2.1) r.2.2
theorem laws_eqTypeFaceS.eq (k : Nat) (a1 : V) (a2 : V) (σ : Heap) : hcall G (k + 1) n_laws_eqTypeFaceS [a1, a2] σ = ((vlen a1).bind fun k3 => (vlen a2).bind fun k4 => bif !decide ((k3 : Int) = (k4 : Int)) then (some (.bool false, σ)) else ((laws_eqTypeFaceS.L0 k k [.v a1, .v a2, .v (.int .i64 0)] σ).bind (laws_eqTypeFaceS.A0 k))) := by
  kernel_rfl
theorem laws_eqTypeFaceS.L0_step (k m : Nat) (a1 : V) (a2 : V) (n3 : Int) (σ : Heap) : laws_eqTypeFaceS.L0 k (m + 1) [.v a1, .v a2, .v (.int .i64 n3)] σ = ((vlen a1).bind fun k4 => bif decide (n3 < (k4 : Int)) then ((vidx 2 a1 n3).bind fun p5 => (rdc σ p5.1 p5.2 2).bind fun l6 => uncons l6 fun c7 l8 => castStr c7 fun s9 => uncons l8 fun c10 l11 => isNil l11 <| (vidx 2 a2 n3).bind fun p12 => (rdc σ p12.1 p12.2 2).bind fun l13 => uncons l13 fun c14 l15 => castStr c14 fun s16 => uncons l15 fun c17 l18 => isNil l18 <| (hcall G k n_laws_eqTypeFace [.agg [.str s9, c10], .agg [.str s16, c17]] σ).bind fun q19 => castBool q19.1 fun b20 => bif !b20 then (some (.ret, [.v (.bool false)], q19.2)) else (laws_eqTypeFaceS.L0 k m [.v a1, .v a2, .v (.int .i64 (IntKind.wrap .i64 (n3 + 1)))] q19.2)) else (some (.exit 0, [.bot], σ))) := by
  kernel_rfl
theorem laws_eqTypeFaceS.A0_x0 (k : Nat) (t1 : T) (σ : Heap) : laws_eqTypeFaceS.A0 k (.exit 0, [t1], σ) = (some (.bool true, σ)) := by
  kernel_rfl
theorem laws_eqTypeFaceS.A0_ret (k : Nat) (b1 : Bool) (σ : Heap) : laws_eqTypeFaceS.A0 k (.ret, [.v (.bool b1)], σ) = (some (.bool b1, σ)) := by
  kernel_rfl

/-! loop.example/smithy/laws.markText: function 93 -/
noncomputable def laws_markText.L0 (k : Nat) : Nat → List T → Heap → Option (Ex × List T × Heap) := hloop (hx (G.env n_laws_markText k) k 20 (subc (bodyOf Try.f93) [1, 1, 1, 0, 0, 0]) 0) 20 (G.msk n_laws_markText 0).1 (G.msk n_laws_markText 0).2
noncomputable def laws_markText.A0 (k : Nat) : Ex × List T × Heap → Option (V × Heap) := fun r => aft (G.env n_laws_markText k) k 20 (bodyOf Try.f93) [1, 1, 1, 0, 0] 0 (ck G.P Try.f93) r.1 (unpick 20 (G.msk n_laws_markText 0).2 r.2.1) r.2.2
theorem laws_markText.eq (k : Nat) (n1 : Int) (σ : Heap) : hcall G (k + 1) n_laws_markText [.int .i64 n1] σ = (bif decide (n1 ≤ 0) then (some (.str (⟨#[109, 48]⟩ : ByteArray), σ)) else ((laws_markText.L0 k k [.v (.int .i64 n1), .v (.str (⟨#[]⟩ : ByteArray))] σ).bind (laws_markText.A0 k))) := by
  kernel_rfl
theorem laws_markText.L0_step (k m : Nat) (n1 : Int) (s2 : ByteArray) (σ : Heap) : laws_markText.L0 k (m + 1) [.v (.int .i64 n1), .v (.str s2)] σ = (bif decide (0 < n1) then ((bytesOf [.int .u8 (IntKind.wrap .u8 (IntKind.wrap .i64 (48 + (Int.tmod n1 10))))] .empty).bind fun s3 => if s3.size + s2.size ≤ 2 ^ 62 then (laws_markText.L0 k m [.v (.int .i64 (IntKind.wrap .i64 (Int.tdiv n1 10))), .v (.str (s3 ++ s2))] σ) else none) else (some (.exit 0, [.bot, .v (.str s2)], σ))) := by
  kernel_rfl
theorem laws_markText.A0_x0 (k : Nat) (t1 : T) (s2 : ByteArray) (σ : Heap) : laws_markText.A0 k (.exit 0, [t1, .v (.str s2)], σ) = (if (⟨#[109]⟩ : ByteArray).size + s2.size ≤ 2 ^ 62 then (some (.str ((⟨#[109]⟩ : ByteArray) ++ s2), σ)) else none) := by
  kernel_rfl

/-! loop.example/smithy/laws.markStringS: function 90 -/
noncomputable def laws_markStringS.L0 (k : Nat) : Nat → List T → Heap → Option (Ex × List T × Heap) := hloop (hx (G.env n_laws_markStringS k) k 20 (subc (bodyOf Try.f90) [1, 0, 1, 0, 0]) 0) 20 (G.msk n_laws_markStringS 0).1 (G.msk n_laws_markStringS 0).2
noncomputable def laws_markStringS.A0 (k : Nat) : Ex × List T × Heap → Option (V × Heap) := fun r => aft (G.env n_laws_markStringS k) k 20 (bodyOf Try.f90) [1, 0, 1, 0] 0 (ck G.P Try.f90) r.1 (unpick 20 (G.msk n_laws_markStringS 0).2 r.2.1) r.2.2
theorem laws_markStringS.eq (k : Nat) (a1 : V) (n2 : Int) (σ : Heap) : hcall G (k + 1) n_laws_markStringS [a1, .int .i64 n2] σ = ((laws_markStringS.L0 k k [.v a1, .v (.int .i64 n2), .v (.int .i64 0)] σ).bind (laws_markStringS.A0 k)) := by
  kernel_rfl
theorem laws_markStringS.L0_step (k m : Nat) (a1 : V) (n2 : Int) (n3 : Int) (σ : Heap) : laws_markStringS.L0 k (m + 1) [.v a1, .v (.int .i64 n2), .v (.int .i64 n3)] σ = ((vlen a1).bind fun k4 => bif decide (n3 < (k4 : Int)) then ((hcall G k n_laws_markText [.int .i64 n2] σ).bind fun q5 => castStr q5.1 fun s6 => (vidx 1 a1 n3).bind fun p7 => (wrc q5.2 p7.1 p7.2 [.str s6]).bind fun h8 => laws_markStringS.L0 k m [.v a1, .v (.int .i64 (IntKind.wrap .i64 (n2 + 1))), .v (.int .i64 (IntKind.wrap .i64 (n3 + 1)))] h8) else (some (.exit 0, [.v (.int .i64 n2), .bot], σ))) := by
  kernel_rfl
theorem laws_markStringS.A0_x0 (k : Nat) (n1 : Int) (t2 : T) (σ : Heap) : laws_markStringS.A0 k (.exit 0, [.v (.int .i64 n1), t2], σ) = (some (.int .i64 n1, σ)) := by
  kernel_rfl

/-! loop.example/smithy/laws.markTreeExprS: function 92 -/
noncomputable def laws_markTreeExprS.L0 (k : Nat) : Nat → List T → Heap → Option (Ex × List T × Heap) := hloop (hx (G.env n_laws_markTreeExprS k) k 50 (subc (bodyOf Try.f92) [1, 0, 1, 0, 0]) 0) 50 (G.msk n_laws_markTreeExprS 0).1 (G.msk n_laws_markTreeExprS 0).2
noncomputable def laws_markTreeExprS.A0 (k : Nat) : Ex × List T × Heap → Option (V × Heap) := fun r => aft (G.env n_laws_markTreeExprS k) k 50 (bodyOf Try.f92) [1, 0, 1, 0] 0 (ck G.P Try.f92) r.1 (unpick 50 (G.msk n_laws_markTreeExprS 0).2 r.2.1) r.2.2
theorem laws_markTreeExprS.eq (k : Nat) (a1 : V) (n2 : Int) (σ : Heap) : hcall G (k + 1) n_laws_markTreeExprS [a1, .int .i64 n2] σ = ((laws_markTreeExprS.L0 k k [.v a1, .v (.int .i64 n2), .v (.int .i64 0)] σ).bind (laws_markTreeExprS.A0 k)) := by
  kernel_rfl
theorem laws_markTreeExprS.L0_step (k m : Nat) (a1 : V) (n2 : Int) (n3 : Int) (σ : Heap) : laws_markTreeExprS.L0 k (m + 1) [.v a1, .v (.int .i64 n2), .v (.int .i64 n3)] σ = ((vlen a1).bind fun k4 => bif decide (n3 < (k4 : Int)) then ((vidx 5 a1 n3).bind fun p5 => (wrc σ p5.1 (p5.2 + 0) [.int .i64 n2]).bind fun h6 => (vidx 5 a1 n3).bind fun p7 => (wrc h6 p7.1 (p7.2 + 1) [.int .i64 (IntKind.wrap .i64 (n2 + 1))]).bind fun h8 => (hcall G k n_laws_markText [.int .i64 (IntKind.wrap .i64 ((IntKind.wrap .i64 (n2 + 1)) + 1))] h8).bind fun q9 => castStr q9.1 fun s10 => (vidx 5 a1 n3).bind fun p11 => (wrc q9.2 p11.1 (p11.2 + 2) [.str s10]).bind fun h12 => (hcall G k n_laws_markText [.int .i64 (IntKind.wrap .i64 ((IntKind.wrap .i64 ((IntKind.wrap .i64 (n2 + 1)) + 1)) + 1))] h12).bind fun q13 => castStr q13.1 fun s14 => (vidx 5 a1 n3).bind fun p15 => (wrc q13.2 p15.1 (p15.2 + 3) [.str s14]).bind fun h16 => (vidx 5 a1 n3).bind fun p17 => (rdc h16 p17.1 (p17.2 + 4) 1).bind fun l18 => uncons l18 fun c19 l20 => isNil l20 <| (hcall G k n_laws_markTreeExprS [c19, .int .i64 (IntKind.wrap .i64 ((IntKind.wrap .i64 ((IntKind.wrap .i64 ((IntKind.wrap .i64 (n2 + 1)) + 1)) + 1)) + 1))] h16).bind fun q21 => castInt .i64 q21.1 fun n22 => laws_markTreeExprS.L0 k m [.v a1, .v (.int .i64 n22), .v (.int .i64 (IntKind.wrap .i64 (n3 + 1)))] q21.2) else (some (.exit 0, [.v (.int .i64 n2), .bot], σ))) := by
  kernel_rfl
theorem laws_markTreeExprS.A0_x0 (k : Nat) (n1 : Int) (t2 : T) (σ : Heap) : laws_markTreeExprS.A0 k (.exit 0, [.v (.int .i64 n1), t2], σ) = (some (.int .i64 n1, σ)) := by
  kernel_rfl

/-! loop.example/smithy/laws.markTreeArgS: function 129 -/
noncomputable def laws_markTreeArgS.L0 (k : Nat) : Nat → List T → Heap → Option (Ex × List T × Heap) := hloop (hx (G.env n_laws_markTreeArgS k) k 28 (subc (bodyOf Try.f129) [1, 0, 1, 0, 0]) 0) 28 (G.msk n_laws_markTreeArgS 0).1 (G.msk n_laws_markTreeArgS 0).2
noncomputable def laws_markTreeArgS.A0 (k : Nat) : Ex × List T × Heap → Option (V × Heap) := fun r => aft (G.env n_laws_markTreeArgS k) k 28 (bodyOf Try.f129) [1, 0, 1, 0] 0 (ck G.P Try.f129) r.1 (unpick 28 (G.msk n_laws_markTreeArgS 0).2 r.2.1) r.2.2
theorem laws_markTreeArgS.eq (k : Nat) (a1 : V) (n2 : Int) (σ : Heap) : hcall G (k + 1) n_laws_markTreeArgS [a1, .int .i64 n2] σ = ((laws_markTreeArgS.L0 k k [.v a1, .v (.int .i64 n2), .v (.int .i64 0)] σ).bind (laws_markTreeArgS.A0 k)) := by
  kernel_rfl
theorem laws_markTreeArgS.L0_step (k m : Nat) (a1 : V) (n2 : Int) (n3 : Int) (σ : Heap) : laws_markTreeArgS.L0 k (m + 1) [.v a1, .v (.int .i64 n2), .v (.int .i64 n3)] σ = ((vlen a1).bind fun k4 => bif decide (n3 < (k4 : Int)) then ((hcall G k n_laws_markText [.int .i64 n2] σ).bind fun q5 => castStr q5.1 fun s6 => (vidx 2 a1 n3).bind fun p7 => (wrc q5.2 p7.1 (p7.2 + 0) [.str s6]).bind fun h8 => (vidx 2 a1 n3).bind fun p9 => (wrc h8 p9.1 (p9.2 + 1) [.int .i64 (IntKind.wrap .i64 (n2 + 1))]).bind fun h10 => laws_markTreeArgS.L0 k m [.v a1, .v (.int .i64 (IntKind.wrap .i64 ((IntKind.wrap .i64 (n2 + 1)) + 1))), .v (.int .i64 (IntKind.wrap .i64 (n3 + 1)))] h10) else (some (.exit 0, [.v (.int .i64 n2), .bot], σ))) := by
  kernel_rfl
theorem laws_markTreeArgS.A0_x0 (k : Nat) (n1 : Int) (t2 : T) (σ : Heap) : laws_markTreeArgS.A0 k (.exit 0, [.v (.int .i64 n1), t2], σ) = (some (.int .i64 n1, σ)) := by
  kernel_rfl

/-! loop.example/smithy/laws.markTreeFunS: function 91 -/
noncomputable def laws_markTreeFunS.L0 (k : Nat) : Nat → List T → Heap → Option (Ex × List T × Heap) := hloop (hx (G.env n_laws_markTreeFunS k) k 86 (subc (bodyOf Try.f91) [1, 0, 1, 0, 0]) 0) 86 (G.msk n_laws_markTreeFunS 0).1 (G.msk n_laws_markTreeFunS 0).2
noncomputable def laws_markTreeFunS.A0 (k : Nat) : Ex × List T × Heap → Option (V × Heap) := fun r => aft (G.env n_laws_markTreeFunS k) k 86 (bodyOf Try.f91) [1, 0, 1, 0] 0 (ck G.P Try.f91) r.1 (unpick 86 (G.msk n_laws_markTreeFunS 0).2 r.2.1) r.2.2
theorem laws_markTreeFunS.eq (k : Nat) (a1 : V) (n2 : Int) (σ : Heap) : hcall G (k + 1) n_laws_markTreeFunS [a1, .int .i64 n2] σ = ((laws_markTreeFunS.L0 k k [.v a1, .v (.int .i64 n2), .v (.int .i64 0)] σ).bind (laws_markTreeFunS.A0 k)) := by
  kernel_rfl
theorem laws_markTreeFunS.L0_step (k m : Nat) (a1 : V) (n2 : Int) (n3 : Int) (σ : Heap) : laws_markTreeFunS.L0 k (m + 1) [.v a1, .v (.int .i64 n2), .v (.int .i64 n3)] σ = ((vlen a1).bind fun k4 => bif decide (n3 < (k4 : Int)) then ((hcall G k n_laws_markText [.int .i64 n2] σ).bind fun q5 => castStr q5.1 fun s6 => (vidx 9 a1 n3).bind fun p7 => (wrc q5.2 p7.1 (p7.2 + 0) [.str s6]).bind fun h8 => (vidx 9 a1 n3).bind fun p9 => (wrc h8 p9.1 (p9.2 + 1) [.bool (decide (Int.tmod (IntKind.wrap .i64 (n2 + 1)) 3 = 0))]).bind fun h10 => (vidx 9 a1 n3).bind fun p11 => (rdc h10 p11.1 (p11.2 + 2) 1).bind fun l12 => uncons l12 fun c13 l14 => isNil l14 <| (hcall G k n_laws_markTreeArgS [c13, .int .i64 (IntKind.wrap .i64 ((IntKind.wrap .i64 (n2 + 1)) + 1))] h10).bind fun q15 => castInt .i64 q15.1 fun n16 => (vidx 9 a1 n3).bind fun p17 => (wrc q15.2 p17.1 (p17.2 + 3) [.int .i64 n16]).bind fun h18 => (vidx 9 a1 n3).bind fun p19 => (wrc h18 p19.1 (p19.2 + 4 + 0) [.int .i64 (IntKind.wrap .i64 (n16 + 1))]).bind fun h20 => (vidx 9 a1 n3).bind fun p21 => (wrc h20 p21.1 (p21.2 + 4 + 1) [.int .i64 (IntKind.wrap .i64 ((IntKind.wrap .i64 (n16 + 1)) + 1))]).bind fun h22 => (hcall G k n_laws_markText [.int .i64 (IntKind.wrap .i64 ((IntKind.wrap .i64 ((IntKind.wrap .i64 (n16 + 1)) + 1)) + 1))] h22).bind fun q23 => castStr q23.1 fun s24 => (vidx 9 a1 n3).bind fun p25 => (wrc q23.2 p25.1 (p25.2 + 4 + 2) [.str s24]).bind fun h26 => (hcall G k n_laws_markText [.int .i64 (IntKind.wrap .i64 ((IntKind.wrap .i64 ((IntKind.wrap .i64 ((IntKind.wrap .i64 (n16 + 1)) + 1)) + 1)) + 1))] h26).bind fun q27 => castStr q27.1 fun s28 => (vidx 9 a1 n3).bind fun p29 => (wrc q27.2 p29.1 (p29.2 + 4 + 3) [.str s28]).bind fun h30 => (vidx 9 a1 n3).bind fun p31 => (rdc h30 p31.1 (p31.2 + 4 + 4) 1).bind fun l32 => uncons l32 fun c33 l34 => isNil l34 <| (hcall G k n_laws_markTreeExprS [c33, .int .i64 (IntKind.wrap .i64 ((IntKind.wrap .i64 ((IntKind.wrap .i64 ((IntKind.wrap .i64 ((IntKind.wrap .i64 (n16 + 1)) + 1)) + 1)) + 1)) + 1))] h30).bind fun q35 => castInt .i64 q35.1 fun n36 => laws_markTreeFunS.L0 k m [.v a1, .v (.int .i64 n36), .v (.int .i64 (IntKind.wrap .i64 (n3 + 1)))] q35.2) else (some (.exit 0, [.v (.int .i64 n2), .bot], σ))) := by
  kernel_rfl
theorem laws_markTreeFunS.A0_x0 (k : Nat) (n1 : Int) (t2 : T) (σ : Heap) : laws_markTreeFunS.A0 k (.exit 0, [.v (.int .i64 n1), t2], σ) = (some (.int .i64 n1, σ)) := by
  kernel_rfl

/-! loop.example/smithy/laws.markTreeMod: function 27 -/
theorem laws_markTreeMod.eq (k : Nat) (a1 : V) (a2 : V) (a3 : V) (n4 : Int) (σ : Heap) : hcall G (k + 1) n_laws_markTreeMod [.agg [a1, a2, a3], .int .i64 n4] σ = ((hcall G k n_laws_markStringS [a1, .int .i64 n4] σ).bind fun q5 => castInt .i64 q5.1 fun n6 => (hcall G k n_laws_markTreeFunS [a2, .int .i64 n6] q5.2).bind fun q7 => castInt .i64 q7.1 fun n8 => (hcall G k n_laws_markTreeExprS [a3, .int .i64 n8] q7.2).bind fun q9 => castInt .i64 q9.1 fun n10 => some (.int .i64 n10, q9.2)) := by
  kernel_rfl

/-! loop.example/smithy/laws.markIntS: function 95 -/
noncomputable def laws_markIntS.L0 (k : Nat) : Nat → List T → Heap → Option (Ex × List T × Heap) := hloop (hx (G.env n_laws_markIntS k) k 19 (subc (bodyOf Try.f95) [1, 0, 1, 0, 0]) 0) 19 (G.msk n_laws_markIntS 0).1 (G.msk n_laws_markIntS 0).2
noncomputable def laws_markIntS.A0 (k : Nat) : Ex × List T × Heap → Option (V × Heap) := fun r => aft (G.env n_laws_markIntS k) k 19 (bodyOf Try.f95) [1, 0, 1, 0] 0 (ck G.P Try.f95) r.1 (unpick 19 (G.msk n_laws_markIntS 0).2 r.2.1) r.2.2
theorem laws_markIntS.eq (k : Nat) (a1 : V) (n2 : Int) (σ : Heap) : hcall G (k + 1) n_laws_markIntS [a1, .int .i64 n2] σ = ((laws_markIntS.L0 k k [.v a1, .v (.int .i64 n2), .v (.int .i64 0)] σ).bind (laws_markIntS.A0 k)) := by
  kernel_rfl
theorem laws_markIntS.L0_step (k m : Nat) (a1 : V) (n2 : Int) (n3 : Int) (σ : Heap) : laws_markIntS.L0 k (m + 1) [.v a1, .v (.int .i64 n2), .v (.int .i64 n3)] σ = ((vlen a1).bind fun k4 => bif decide (n3 < (k4 : Int)) then ((vidx 1 a1 n3).bind fun p5 => (wrc σ p5.1 p5.2 [.int .i64 n2]).bind fun h6 => laws_markIntS.L0 k m [.v a1, .v (.int .i64 (IntKind.wrap .i64 (n2 + 1))), .v (.int .i64 (IntKind.wrap .i64 (n3 + 1)))] h6) else (some (.exit 0, [.v (.int .i64 n2), .bot], σ))) := by
  kernel_rfl
theorem laws_markIntS.A0_x0 (k : Nat) (n1 : Int) (t2 : T) (σ : Heap) : laws_markIntS.A0 k (.exit 0, [.v (.int .i64 n1), t2], σ) = (some (.int .i64 n1, σ)) := by
  kernel_rfl

/-! loop.example/smithy/laws.markFaceSigS: function 94 -/
noncomputable def laws_markFaceSigS.L0 (k : Nat) : Nat → List T → Heap → Option (Ex × List T × Heap) := hloop (hx (G.env n_laws_markFaceSigS k) k 35 (subc (bodyOf Try.f94) [1, 0, 1, 0, 0]) 0) 35 (G.msk n_laws_markFaceSigS 0).1 (G.msk n_laws_markFaceSigS 0).2
noncomputable def laws_markFaceSigS.A0 (k : Nat) : Ex × List T × Heap → Option (V × Heap) := fun r => aft (G.env n_laws_markFaceSigS k) k 35 (bodyOf Try.f94) [1, 0, 1, 0] 0 (ck G.P Try.f94) r.1 (unpick 35 (G.msk n_laws_markFaceSigS 0).2 r.2.1) r.2.2
theorem laws_markFaceSigS.eq (k : Nat) (a1 : V) (n2 : Int) (σ : Heap) : hcall G (k + 1) n_laws_markFaceSigS [a1, .int .i64 n2] σ = ((laws_markFaceSigS.L0 k k [.v a1, .v (.int .i64 n2), .v (.int .i64 0)] σ).bind (laws_markFaceSigS.A0 k)) := by
  kernel_rfl
theorem laws_markFaceSigS.L0_step (k m : Nat) (a1 : V) (n2 : Int) (n3 : Int) (σ : Heap) : laws_markFaceSigS.L0 k (m + 1) [.v a1, .v (.int .i64 n2), .v (.int .i64 n3)] σ = ((vlen a1).bind fun k4 => bif decide (n3 < (k4 : Int)) then ((hcall G k n_laws_markText [.int .i64 n2] σ).bind fun q5 => castStr q5.1 fun s6 => (vidx 3 a1 n3).bind fun p7 => (wrc q5.2 p7.1 (p7.2 + 0) [.str s6]).bind fun h8 => (vidx 3 a1 n3).bind fun p9 => (rdc h8 p9.1 (p9.2 + 1) 1).bind fun l10 => uncons l10 fun c11 l12 => isNil l12 <| (hcall G k n_laws_markIntS [c11, .int .i64 (IntKind.wrap .i64 (n2 + 1))] h8).bind fun q13 => castInt .i64 q13.1 fun n14 => (vidx 3 a1 n3).bind fun p15 => (wrc q13.2 p15.1 (p15.2 + 2) [.int .i64 n14]).bind fun h16 => laws_markFaceSigS.L0 k m [.v a1, .v (.int .i64 (IntKind.wrap .i64 (n14 + 1))), .v (.int .i64 (IntKind.wrap .i64 (n3 + 1)))] h16) else (some (.exit 0, [.v (.int .i64 n2), .bot], σ))) := by
  kernel_rfl
theorem laws_markFaceSigS.A0_x0 (k : Nat) (n1 : Int) (t2 : T) (σ : Heap) : laws_markFaceSigS.A0 k (.exit 0, [.v (.int .i64 n1), t2], σ) = (some (.int .i64 n1, σ)) := by
  kernel_rfl

/-! loop.example/smithy/laws.markTypeFaceS: function 28 -/
noncomputable def laws_markTypeFaceS.L0 (k : Nat) : Nat → List T → Heap → Option (Ex × List T × Heap) := hloop (hx (G.env n_laws_markTypeFaceS k) k 28 (subc (bodyOf Try.f28) [1, 0, 1, 0, 0]) 0) 28 (G.msk n_laws_markTypeFaceS 0).1 (G.msk n_laws_markTypeFaceS 0).2
noncomputable def laws_markTypeFaceS.A0 (k : Nat) : Ex × List T × Heap → Option (V × Heap) := fun r => aft (G.env n_laws_markTypeFaceS k) k 28 (bodyOf Try.f28) [1, 0, 1, 0] 0 (ck G.P Try.f28) r.1 (unpick 28 (G.msk n_laws_markTypeFaceS 0).2 r.2.1) r.2.2
theorem laws_markTypeFaceS.eq (k : Nat) (a1 : V) (n2 : Int) (σ : Heap) : hcall G (k + 1) n_laws_markTypeFaceS [a1, .int .i64 n2] σ = ((laws_markTypeFaceS.L0 k k [.v a1, .v (.int .i64 n2), .v (.int .i64 0)] σ).bind (laws_markTypeFaceS.A0 k)) := by
  kernel_rfl
theorem laws_markTypeFaceS.L0_step (k m : Nat) (a1 : V) (n2 : Int) (n3 : Int) (σ : Heap) : laws_markTypeFaceS.L0 k (m + 1) [.v a1, .v (.int .i64 n2), .v (.int .i64 n3)] σ = ((vlen a1).bind fun k4 => bif decide (n3 < (k4 : Int)) then ((hcall G k n_laws_markText [.int .i64 n2] σ).bind fun q5 => castStr q5.1 fun s6 => (vidx 2 a1 n3).bind fun p7 => (wrc q5.2 p7.1 (p7.2 + 0) [.str s6]).bind fun h8 => (vidx 2 a1 n3).bind fun p9 => (rdc h8 p9.1 (p9.2 + 1) 1).bind fun l10 => uncons l10 fun c11 l12 => isNil l12 <| (hcall G k n_laws_markFaceSigS [c11, .int .i64 (IntKind.wrap .i64 (n2 + 1))] h8).bind fun q13 => castInt .i64 q13.1 fun n14 => laws_markTypeFaceS.L0 k m [.v a1, .v (.int .i64 n14), .v (.int .i64 (IntKind.wrap .i64 (n3 + 1)))] q13.2) else (some (.exit 0, [.v (.int .i64 n2), .bot], σ))) := by
  kernel_rfl
theorem laws_markTypeFaceS.A0_x0 (k : Nat) (n1 : Int) (t2 : T) (σ : Heap) : laws_markTypeFaceS.A0 k (.exit 0, [.v (.int .i64 n1), t2], σ) = (some (.int .i64 n1, σ)) := by
  kernel_rfl

/-! loop.example/smithy/laws.markFaceSig: function 29 -/
theorem laws_markFaceSig.eq (k : Nat) (s1 : ByteArray) (a2 : V) (n3 : Int) (n4 : Int) (σ : Heap) : hcall G (k + 1) n_laws_markFaceSig [.agg [.str s1, a2, .int .i64 n3], .int .i64 n4] σ = ((hcall G k n_laws_markIntS [a2, .int .i64 n4] σ).bind fun q5 => castInt .i64 q5.1 fun n6 => some (.int .i64 n6, q5.2)) := by
  kernel_rfl

/-! loop.example/smithy/laws.heldIntS: function 96 -/
noncomputable def laws_heldIntS.L0 (k : Nat) : Nat → List T → Heap → Option (Ex × List T × Heap) := hloop (hx (G.env n_laws_heldIntS k) k 21 (subc (bodyOf Try.f96) [1, 0, 1, 0, 0]) 0) 21 (G.msk n_laws_heldIntS 0).1 (G.msk n_laws_heldIntS 0).2
noncomputable def laws_heldIntS.A0 (k : Nat) : Ex × List T × Heap → Option (V × Heap) := fun r => aft (G.env n_laws_heldIntS k) k 21 (bodyOf Try.f96) [1, 0, 1, 0] 0 (ck G.P Try.f96) r.1 (unpick 21 (G.msk n_laws_heldIntS 0).2 r.2.1) r.2.2
theorem laws_heldIntS.eq (k : Nat) (a1 : V) (n2 : Int) (σ : Heap) : hcall G (k + 1) n_laws_heldIntS [a1, .int .i64 n2] σ = ((laws_heldIntS.L0 k k [.v a1, .v (.int .i64 n2), .v (.int .i64 0)] σ).bind (laws_heldIntS.A0 k)) := by
  kernel_rfl
theorem laws_heldIntS.L0_step (k m : Nat) (a1 : V) (n2 : Int) (n3 : Int) (σ : Heap) : laws_heldIntS.L0 k (m + 1) [.v a1, .v (.int .i64 n2), .v (.int .i64 n3)] σ = ((vlen a1).bind fun k4 => bif decide (n3 < (k4 : Int)) then ((vidx 1 a1 n3).bind fun p5 => (rdc σ p5.1 p5.2 1).bind fun l6 => uncons l6 fun c7 l8 => castInt .i64 c7 fun n9 => isNil l8 <| bif !decide (n9 = n2) then (some (.ret, [.v (.int .i64 n2), .v (.int .i64 (-1))], σ)) else (laws_heldIntS.L0 k m [.v a1, .v (.int .i64 (IntKind.wrap .i64 (n2 + 1))), .v (.int .i64 (IntKind.wrap .i64 (n3 + 1)))] σ)) else (some (.exit 0, [.v (.int .i64 n2), .bot], σ))) := by
  kernel_rfl
theorem laws_heldIntS.A0_x0 (k : Nat) (n1 : Int) (t2 : T) (σ : Heap) : laws_heldIntS.A0 k (.exit 0, [.v (.int .i64 n1), t2], σ) = (some (.int .i64 n1, σ)) := by
  kernel_rfl
theorem laws_heldIntS.A0_ret (k : Nat) (t1 : T) (n2 : Int) (σ : Heap) : laws_heldIntS.A0 k (.ret, [t1, .v (.int .i64 n2)], σ) = (some (.int .i64 n2, σ)) := by
  kernel_rfl

/-! loop.example/smithy/laws.heldFaceSig: function 30 -/
theorem laws_heldFaceSig.eq (k : Nat) (s1 : ByteArray) (a2 : V) (n3 : Int) (n4 : Int) (σ : Heap) : hcall G (k + 1) n_laws_heldFaceSig [.agg [.str s1, a2, .int .i64 n3], .int .i64 n4] σ = ((hcall G k n_laws_heldIntS [a2, .int .i64 n4] σ).bind fun q5 => castInt .i64 q5.1 fun n6 => bif decide (n6 < 0) then (some (.int .i64 (-1), q5.2)) else (some (.int .i64 n6, q5.2))) := by
  kernel_rfl

/-! loop.example/smithy/laws.FnExactTypeFind: function 6 -/
theorem laws_FnExactTypeFind.eq (k : Nat) (a1 : V) (a2 : V) (a3 : V) (a4 : V) (s5 : ByteArray) (s6 : ByteArray) (σ : Heap) : hcall G (k + 1) n_laws_FnExactTypeFind [.agg [a1, a2, a3], a4, .str s5, .str s6] σ = (bif decide (1048576 < (s5.size : Int)) then (some (.bool true, σ)) else (bif decide (1048576 < (s6.size : Int)) then (some (.bool true, σ)) else ((hcall G k n_laws_szTreeMod [.agg [a1, a2, a3], .int .i64 1048576] σ).bind fun q7 => castInt .i64 q7.1 fun n8 => bif decide (n8 < 0) then (some (.bool true, q7.2)) else ((hcall G k n_laws_szTypeFaceS [a4, .int .i64 n8] q7.2).bind fun q9 => castInt .i64 q9.1 fun n10 => bif decide (n10 < 0) then (some (.bool true, q9.2)) else ((hcall G k n_laws_toTreeMod [.agg [a1, a2, a3]] q9.2).bind fun q11 => castAgg q11.1 fun l12 => uncons l12 fun c13 l14 => uncons l14 fun c15 l16 => uncons l16 fun c17 l18 => isNil l18 <| (hcall G k n_laws_toTypeFaceS [a4] q11.2).bind fun q19 => (hcall G k n_spec_TypeFind [.agg [c13, c15, c17], q19.1, .str s5, .str s6] q19.2).bind fun q20 => castTuple q20.1 fun l21 => uncons l21 fun c22 l23 => castAgg c22 fun l24 => uncons l24 fun c25 l26 => castStr c25 fun s27 => uncons l26 fun c28 l29 => uncons l29 fun c30 l31 => castInt .i64 c30 fun n32 => isNil l31 <| uncons l23 fun c33 l34 => castBool c33 fun b35 => isNil l34 <| (hcall G k n_laws_toTreeMod [.agg [a1, a2, a3]] q20.2).bind fun q36 => castAgg q36.1 fun l37 => uncons l37 fun c38 l39 => uncons l39 fun c40 l41 => uncons l41 fun c42 l43 => isNil l43 <| (hcall G k n_laws_toTypeFaceS [a4] q36.2).bind fun q44 => (hcall G k n_impl_TypeFind [.agg [c38, c40, c42], q44.1, .str s5, .str s6] q44.2).bind fun q45 => castTuple q45.1 fun l46 => uncons l46 fun c47 l48 => castAgg c47 fun l49 => uncons l49 fun c50 l51 => castStr c50 fun s52 => uncons l51 fun c53 l54 => uncons l54 fun c55 l56 => castInt .i64 c55 fun n57 => isNil l56 <| uncons l48 fun c58 l59 => castBool c58 fun b60 => isNil l59 <| (hcall G k n_laws_eqFaceSig [.agg [.str s52, c53, .int .i64 n57], .agg [.str s27, c28, .int .i64 n32]] q45.2).bind fun q61 => castBool q61.1 fun b62 => bif !b62 then (some (.bool false, q61.2)) else (bif !(b60 == b35) then (some (.bool false, q61.2)) else ((hcall G k n_laws_toTreeMod [.agg [a1, a2, a3]] q61.2).bind fun q63 => castAgg q63.1 fun l64 => uncons l64 fun c65 l66 => uncons l66 fun c67 l68 => uncons l68 fun c69 l70 => isNil l70 <| (hcall G k n_laws_eqTreeMod [.agg [c38, c40, c42], .agg [c65, c67, c69]] q63.2).bind fun q71 => castBool q71.1 fun b72 => bif !b72 then (some (.bool false, q71.2)) else ((hcall G k n_laws_toTypeFaceS [a4] q71.2).bind fun q73 => (hcall G k n_laws_eqTypeFaceS [q44.1, q73.1] q73.2).bind fun q74 => castBool q74.1 fun b75 => bif !b75 then (some (.bool false, q74.2)) else ((hcall G k n_laws_markTreeMod [.agg [c38, c40, c42], .int .i64 1] q74.2).bind fun q76 => castInt .i64 q76.1 fun n77 => (hcall G k n_laws_markTypeFaceS [q44.1, .int .i64 n77] q76.2).bind fun q78 => castInt .i64 q78.1 fun n79 => bif decide (n79 < 0) then (some (.bool false, q78.2)) else ((hcall G k n_laws_eqFaceSig [.agg [.str s52, c53, .int .i64 n57], .agg [.str s27, c28, .int .i64 n32]] q78.2).bind fun q80 => castBool q80.1 fun b81 => bif !b81 then (some (.bool false, q80.2)) else (bif !(b60 == b35) then (some (.bool false, q80.2)) else ((hcall G k n_laws_markFaceSig [.agg [.str s52, c53, .int .i64 n57], .int .i64 1] q80.2).bind fun q82 => castInt .i64 q82.1 fun n83 => (hcall G k n_laws_heldFaceSig [.agg [.str s52, c53, .int .i64 n57], .int .i64 1] q82.2).bind fun q84 => castInt .i64 q84.1 fun n85 => bif decide (n85 < 0) then (some (.bool false, q84.2)) else (bif !decide (n85 = n83) then (some (.bool false, q84.2)) else ((hcall G k n_laws_toTreeMod [.agg [a1, a2, a3]] q84.2).bind fun q86 => castAgg q86.1 fun l87 => uncons l87 fun c88 l89 => uncons l89 fun c90 l91 => uncons l91 fun c92 l93 => isNil l93 <| (hcall G k n_laws_toTypeFaceS [a4] q86.2).bind fun q94 => (hcall G k n_impl_TypeFind [.agg [c88, c90, c92], q94.1, .str s5, .str s6] q94.2).bind fun q95 => castTuple q95.1 fun l96 => uncons l96 fun c97 l98 => castAgg c97 fun l99 => uncons l99 fun c100 l101 => castStr c100 fun s102 => uncons l101 fun c103 l104 => uncons l104 fun c105 l106 => castInt .i64 c105 fun n107 => isNil l106 <| uncons l98 fun c108 l109 => castBool c108 fun b110 => isNil l109 <| (hcall G k n_laws_eqFaceSig [.agg [.str s102, c103, .int .i64 n107], .agg [.str s27, c28, .int .i64 n32]] q95.2).bind fun q111 => castBool q111.1 fun b112 => bif !b112 then (some (.bool false, q111.2)) else (bif !(b110 == b35) then (some (.bool false, q111.2)) else ((hcall G k n_laws_heldFaceSig [.agg [.str s52, c53, .int .i64 n57], .int .i64 1] q111.2).bind fun q113 => castInt .i64 q113.1 fun n114 => bif decide (n114 < 0) then (some (.bool false, q113.2)) else (bif !decide (n114 = n83) then (some (.bool false, q113.2)) else (some (.bool true, q113.2))))))))))))))))))) := by
  kernel_rfl

/-! loop.example/smithy/impl.TreeNodes: function 20 -/
noncomputable def impl_TreeNodes.L0 (k : Nat) : Nat → List T → Heap → Option (Ex × List T × Heap) := hloop (hx (G.env n_impl_TreeNodes k) k 32 (subc (bodyOf Try.f20) [1, 1, 0, 1, 0, 0]) 0) 32 (G.msk n_impl_TreeNodes 0).1 (G.msk n_impl_TreeNodes 0).2
noncomputable def impl_TreeNodes.A0 (k : Nat) : Ex × List T × Heap → Option (V × Heap) := fun r => aft (G.env n_impl_TreeNodes k) k 32 (bodyOf Try.f20) [1, 1, 0, 1, 0] 0 (ck G.P Try.f20) r.1 (unpick 32 (G.msk n_impl_TreeNodes 0).2 r.2.1) r.2.2
theorem impl_TreeNodes.eq (k : Nat) (n1 : Int) (n2 : Int) (s3 : ByteArray) (s4 : ByteArray) (a5 : V) (σ : Heap) : hcall G (k + 1) n_impl_TreeNodes [.agg [.int .i64 n1, .int .i64 n2, .str s3, .str s4, a5]] σ = ((vlen a5).bind fun k6 => (impl_TreeNodes.L0 k k [.v (.int .i64 1), .v (.int .i64 0), .v a5, .v (.int .i64 (k6 : Int)), .v (.int .i64 0)] σ).bind (impl_TreeNodes.A0 k)) := by
  kernel_rfl
theorem impl_TreeNodes.L0_step (k m : Nat) (n1 : Int) (n2 : Int) (a3 : V) (n4 : Int) (n5 : Int) (σ : Heap) : impl_TreeNodes.L0 k (m + 1) [.v (.int .i64 n1), .v (.int .i64 n2), .v a3, .v (.int .i64 n4), .v (.int .i64 n5)] σ = (bif decide (n5 < n4) then ((vidx 5 a3 n5).bind fun p6 => (rdc σ p6.1 p6.2 5).bind fun l7 => uncons l7 fun c8 l9 => castInt .i64 c8 fun n10 => uncons l9 fun c11 l12 => castInt .i64 c11 fun n13 => uncons l12 fun c14 l15 => castStr c14 fun s16 => uncons l15 fun c17 l18 => castStr c17 fun s19 => uncons l18 fun c20 l21 => isNil l21 <| (hcall G k n_impl_TreeNodes [.agg [.int .i64 n10, .int .i64 n13, .str s16, .str s19, c20]] σ).bind fun q22 => castTuple q22.1 fun l23 => uncons l23 fun c24 l25 => castInt .i64 c24 fun n26 => uncons l25 fun c27 l28 => castInt .i64 c27 fun n29 => isNil l28 <| impl_TreeNodes.L0 k m [.v (.int .i64 (IntKind.wrap .i64 (n1 + n26))), .v (.int .i64 (if n2 < n29 then n29 else n2)), .v a3, .v (.int .i64 n4), .v (.int .i64 (IntKind.wrap .i64 (n5 + 1)))] q22.2) else (some (.exit 0, [.bot, .bot, .v (.int .i64 n1), .v (.int .i64 n2)], σ))) := by
  kernel_rfl
theorem impl_TreeNodes.A0_x0 (k : Nat) (t1 : T) (t2 : T) (n3 : Int) (n4 : Int) (σ : Heap) : impl_TreeNodes.A0 k (.exit 0, [t1, t2, .v (.int .i64 n3), .v (.int .i64 n4)], σ) = (some (.tuple [.int .i64 n3, .int .i64 (IntKind.wrap .i64 (n4 + 1))], σ)) := by
  kernel_rfl

/-! loop.example/smithy/spec.TreeNodes: function 42 -/
noncomputable def spec_TreeNodes.L0 (k : Nat) : Nat → List T → Heap → Option (Ex × List T × Heap) := hloop (hx (G.env n_spec_TreeNodes k) k 35 (subc (bodyOf Try.f42) [1, 1, 1, 0, 1, 0, 0]) 0) 35 (G.msk n_spec_TreeNodes 0).1 (G.msk n_spec_TreeNodes 0).2
noncomputable def spec_TreeNodes.A0 (k : Nat) : Ex × List T × Heap → Option (V × Heap) := fun r => aft (G.env n_spec_TreeNodes k) k 35 (bodyOf Try.f42) [1, 1, 1, 0, 1, 0] 0 (ck G.P Try.f42) r.1 (unpick 35 (G.msk n_spec_TreeNodes 0).2 r.2.1) r.2.2
theorem spec_TreeNodes.eq (k : Nat) (n1 : Int) (n2 : Int) (s3 : ByteArray) (s4 : ByteArray) (a5 : V) (σ : Heap) : hcall G (k + 1) n_spec_TreeNodes [.agg [.int .i64 n1, .int .i64 n2, .str s3, .str s4, a5]] σ = ((spec_TreeNodes.L0 k k [.box [.int .i64 n1, .int .i64 n2, .str s3, .str s4, a5], .v (.int .i64 1), .v (.int .i64 0), .v (.int .i64 0)] σ).bind (spec_TreeNodes.A0 k)) := by
  kernel_rfl
theorem spec_TreeNodes.L0_step (k m : Nat) (n1 : Int) (n2 : Int) (s3 : ByteArray) (s4 : ByteArray) (a5 : V) (n6 : Int) (n7 : Int) (n8 : Int) (σ : Heap) : spec_TreeNodes.L0 k (m + 1) [.box [.int .i64 n1, .int .i64 n2, .str s3, .str s4, a5], .v (.int .i64 n6), .v (.int .i64 n7), .v (.int .i64 n8)] σ = ((vlen a5).bind fun k9 => bif decide (n8 < (k9 : Int)) then ((vidx 5 a5 n8).bind fun p10 => (rdc σ p10.1 p10.2 5).bind fun l11 => uncons l11 fun c12 l13 => castInt .i64 c12 fun n14 => uncons l13 fun c15 l16 => castInt .i64 c15 fun n17 => uncons l16 fun c18 l19 => castStr c18 fun s20 => uncons l19 fun c21 l22 => castStr c21 fun s23 => uncons l22 fun c24 l25 => isNil l25 <| (hcall G k n_spec_TreeNodes [.agg [.int .i64 n14, .int .i64 n17, .str s20, .str s23, c24]] σ).bind fun q26 => castTuple q26.1 fun l27 => uncons l27 fun c28 l29 => castInt .i64 c28 fun n30 => uncons l29 fun c31 l32 => castInt .i64 c31 fun n33 => isNil l32 <| bif decide (n7 < n33) then (spec_TreeNodes.L0 k m [.box [.int .i64 n1, .int .i64 n2, .str s3, .str s4, a5], .v (.int .i64 (IntKind.wrap .i64 (n6 + n30))), .v (.int .i64 n33), .v (.int .i64 (IntKind.wrap .i64 (n8 + 1)))] q26.2) else (spec_TreeNodes.L0 k m [.box [.int .i64 n1, .int .i64 n2, .str s3, .str s4, a5], .v (.int .i64 (IntKind.wrap .i64 (n6 + n30))), .v (.int .i64 n7), .v (.int .i64 (IntKind.wrap .i64 (n8 + 1)))] q26.2)) else (some (.exit 0, [.bot, .bot, .v (.int .i64 n6), .v (.int .i64 n7)], σ))) := by
  kernel_rfl
theorem spec_TreeNodes.A0_x0 (k : Nat) (t1 : T) (t2 : T) (n3 : Int) (n4 : Int) (σ : Heap) : spec_TreeNodes.A0 k (.exit 0, [t1, t2, .v (.int .i64 n3), .v (.int .i64 n4)], σ) = (some (.tuple [.int .i64 n3, .int .i64 (IntKind.wrap .i64 (n4 + 1))], σ)) := by
  kernel_rfl

/-! loop.example/smithy/spec.l1Kept: function 153 -/
noncomputable def spec_l1Kept.L0 (k : Nat) : Nat → List T → Heap → Option (Ex × List T × Heap) := hloop (hx (G.env n_spec_l1Kept k) k 18 (subc (bodyOf Try.f153) [1, 1, 0, 1, 0, 0]) 0) 18 (G.msk n_spec_l1Kept 0).1 (G.msk n_spec_l1Kept 0).2
noncomputable def spec_l1Kept.A0 (k : Nat) : Ex × List T × Heap → Option (V × Heap) := fun r => aft (G.env n_spec_l1Kept k) k 18 (bodyOf Try.f153) [1, 1, 0, 1, 0] 0 (ck G.P Try.f153) r.1 (unpick 18 (G.msk n_spec_l1Kept 0).2 r.2.1) r.2.2
theorem spec_l1Kept.eq (k : Nat) (s1 : ByteArray) (σ : Heap) : hcall G (k + 1) n_spec_l1Kept [.str s1] σ = ((spec_l1Kept.L0 k k [.v (.str s1), .v (.sl σ.length 0 19 true), .v (.int .i64 0)] (hnew σ 1 [.str (⟨#[117, 115, 101]⟩ : ByteArray), .str (⟨#[102, 117, 110]⟩ : ByteArray), .str (⟨#[112, 117, 98]⟩ : ByteArray), .str (⟨#[109, 97, 105, 110]⟩ : ByteArray), .str (⟨#[105, 110, 116]⟩ : ByteArray), .str (⟨#[98, 111, 111, 108]⟩ : ByteArray), .str (⟨#[114, 111, 119]⟩ : ByteArray), .str (⟨#[105, 102]⟩ : ByteArray), .str (⟨#[108, 101, 116]⟩ : ByteArray), .str (⟨#[116, 114, 117, 101]⟩ : ByteArray), .str (⟨#[102, 97, 108, 115, 101]⟩ : ByteArray), .str (⟨#[97, 110, 100]⟩ : ByteArray), .str (⟨#[111, 114]⟩ : ByteArray), .str (⟨#[110, 111, 116]⟩ : ByteArray), .str (⟨#[97, 116]⟩ : ByteArray), .str (⟨#[108, 101, 110]⟩ : ByteArray), .str (⟨#[112, 117, 116]⟩ : ByteArray), .str (⟨#[106, 111, 105, 110]⟩ : ByteArray), .str (⟨#[112, 114, 105, 110, 116]⟩ : ByteArray)])).bind (spec_l1Kept.A0 k)) := by
  kernel_rfl
theorem spec_l1Kept.L0_step (k m : Nat) (s1 : ByteArray) (a2 : V) (n3 : Int) (σ : Heap) : spec_l1Kept.L0 k (m + 1) [.v (.str s1), .v a2, .v (.int .i64 n3)] σ = ((vlen a2).bind fun k4 => bif decide (n3 < (k4 : Int)) then ((vidx 1 a2 n3).bind fun p5 => (rdc σ p5.1 p5.2 1).bind fun l6 => uncons l6 fun c7 l8 => castStr c7 fun s9 => isNil l8 <| bif decide (s9 = s1) then (some (.ret, [.v (.bool true)], σ)) else (spec_l1Kept.L0 k m [.v (.str s1), .v a2, .v (.int .i64 (IntKind.wrap .i64 (n3 + 1)))] σ)) else (some (.exit 0, [.bot], σ))) := by
  kernel_rfl
theorem spec_l1Kept.A0_x0 (k : Nat) (t1 : T) (σ : Heap) : spec_l1Kept.A0 k (.exit 0, [t1], σ) = (some (.bool false, σ)) := by
  kernel_rfl
theorem spec_l1Kept.A0_ret (k : Nat) (b1 : Bool) (σ : Heap) : spec_l1Kept.A0 k (.ret, [.v (.bool b1)], σ) = (some (.bool b1, σ)) := by
  kernel_rfl

/-! loop.example/smithy/spec.LexName: function 113 -/
noncomputable def spec_LexName.L0 (k : Nat) : Nat → List T → Heap → Option (Ex × List T × Heap) := hloop (hx (G.env n_spec_LexName k) k 32 (subc (bodyOf Try.f113) [1, 1, 0, 1, 0, 0]) 0) 32 (G.msk n_spec_LexName 0).1 (G.msk n_spec_LexName 0).2
noncomputable def spec_LexName.A0 (k : Nat) : Ex × List T × Heap → Option (V × Heap) := fun r => aft (G.env n_spec_LexName k) k 32 (bodyOf Try.f113) [1, 1, 0, 1, 0] 0 (ck G.P Try.f113) r.1 (unpick 32 (G.msk n_spec_LexName 0).2 r.2.1) r.2.2
theorem spec_LexName.eq (k : Nat) (s1 : ByteArray) (σ : Heap) : hcall G (k + 1) n_spec_LexName [.str s1] σ = (bif decide ((s1.size : Int) < 1) then (some (.bool false, σ)) else (bif decide (8 < (s1.size : Int)) then (some (.bool false, σ)) else ((hcall G k n_spec_l1Kept [.str s1] σ).bind fun q2 => castBool q2.1 fun b3 => bif b3 then (some (.bool false, q2.2)) else ((spec_LexName.L0 k k [.v (.str s1), .v (.int .i64 0)] q2.2).bind (spec_LexName.A0 k))))) := by
  kernel_rfl
theorem spec_LexName.L0_step (k m : Nat) (s1 : ByteArray) (n2 : Int) (σ : Heap) : spec_LexName.L0 k (m + 1) [.v (.str s1), .v (.int .i64 n2)] σ = (bif decide (n2 < (s1.size : Int)) then ((sbyte s1 n2).bind fun n3 => bif decide (n3 < 97) then (some (.ret, [.v (.bool false)], σ)) else ((sbyte s1 n2).bind fun n4 => bif decide (122 < n4) then (some (.ret, [.v (.bool false)], σ)) else (spec_LexName.L0 k m [.v (.str s1), .v (.int .i64 (IntKind.wrap .i64 (n2 + 1)))] σ))) else (some (.exit 0, [.bot], σ))) := by
  kernel_rfl
theorem spec_LexName.A0_x0 (k : Nat) (t1 : T) (σ : Heap) : spec_LexName.A0 k (.exit 0, [t1], σ) = (some (.bool true, σ)) := by
  kernel_rfl
theorem spec_LexName.A0_ret (k : Nat) (b1 : Bool) (σ : Heap) : spec_LexName.A0 k (.ret, [.v (.bool b1)], σ) = (some (.bool b1, σ)) := by
  kernel_rfl

/-! loop.example/smithy/spec.l2Uses: function 62 -/
noncomputable def spec_l2Uses.L1 (k : Nat) : Nat → List T → Heap → Option (Ex × List T × Heap) := hloop (hx (G.env n_spec_l2Uses k) k 31 (subc (bodyOf Try.f62) [1, 0, 1, 0, 0, 1, 0, 0, 1, 1, 0, 0]) 2) 31 (G.msk n_spec_l2Uses 2).1 (G.msk n_spec_l2Uses 2).2
noncomputable def spec_l2Uses.L0 (k : Nat) : Nat → List T → Heap → Option (Ex × List T × Heap) := hloop (hx (G.env n_spec_l2Uses k) k 31 (subc (bodyOf Try.f62) [1, 0, 1, 0, 0]) 0) 31 (G.msk n_spec_l2Uses 0).1 (G.msk n_spec_l2Uses 0).2
noncomputable def spec_l2Uses.A0 (k : Nat) : Ex × List T × Heap → Option (V × Heap) := fun r => aft (G.env n_spec_l2Uses k) k 31 (bodyOf Try.f62) [1, 0, 1, 0] 0 (ck G.P Try.f62) r.1 (unpick 31 (G.msk n_spec_l2Uses 0).2 r.2.1) r.2.2
noncomputable def spec_l2Uses.A1 (k m : Nat) : Ex × List T × Heap → Option (Ex × List T × Heap) := fun r => aft (G.env n_spec_l2Uses k) k 31 (subc (bodyOf Try.f62) [1, 0, 1, 0, 0]) [1, 0, 0, 1, 1, 0] 0 (lk (spec_l2Uses.L0 k m) (G.msk n_spec_l2Uses 0).1 (G.msk n_spec_l2Uses 0).2) r.1 (unpick 31 (G.msk n_spec_l2Uses 2).2 r.2.1) r.2.2
theorem spec_l2Uses.eq (k : Nat) (a1 : V) (σ : Heap) : hcall G (k + 1) n_spec_l2Uses [a1] σ = ((spec_l2Uses.L0 k k [.v a1, .v (.int .i64 0)] σ).bind (spec_l2Uses.A0 k)) := by
  kernel_rfl
theorem spec_l2Uses.L0_step (k m : Nat) (a1 : V) (n2 : Int) (σ : Heap) : spec_l2Uses.L0 k (m + 1) [.v a1, .v (.int .i64 n2)] σ = ((vlen a1).bind fun k3 => bif decide (n2 < (k3 : Int)) then ((vidx 1 a1 n2).bind fun p4 => (rdc σ p4.1 p4.2 1).bind fun l5 => uncons l5 fun c6 l7 => castStr c6 fun s8 => isNil l7 <| (hcall G k n_spec_LexName [.str s8] σ).bind fun q9 => castBool q9.1 fun b10 => bif !b10 then (some (.ret, [.v (.bool false)], q9.2)) else ((spec_l2Uses.L1 k k [.v a1, .v (.int .i64 n2), .v (.int .i64 0)] q9.2).bind (spec_l2Uses.A1 k m))) else (some (.exit 0, [.bot], σ))) := by
  kernel_rfl
theorem spec_l2Uses.A0_x0 (k : Nat) (t1 : T) (σ : Heap) : spec_l2Uses.A0 k (.exit 0, [t1], σ) = (some (.bool true, σ)) := by
  kernel_rfl
theorem spec_l2Uses.A0_ret (k : Nat) (b1 : Bool) (σ : Heap) : spec_l2Uses.A0 k (.ret, [.v (.bool b1)], σ) = (some (.bool b1, σ)) := by
  kernel_rfl
theorem spec_l2Uses.L1_step (k m : Nat) (a1 : V) (n2 : Int) (n3 : Int) (σ : Heap) : spec_l2Uses.L1 k (m + 1) [.v a1, .v (.int .i64 n2), .v (.int .i64 n3)] σ = (bif decide (n3 < n2) then ((vidx 1 a1 n3).bind fun p4 => (rdc σ p4.1 p4.2 1).bind fun l5 => uncons l5 fun c6 l7 => castStr c6 fun s8 => isNil l7 <| (vidx 1 a1 n2).bind fun p9 => (rdc σ p9.1 p9.2 1).bind fun l10 => uncons l10 fun c11 l12 => castStr c11 fun s13 => isNil l12 <| bif decide (s8 = s13) then (some (.ret, [.v a1, .v (.bool false), .v (.int .i64 n2)], σ)) else (spec_l2Uses.L1 k m [.v a1, .v (.int .i64 n2), .v (.int .i64 (IntKind.wrap .i64 (n3 + 1)))] σ)) else (some (.exit 2, [.v a1, .bot, .v (.int .i64 n2)], σ))) := by
  kernel_rfl
theorem spec_l2Uses.A1_x2 (k m : Nat) (a1 : V) (t2 : T) (n3 : Int) (σ : Heap) : spec_l2Uses.A1 k m (.exit 2, [.v a1, t2, .v (.int .i64 n3)], σ) = (spec_l2Uses.L0 k m [.v a1, .v (.int .i64 (IntKind.wrap .i64 (n3 + 1)))] σ) := by
  kernel_rfl
theorem spec_l2Uses.A1_ret (k m : Nat) (t1 : T) (b2 : Bool) (t3 : T) (σ : Heap) : spec_l2Uses.A1 k m (.ret, [t1, .v (.bool b2), t3], σ) = (some (.ret, [.v (.bool b2)], σ)) := by
  kernel_rfl

/-! loop.example/smithy/impl.inRange: function 117 -/
theorem impl_inRange.eq (k : Nat) (n1 : Int) (n2 : Int) (n3 : Int) (σ : Heap) : hcall G (k + 1) n_impl_inRange [.int .i64 n1, .int .i64 n2, .int .i64 n3] σ = (bif decide (n2 ≤ n1) then (some (.bool (decide (n1 ≤ n3)), σ)) else (some (.bool false, σ))) := by
  kernel_rfl
end Go.X
