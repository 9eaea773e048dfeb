/- The functions' equations. -/
import Derived.Test.YtjadancpencnnaaDoorEG
namespace Go.D
open Go.HM Go.Proofs
set_option linter.unusedVariables false
set_option maxRecDepth 1000000
set_option maxHeartbeats 4000000

/-! slices.IndexFunc[[]int,int]: function 148 -/
noncomputable def slices_IndexFunc_int_int.L0 (k : Nat) : Nat → List T → Heap → Option (Ex × List T × Heap) := hloop (hx (G.env n_slices_IndexFunc_int_int k) k 19 (subc (bodyOf Tryd.f148) [1, 0, 1, 0, 0]) 0) 19 (G.msk n_slices_IndexFunc_int_int 0).1 (G.msk n_slices_IndexFunc_int_int 0).2
noncomputable def slices_IndexFunc_int_int.A0 (k : Nat) : Ex × List T × Heap → Option (V × Heap) := fun r => aft (G.env n_slices_IndexFunc_int_int k) k 19 (bodyOf Tryd.f148) [1, 0, 1, 0] 0 (ck G.P Tryd.f148) r.1 (unpick 19 (G.msk n_slices_IndexFunc_int_int 0).2 r.2.1) r.2.2
theorem slices_IndexFunc_int_int.eq (k : Nat) (a1 : V) (a2 : V) (σ : Heap) : hcall G (k + 1) n_slices_IndexFunc_int_int [a1, a2] σ = ((vlen a1).bind fun k3 => (slices_IndexFunc_int_int.L0 k k [.v a1, .v a2, .v (.int .i64 (k3 : Int)), .v (.int .i64 0)] σ).bind (slices_IndexFunc_int_int.A0 k)) := by
  kernel_rfl
theorem slices_IndexFunc_int_int.L0_step (k m : Nat) (a1 : V) (a2 : V) (n3 : Int) (n4 : Int) (σ : Heap) : slices_IndexFunc_int_int.L0 k (m + 1) [.v a1, .v a2, .v (.int .i64 n3), .v (.int .i64 n4)] σ = (bif decide (n4 < n3) then ((vidx 1 a1 n4).bind fun p5 => (rdc σ p5.1 p5.2 1).bind fun l6 => uncons l6 fun c7 l8 => castInt .i64 c7 fun n9 => isNil l8 <| castFn a2 fun f11 l12 => (hcall G k f11 ([.int .i64 n9] ++ l12) σ).bind fun q10 => castBool q10.1 fun b13 => bif b13 then (some (.ret, [.v (.int .i64 n4)], q10.2)) else (slices_IndexFunc_int_int.L0 k m [.v a1, .v a2, .v (.int .i64 n3), .v (.int .i64 (IntKind.wrap .i64 (n4 + 1)))] q10.2)) else (some (.exit 0, [.bot], σ))) := by
  kernel_rfl
theorem slices_IndexFunc_int_int.A0_x0 (k : Nat) (t1 : T) (σ : Heap) : slices_IndexFunc_int_int.A0 k (.exit 0, [t1], σ) = (some (.int .i64 (-1), σ)) := by
  kernel_rfl
theorem slices_IndexFunc_int_int.A0_ret (k : Nat) (n1 : Int) (σ : Heap) : slices_IndexFunc_int_int.A0 k (.ret, [.v (.int .i64 n1)], σ) = (some (.int .i64 n1, σ)) := by
  kernel_rfl

/-! slices.ContainsFunc[[]int,int]: function 120 -/
theorem slices_ContainsFunc_int_int.eq (k : Nat) (a1 : V) (a2 : V) (σ : Heap) : hcall G (k + 1) n_slices_ContainsFunc_int_int [a1, a2] σ = ((hcall G k n_slices_IndexFunc_int_int [a1, a2] σ).bind fun q3 => castInt .i64 q3.1 fun n4 => some (.bool (decide (0 ≤ n4)), q3.2)) := by
  kernel_rfl

/-! loop.example/smithy/impl.areTypes$1: function 121 -/
theorem impl_areTypes_1.eq (k : Nat) (n1 : Int) (σ : Heap) : hcall G (k + 1) n_impl_areTypes_1 [.int .i64 n1] σ = ((hcall G k n_impl_isType [.int .i64 n1] σ).bind fun q2 => castBool q2.1 fun b3 => some (.bool (!b3), q2.2)) := by
  kernel_rfl

/-! loop.example/smithy/impl.areTypes: function 76 -/
theorem impl_areTypes.eq (k : Nat) (a1 : V) (σ : Heap) : hcall G (k + 1) n_impl_areTypes [a1] σ = ((vlen a1).bind fun k2 => bif decide ((k2 : Int) ≤ 4) then ((hcall G k n_slices_ContainsFunc_int_int [a1, .fn n_impl_areTypes_1 []] σ).bind fun q3 => castBool q3.1 fun b4 => some (.bool (!b4), q3.2)) else (some (.bool false, σ))) := by
  kernel_rfl

/-! loop.example/smithy/impl.headOk: function 108 -/
theorem impl_headOk.eq (k : Nat) (s1 : ByteArray) (a2 : V) (n3 : Int) (n4 : Int) (σ : Heap) : hcall G (k + 1) n_impl_headOk [.str s1, a2, .int .i64 n3, .int .i64 n4] σ = ((hcall G k n_impl_LexName [.str s1] σ).bind fun q5 => castBool q5.1 fun b6 => bif b6 then ((hcall G k n_impl_areTypes [a2] q5.2).bind fun q7 => castBool q7.1 fun b8 => bif b8 then ((hcall G k n_impl_isType [.int .i64 n3] q7.2).bind fun q9 => castBool q9.1 fun b10 => bif b10 then ((hcall G k n_impl_inRange [.int .i64 n4, .int .i64 0, .int .i64 1000] q9.2).bind fun q11 => castBool q11.1 fun b12 => some (.bool b12, q11.2)) else (some (.bool false, q9.2))) else (some (.bool false, q7.2))) else (bif decide (s1 = (⟨#[109, 97, 105, 110]⟩ : ByteArray)) then ((hcall G k n_impl_areTypes [a2] q5.2).bind fun q13 => castBool q13.1 fun b14 => bif b14 then ((hcall G k n_impl_isType [.int .i64 n3] q13.2).bind fun q15 => castBool q15.1 fun b16 => bif b16 then ((hcall G k n_impl_inRange [.int .i64 n4, .int .i64 0, .int .i64 1000] q15.2).bind fun q17 => castBool q17.1 fun b18 => some (.bool b18, q17.2)) else (some (.bool false, q15.2))) else (some (.bool false, q13.2))) else (some (.bool false, q5.2)))) := by
  kernel_rfl

/-! slices.IndexFunc[[]loop.example/smithy/impl.CodeIns,loop.example/smithy/impl.CodeIns]: function 139 -/
noncomputable def slices_IndexFunc_impl_CodeIns_impl_CodeIns.L0 (k : Nat) : Nat → List T → Heap → Option (Ex × List T × Heap) := hloop (hx (G.env n_slices_IndexFunc_impl_CodeIns_impl_CodeIns k) k 19 (subc (bodyOf Tryd.f139) [1, 0, 1, 0, 0]) 0) 19 (G.msk n_slices_IndexFunc_impl_CodeIns_impl_CodeIns 0).1 (G.msk n_slices_IndexFunc_impl_CodeIns_impl_CodeIns 0).2
noncomputable def slices_IndexFunc_impl_CodeIns_impl_CodeIns.A0 (k : Nat) : Ex × List T × Heap → Option (V × Heap) := fun r => aft (G.env n_slices_IndexFunc_impl_CodeIns_impl_CodeIns k) k 19 (bodyOf Tryd.f139) [1, 0, 1, 0] 0 (ck G.P Tryd.f139) r.1 (unpick 19 (G.msk n_slices_IndexFunc_impl_CodeIns_impl_CodeIns 0).2 r.2.1) r.2.2
theorem slices_IndexFunc_impl_CodeIns_impl_CodeIns.eq (k : Nat) (a1 : V) (a2 : V) (σ : Heap) : hcall G (k + 1) n_slices_IndexFunc_impl_CodeIns_impl_CodeIns [a1, a2] σ = ((vlen a1).bind fun k3 => (slices_IndexFunc_impl_CodeIns_impl_CodeIns.L0 k k [.v a1, .v a2, .v (.int .i64 (k3 : Int)), .v (.int .i64 0)] σ).bind (slices_IndexFunc_impl_CodeIns_impl_CodeIns.A0 k)) := by
  kernel_rfl
theorem slices_IndexFunc_impl_CodeIns_impl_CodeIns.L0_step (k m : Nat) (a1 : V) (a2 : V) (n3 : Int) (n4 : Int) (σ : Heap) : slices_IndexFunc_impl_CodeIns_impl_CodeIns.L0 k (m + 1) [.v a1, .v a2, .v (.int .i64 n3), .v (.int .i64 n4)] σ = (bif decide (n4 < n3) then ((vidx 2 a1 n4).bind fun p5 => (rdc σ p5.1 p5.2 2).bind fun l6 => uncons l6 fun c7 l8 => castInt .i64 c7 fun n9 => uncons l8 fun c10 l11 => castInt .i64 c10 fun n12 => isNil l11 <| castFn a2 fun f14 l15 => (hcall G k f14 ([.agg [.int .i64 n9, .int .i64 n12]] ++ l15) σ).bind fun q13 => castBool q13.1 fun b16 => bif b16 then (some (.ret, [.v (.int .i64 n4)], q13.2)) else (slices_IndexFunc_impl_CodeIns_impl_CodeIns.L0 k m [.v a1, .v a2, .v (.int .i64 n3), .v (.int .i64 (IntKind.wrap .i64 (n4 + 1)))] q13.2)) else (some (.exit 0, [.bot], σ))) := by
  kernel_rfl
theorem slices_IndexFunc_impl_CodeIns_impl_CodeIns.A0_x0 (k : Nat) (t1 : T) (σ : Heap) : slices_IndexFunc_impl_CodeIns_impl_CodeIns.A0 k (.exit 0, [t1], σ) = (some (.int .i64 (-1), σ)) := by
  kernel_rfl
theorem slices_IndexFunc_impl_CodeIns_impl_CodeIns.A0_ret (k : Nat) (n1 : Int) (σ : Heap) : slices_IndexFunc_impl_CodeIns_impl_CodeIns.A0 k (.ret, [.v (.int .i64 n1)], σ) = (some (.int .i64 n1, σ)) := by
  kernel_rfl

/-! slices.ContainsFunc[[]loop.example/smithy/impl.CodeIns,loop.example/smithy/impl.CodeIns]: function 109 -/
theorem slices_ContainsFunc_impl_CodeIns_impl_CodeIns.eq (k : Nat) (a1 : V) (a2 : V) (σ : Heap) : hcall G (k + 1) n_slices_ContainsFunc_impl_CodeIns_impl_CodeIns [a1, a2] σ = ((hcall G k n_slices_IndexFunc_impl_CodeIns_impl_CodeIns [a1, a2] σ).bind fun q3 => castInt .i64 q3.1 fun n4 => some (.bool (decide (0 ≤ n4)), q3.2)) := by
  kernel_rfl

/-! loop.example/smithy/impl.isShort: function 30 -/
theorem impl_isShort.eq (k : Nat) (n1 : Int) (σ : Heap) : hcall G (k + 1) n_impl_isShort [.int .i64 n1] σ = ((hcall G k n_impl_inRange [.int .i64 n1, .int .i64 (-99999999999999999), .int .i64 99999999999999999] σ).bind fun q2 => castBool q2.1 fun b3 => some (.bool b3, q2.2)) := by
  kernel_rfl

/-! loop.example/smithy/impl.insOk: function 111 -/
theorem impl_insOk.eq (k : Nat) (n1 : Int) (n2 : Int) (σ : Heap) : hcall G (k + 1) n_impl_insOk [.agg [.int .i64 n1, .int .i64 n2]] σ = (bif decide (n1 = 1) then ((hcall G k n_impl_isShort [.int .i64 n2] σ).bind fun q3 => castBool q3.1 fun b4 => some (.bool b4, q3.2)) else (bif decide (n1 = 2) then ((hcall G k n_impl_inRange [.int .i64 n2, .int .i64 0, .int .i64 1] σ).bind fun q5 => castBool q5.1 fun b6 => some (.bool b6, q5.2)) else (bif decide (n1 = 9) then (some (.bool (decide (n2 = 0)), σ)) else ((hcall G k n_impl_inRange [.int .i64 n1, .int .i64 1, .int .i64 10] σ).bind fun q7 => castBool q7.1 fun b8 => bif b8 then ((hcall G k n_impl_inRange [.int .i64 n2, .int .i64 0, .int .i64 1000] q7.2).bind fun q9 => castBool q9.1 fun b10 => some (.bool b10, q9.2)) else (some (.bool false, q7.2)))))) := by
  kernel_rfl

/-! loop.example/smithy/impl.ObjOk$1: function 110 -/
theorem impl_ObjOk_1.eq (k : Nat) (n1 : Int) (n2 : Int) (σ : Heap) : hcall G (k + 1) n_impl_ObjOk_1 [.agg [.int .i64 n1, .int .i64 n2]] σ = ((hcall G k n_impl_insOk [.agg [.int .i64 n1, .int .i64 n2]] σ).bind fun q3 => castBool q3.1 fun b4 => some (.bool (!b4), q3.2)) := by
  kernel_rfl

/-! slices.IndexFunc[[]loop.example/smithy/impl.CodeRef,loop.example/smithy/impl.CodeRef]: function 140 -/
noncomputable def slices_IndexFunc_impl_CodeRef_impl_CodeRef.L0 (k : Nat) : Nat → List T → Heap → Option (Ex × List T × Heap) := hloop (hx (G.env n_slices_IndexFunc_impl_CodeRef_impl_CodeRef k) k 19 (subc (bodyOf Tryd.f140) [1, 0, 1, 0, 0]) 0) 19 (G.msk n_slices_IndexFunc_impl_CodeRef_impl_CodeRef 0).1 (G.msk n_slices_IndexFunc_impl_CodeRef_impl_CodeRef 0).2
noncomputable def slices_IndexFunc_impl_CodeRef_impl_CodeRef.A0 (k : Nat) : Ex × List T × Heap → Option (V × Heap) := fun r => aft (G.env n_slices_IndexFunc_impl_CodeRef_impl_CodeRef k) k 19 (bodyOf Tryd.f140) [1, 0, 1, 0] 0 (ck G.P Tryd.f140) r.1 (unpick 19 (G.msk n_slices_IndexFunc_impl_CodeRef_impl_CodeRef 0).2 r.2.1) r.2.2
theorem slices_IndexFunc_impl_CodeRef_impl_CodeRef.eq (k : Nat) (a1 : V) (a2 : V) (σ : Heap) : hcall G (k + 1) n_slices_IndexFunc_impl_CodeRef_impl_CodeRef [a1, a2] σ = ((vlen a1).bind fun k3 => (slices_IndexFunc_impl_CodeRef_impl_CodeRef.L0 k k [.v a1, .v a2, .v (.int .i64 (k3 : Int)), .v (.int .i64 0)] σ).bind (slices_IndexFunc_impl_CodeRef_impl_CodeRef.A0 k)) := by
  kernel_rfl
theorem slices_IndexFunc_impl_CodeRef_impl_CodeRef.L0_step (k m : Nat) (a1 : V) (a2 : V) (n3 : Int) (n4 : Int) (σ : Heap) : slices_IndexFunc_impl_CodeRef_impl_CodeRef.L0 k (m + 1) [.v a1, .v a2, .v (.int .i64 n3), .v (.int .i64 n4)] σ = (bif decide (n4 < n3) then ((vidx 2 a1 n4).bind fun p5 => (rdc σ p5.1 p5.2 2).bind fun l6 => uncons l6 fun c7 l8 => castStr c7 fun s9 => uncons l8 fun c10 l11 => castStr c10 fun s12 => isNil l11 <| castFn a2 fun f14 l15 => (hcall G k f14 ([.agg [.str s9, .str s12]] ++ l15) σ).bind fun q13 => castBool q13.1 fun b16 => bif b16 then (some (.ret, [.v (.int .i64 n4)], q13.2)) else (slices_IndexFunc_impl_CodeRef_impl_CodeRef.L0 k m [.v a1, .v a2, .v (.int .i64 n3), .v (.int .i64 (IntKind.wrap .i64 (n4 + 1)))] q13.2)) else (some (.exit 0, [.bot], σ))) := by
  kernel_rfl
theorem slices_IndexFunc_impl_CodeRef_impl_CodeRef.A0_x0 (k : Nat) (t1 : T) (σ : Heap) : slices_IndexFunc_impl_CodeRef_impl_CodeRef.A0 k (.exit 0, [t1], σ) = (some (.int .i64 (-1), σ)) := by
  kernel_rfl
theorem slices_IndexFunc_impl_CodeRef_impl_CodeRef.A0_ret (k : Nat) (n1 : Int) (σ : Heap) : slices_IndexFunc_impl_CodeRef_impl_CodeRef.A0 k (.ret, [.v (.int .i64 n1)], σ) = (some (.int .i64 n1, σ)) := by
  kernel_rfl

/-! slices.ContainsFunc[[]loop.example/smithy/impl.CodeRef,loop.example/smithy/impl.CodeRef]: function 112 -/
theorem slices_ContainsFunc_impl_CodeRef_impl_CodeRef.eq (k : Nat) (a1 : V) (a2 : V) (σ : Heap) : hcall G (k + 1) n_slices_ContainsFunc_impl_CodeRef_impl_CodeRef [a1, a2] σ = ((hcall G k n_slices_IndexFunc_impl_CodeRef_impl_CodeRef [a1, a2] σ).bind fun q3 => castInt .i64 q3.1 fun n4 => some (.bool (decide (0 ≤ n4)), q3.2)) := by
  kernel_rfl

/-! loop.example/smithy/impl.ObjOk$2: function 113 -/
theorem impl_ObjOk_2.eq (k : Nat) (s1 : ByteArray) (s2 : ByteArray) (σ : Heap) : hcall G (k + 1) n_impl_ObjOk_2 [.agg [.str s1, .str s2]] σ = ((hcall G k n_impl_LexName [.str s2] σ).bind fun q3 => castBool q3.1 fun b4 => bif !b4 then (some (.bool true, q3.2)) else (bif !decide (s1 = (⟨#[]⟩ : ByteArray)) then ((hcall G k n_impl_LexName [.str s1] q3.2).bind fun q5 => castBool q5.1 fun b6 => some (.bool (!b6), q5.2)) else (some (.bool false, q3.2)))) := by
  kernel_rfl

/-! loop.example/smithy/impl.ObjOk: function 64 -/
noncomputable def impl_ObjOk.L0 (k : Nat) : Nat → List T → Heap → Option (Ex × List T × Heap) := hloop (hx (G.env n_impl_ObjOk k) k 54 (subc (bodyOf Tryd.f64) [1, 1, 0, 1, 0, 0]) 0) 54 (G.msk n_impl_ObjOk 0).1 (G.msk n_impl_ObjOk 0).2
noncomputable def impl_ObjOk.A0 (k : Nat) : Ex × List T × Heap → Option (V × Heap) := fun r => aft (G.env n_impl_ObjOk k) k 54 (bodyOf Tryd.f64) [1, 1, 0, 1, 0] 0 (ck G.P Tryd.f64) r.1 (unpick 54 (G.msk n_impl_ObjOk 0).2 r.2.1) r.2.2
theorem impl_ObjOk.eq (k : Nat) (a1 : V) (a2 : V) (σ : Heap) : hcall G (k + 1) n_impl_ObjOk [.agg [a1, a2]] σ = ((vlen a2).bind fun k3 => (impl_ObjOk.L0 k k [.box [a1, a2], .v (.int .i64 0), .v a2, .v (.int .i64 (k3 : Int)), .v (.int .i64 0)] σ).bind (impl_ObjOk.A0 k)) := by
  kernel_rfl
theorem impl_ObjOk.L0_step (k m : Nat) (a1 : V) (a2 : V) (n3 : Int) (a4 : V) (n5 : Int) (n6 : Int) (σ : Heap) : impl_ObjOk.L0 k (m + 1) [.box [a1, a2], .v (.int .i64 n3), .v a4, .v (.int .i64 n5), .v (.int .i64 n6)] σ = (bif decide (n6 < n5) then ((vidx 6 a4 n6).bind fun p7 => (rdc σ p7.1 p7.2 6).bind fun l8 => uncons l8 fun c9 l10 => castStr c9 fun s11 => uncons l10 fun c12 l13 => castBool c12 fun b14 => uncons l13 fun c15 l16 => uncons l16 fun c17 l18 => castInt .i64 c17 fun n19 => uncons l18 fun c20 l21 => castInt .i64 c20 fun n22 => uncons l21 fun c23 l24 => isNil l24 <| (vlen c23).bind fun k25 => (hcall G k n_impl_headOk [.str s11, c15, .int .i64 n19, .int .i64 n22] σ).bind fun q26 => castBool q26.1 fun b27 => bif !b27 then (some (.ret, [.box [a1, a2], .v (.bool false), .v (.int .i64 (IntKind.wrap .i64 (n3 + (k25 : Int))))], q26.2)) else ((hcall G k n_slices_ContainsFunc_impl_CodeIns_impl_CodeIns [c23, .fn n_impl_ObjOk_1 []] q26.2).bind fun q28 => castBool q28.1 fun b29 => bif b29 then (some (.ret, [.box [a1, a2], .v (.bool false), .v (.int .i64 (IntKind.wrap .i64 (n3 + (k25 : Int))))], q28.2)) else (impl_ObjOk.L0 k m [.box [a1, a2], .v (.int .i64 (IntKind.wrap .i64 (n3 + (k25 : Int)))), .v a4, .v (.int .i64 n5), .v (.int .i64 (IntKind.wrap .i64 (n6 + 1)))] q28.2))) else (some (.exit 0, [.box [a1, a2], .bot, .v (.int .i64 n3)], σ))) := by
  kernel_rfl
theorem impl_ObjOk.A0_x0 (k : Nat) (a1 : V) (a2 : V) (t3 : T) (n4 : Int) (σ : Heap) : impl_ObjOk.A0 k (.exit 0, [.box [a1, a2], t3, .v (.int .i64 n4)], σ) = ((vlen a1).bind fun k5 => bif decide ((k5 : Int) ≤ 40) then ((vlen a2).bind fun k6 => bif decide ((k6 : Int) ≤ 9) then (bif decide (n4 ≤ 460) then ((hcall G k n_slices_ContainsFunc_impl_CodeRef_impl_CodeRef [a1, .fn n_impl_ObjOk_2 []] σ).bind fun q7 => castBool q7.1 fun b8 => some (.bool (!b8), q7.2)) else (some (.bool false, σ))) else (some (.bool false, σ))) else (some (.bool false, σ))) := by
  kernel_rfl
theorem impl_ObjOk.A0_ret (k : Nat) (t1 : T) (b2 : Bool) (t3 : T) (σ : Heap) : impl_ObjOk.A0 k (.ret, [t1, .v (.bool b2), t3], σ) = (some (.bool b2, σ)) := by
  kernel_rfl

/-! loop.example/smithy/impl.TreeType: function 9 -/
theorem impl_TreeType.eq (k : Nat) (n1 : Int) (σ : Heap) : hcall G (k + 1) n_impl_TreeType [.int .i64 n1] σ = ((hcall G k n_impl_isType [.int .i64 n1] σ).bind fun q2 => castBool q2.1 fun b3 => bif !b3 then (some (.str (⟨#[]⟩ : ByteArray), q2.2)) else (if 0 ≤ IntKind.wrap .i64 (n1 - 1) ∧ IntKind.wrap .i64 (n1 - 1) < ((3 : Nat) : Int) then ((rdc q2.2 0 (0 + (IntKind.wrap .i64 (n1 - 1)).toNat * 1) 1).bind fun l5 => uncons l5 fun c6 l7 => castStr c6 fun s8 => isNil l7 <| some (.str s8, q2.2)) else none)) := by
  kernel_rfl

/-! loop.example/smithy/impl.typeList: function 37 -/
noncomputable def impl_typeList.L0 (k : Nat) : Nat → List T → Heap → Option (Ex × List T × Heap) := hloop (hx (G.env n_impl_typeList k) k 21 (subc (bodyOf Tryd.f37) [1, 1, 0, 1, 0, 0]) 0) 21 (G.msk n_impl_typeList 0).1 (G.msk n_impl_typeList 0).2
noncomputable def impl_typeList.A0 (k : Nat) : Ex × List T × Heap → Option (V × Heap) := fun r => aft (G.env n_impl_typeList k) k 21 (bodyOf Tryd.f37) [1, 1, 0, 1, 0] 0 (ck G.P Tryd.f37) r.1 (unpick 21 (G.msk n_impl_typeList 0).2 r.2.1) r.2.2
theorem impl_typeList.eq (k : Nat) (a1 : V) (σ : Heap) : hcall G (k + 1) n_impl_typeList [a1] σ = ((vlen a1).bind fun k2 => (impl_typeList.L0 k k [.v (.sl σ.length 0 0 true), .v a1, .v (.int .i64 (k2 : Int)), .v (.int .i64 0)] (hnew σ 1 [])).bind (impl_typeList.A0 k)) := by
  kernel_rfl
theorem impl_typeList.L0_step (k m : Nat) (a1 : V) (a2 : V) (n3 : Int) (n4 : Int) (σ : Heap) : impl_typeList.L0 k (m + 1) [.v a1, .v a2, .v (.int .i64 n3), .v (.int .i64 n4)] σ = (bif decide (n4 < n3) then ((vidx 1 a2 n4).bind fun p5 => (rdc σ p5.1 p5.2 1).bind fun l6 => uncons l6 fun c7 l8 => castInt .i64 c7 fun n9 => isNil l8 <| (hcall G k n_impl_TreeType [.int .i64 n9] σ).bind fun q10 => castStr q10.1 fun s11 => (vappend 1 16 q10.2 a1 1 [.str s11]).bind fun q12 => impl_typeList.L0 k m [.v q12.1, .v a2, .v (.int .i64 n3), .v (.int .i64 (IntKind.wrap .i64 (n4 + 1)))] q12.2) else (some (.exit 0, [.bot, .v a1], σ))) := by
  kernel_rfl
theorem impl_typeList.A0_x0 (k : Nat) (t1 : T) (a2 : V) (σ : Heap) : impl_typeList.A0 k (.exit 0, [t1, .v a2], σ) = ((hcall G k n_strings_Join [a2, .str (⟨#[44]⟩ : ByteArray)] σ).bind fun q3 => castStr q3.1 fun s4 => some (.str s4, q3.2)) := by
  kernel_rfl

/-! loop.example/smithy/impl.headText: function 65 -/
theorem impl_headText.eq (k : Nat) (a1 : V) (n2 : Int) (n3 : Int) (σ : Heap) : hcall G (k + 1) n_impl_headText [a1, .int .i64 n2, .int .i64 n3] σ = ((hcall G k n_impl_typeList [a1] σ).bind fun q4 => castStr q4.1 fun s5 => bif decide (s5 = (⟨#[]⟩ : ByteArray)) then (if (⟨#[45]⟩ : ByteArray).size + (⟨#[32]⟩ : ByteArray).size ≤ 2 ^ 62 then ((hcall G k n_impl_TreeType [.int .i64 n2] q4.2).bind fun q6 => castStr q6.1 fun s7 => if ((⟨#[45]⟩ : ByteArray) ++ (⟨#[32]⟩ : ByteArray)).size + s7.size ≤ 2 ^ 62 then (if (((⟨#[45]⟩ : ByteArray) ++ (⟨#[32]⟩ : ByteArray)) ++ s7).size + (⟨#[32]⟩ : ByteArray).size ≤ 2 ^ 62 then ((hcall G k n_strconv_Itoa [.int .i64 n3] q6.2).bind fun q8 => castStr q8.1 fun s9 => if ((((⟨#[45]⟩ : ByteArray) ++ (⟨#[32]⟩ : ByteArray)) ++ s7) ++ (⟨#[32]⟩ : ByteArray)).size + s9.size ≤ 2 ^ 62 then (some (.str (((((⟨#[45]⟩ : ByteArray) ++ (⟨#[32]⟩ : ByteArray)) ++ s7) ++ (⟨#[32]⟩ : ByteArray)) ++ s9), q8.2)) else none) else none) else none) else none) else (if s5.size + (⟨#[32]⟩ : ByteArray).size ≤ 2 ^ 62 then ((hcall G k n_impl_TreeType [.int .i64 n2] q4.2).bind fun q10 => castStr q10.1 fun s11 => if (s5 ++ (⟨#[32]⟩ : ByteArray)).size + s11.size ≤ 2 ^ 62 then (if ((s5 ++ (⟨#[32]⟩ : ByteArray)) ++ s11).size + (⟨#[32]⟩ : ByteArray).size ≤ 2 ^ 62 then ((hcall G k n_strconv_Itoa [.int .i64 n3] q10.2).bind fun q12 => castStr q12.1 fun s13 => if (((s5 ++ (⟨#[32]⟩ : ByteArray)) ++ s11) ++ (⟨#[32]⟩ : ByteArray)).size + s13.size ≤ 2 ^ 62 then (some (.str ((((s5 ++ (⟨#[32]⟩ : ByteArray)) ++ s11) ++ (⟨#[32]⟩ : ByteArray)) ++ s13), q12.2)) else none) else none) else none) else none)) := by
  kernel_rfl

/-! loop.example/smithy/impl.codeText: function 66 -/
noncomputable def impl_codeText.L0 (k : Nat) : Nat → List T → Heap → Option (Ex × List T × Heap) := hloop (hx (G.env n_impl_codeText k) k 26 (subc (bodyOf Tryd.f66) [1, 1, 0, 1, 0, 0]) 0) 26 (G.msk n_impl_codeText 0).1 (G.msk n_impl_codeText 0).2
noncomputable def impl_codeText.A0 (k : Nat) : Ex × List T × Heap → Option (V × Heap) := fun r => aft (G.env n_impl_codeText k) k 26 (bodyOf Tryd.f66) [1, 1, 0, 1, 0] 0 (ck G.P Tryd.f66) r.1 (unpick 26 (G.msk n_impl_codeText 0).2 r.2.1) r.2.2
theorem impl_codeText.eq (k : Nat) (a1 : V) (σ : Heap) : hcall G (k + 1) n_impl_codeText [a1] σ = ((vlen a1).bind fun k2 => (impl_codeText.L0 k k [.v (.ptr σ.length 0), .v a1, .v (.int .i64 (k2 : Int)), .v (.int .i64 0)] (hnewT σ 74 2 [.nilp, .nils])).bind (impl_codeText.A0 k)) := by
  kernel_rfl
theorem impl_codeText.L0_step (k m : Nat) (a1 : V) (a2 : V) (n3 : Int) (n4 : Int) (σ : Heap) : impl_codeText.L0 k (m + 1) [.v a1, .v a2, .v (.int .i64 n3), .v (.int .i64 n4)] σ = (bif decide (n4 < n3) then ((vidx 2 a2 n4).bind fun p5 => (rdc σ p5.1 p5.2 2).bind fun l6 => uncons l6 fun c7 l8 => castInt .i64 c7 fun n9 => uncons l8 fun c10 l11 => castInt .i64 c10 fun n12 => isNil l11 <| if 0 ≤ IntKind.wrap .i64 (n9 - 1) ∧ IntKind.wrap .i64 (n9 - 1) < ((10 : Nat) : Int) then ((rdc σ 1 (0 + (IntKind.wrap .i64 (n9 - 1)).toNat * 1) 1).bind fun l14 => uncons l14 fun c15 l16 => castStr c15 fun s17 => isNil l16 <| if s17.size + (⟨#[32]⟩ : ByteArray).size ≤ 2 ^ 62 then ((hcall G k n_strconv_Itoa [.int .i64 n12] (prot [1] σ)).bind fun q18 => castStr q18.1 fun s19 => if (s17 ++ (⟨#[32]⟩ : ByteArray)).size + s19.size ≤ 2 ^ 62 then (if ((s17 ++ (⟨#[32]⟩ : ByteArray)) ++ s19).size + (⟨#[10]⟩ : ByteArray).size ≤ 2 ^ 62 then ((hcall G k n_pstrings_Builder_WriteString [a1, .str (((s17 ++ (⟨#[32]⟩ : ByteArray)) ++ s19) ++ (⟨#[10]⟩ : ByteArray))] (prot [1] (unprot [1] σ q18.2))).bind fun q20 => castTuple q20.1 fun l21 => uncons l21 fun c22 l23 => castInt .i64 c22 fun n24 => uncons l23 fun c25 l26 => isNil l26 <| impl_codeText.L0 k m [.v a1, .v a2, .v (.int .i64 n3), .v (.int .i64 (IntKind.wrap .i64 (n4 + 1)))] (unprot [1] (unprot [1] σ q18.2) q20.2)) else none) else none) else none) else none) else (some (.exit 0, [.bot, .v a1], σ))) := by
  kernel_rfl
theorem impl_codeText.A0_x0 (k : Nat) (t1 : T) (a2 : V) (σ : Heap) : impl_codeText.A0 k (.exit 0, [t1, .v a2], σ) = ((hcall G k n_pstrings_Builder_String [a2] σ).bind fun q3 => castStr q3.1 fun s4 => some (.str s4, q3.2)) := by
  kernel_rfl

/-! loop.example/smithy/impl.ObjText: function 25 -/
noncomputable def impl_ObjText.L1 (k : Nat) : Nat → List T → Heap → Option (Ex × List T × Heap) := hloop (hx (G.env n_impl_ObjText k) k 62 (subc (bodyOf Tryd.f25) [1, 1, 1, 1, 1, 0, 1, 0, 0]) 2) 62 (G.msk n_impl_ObjText 2).1 (G.msk n_impl_ObjText 2).2
noncomputable def impl_ObjText.L0 (k : Nat) : Nat → List T → Heap → Option (Ex × List T × Heap) := hloop (hx (G.env n_impl_ObjText k) k 62 (subc (bodyOf Tryd.f25) [1, 1, 1, 1, 0, 1, 0, 0]) 0) 62 (G.msk n_impl_ObjText 0).1 (G.msk n_impl_ObjText 0).2
noncomputable def impl_ObjText.A0 (k : Nat) : Ex × List T × Heap → Option (V × Heap) := fun r => aft (G.env n_impl_ObjText k) k 62 (bodyOf Tryd.f25) [1, 1, 1, 1, 0, 1, 0] 0 (ck G.P Tryd.f25) r.1 (unpick 62 (G.msk n_impl_ObjText 0).2 r.2.1) r.2.2
noncomputable def impl_ObjText.A1 (k : Nat) : Ex × List T × Heap → Option (V × Heap) := fun r => aft (G.env n_impl_ObjText k) k 62 (bodyOf Tryd.f25) [1, 1, 1, 1, 1, 0, 1, 0] 0 (ck G.P Tryd.f25) r.1 (unpick 62 (G.msk n_impl_ObjText 2).2 r.2.1) r.2.2
theorem impl_ObjText.eq (k : Nat) (a1 : V) (a2 : V) (σ : Heap) : hcall G (k + 1) n_impl_ObjText [.agg [a1, a2]] σ = ((hcall G k n_impl_ObjOk [.agg [a1, a2]] σ).bind fun q3 => castBool q3.1 fun b4 => bif !b4 then (some (.str (⟨#[]⟩ : ByteArray), q3.2)) else ((hcall G k n_pstrings_Builder_WriteString [.ptr q3.2.length 0, .str (⟨#[111, 98, 106, 101, 99, 116, 10]⟩ : ByteArray)] (hnewT q3.2 74 2 [.nilp, .nils])).bind fun q5 => castTuple q5.1 fun l6 => uncons l6 fun c7 l8 => castInt .i64 c7 fun n9 => uncons l8 fun c10 l11 => isNil l11 <| (vlen a1).bind fun k12 => (impl_ObjText.L0 k k [.box [a1, a2], .v (.ptr q3.2.length 0), .v a1, .v (.int .i64 (k12 : Int)), .v (.int .i64 0)] q5.2).bind (impl_ObjText.A0 k))) := by
  kernel_rfl
theorem impl_ObjText.L0_step (k m : Nat) (a1 : V) (a2 : V) (a3 : V) (a4 : V) (n5 : Int) (n6 : Int) (σ : Heap) : impl_ObjText.L0 k (m + 1) [.box [a1, a2], .v a3, .v a4, .v (.int .i64 n5), .v (.int .i64 n6)] σ = (bif decide (n6 < n5) then ((vidx 2 a4 n6).bind fun p7 => (rdc σ p7.1 p7.2 2).bind fun l8 => uncons l8 fun c9 l10 => castStr c9 fun s11 => uncons l10 fun c12 l13 => castStr c12 fun s14 => isNil l13 <| if (⟨#[114, 101, 102, 32]⟩ : ByteArray).size + s11.size ≤ 2 ^ 62 then (if ((⟨#[114, 101, 102, 32]⟩ : ByteArray) ++ s11).size + (⟨#[46]⟩ : ByteArray).size ≤ 2 ^ 62 then (if (((⟨#[114, 101, 102, 32]⟩ : ByteArray) ++ s11) ++ (⟨#[46]⟩ : ByteArray)).size + s14.size ≤ 2 ^ 62 then (if ((((⟨#[114, 101, 102, 32]⟩ : ByteArray) ++ s11) ++ (⟨#[46]⟩ : ByteArray)) ++ s14).size + (⟨#[10]⟩ : ByteArray).size ≤ 2 ^ 62 then ((hcall G k n_pstrings_Builder_WriteString [a3, .str (((((⟨#[114, 101, 102, 32]⟩ : ByteArray) ++ s11) ++ (⟨#[46]⟩ : ByteArray)) ++ s14) ++ (⟨#[10]⟩ : ByteArray))] σ).bind fun q15 => castTuple q15.1 fun l16 => uncons l16 fun c17 l18 => castInt .i64 c17 fun n19 => uncons l18 fun c20 l21 => isNil l21 <| impl_ObjText.L0 k m [.box [a1, a2], .v a3, .v a4, .v (.int .i64 n5), .v (.int .i64 (IntKind.wrap .i64 (n6 + 1)))] q15.2) else none) else none) else none) else none) else (some (.exit 0, [.box [a1, a2], .bot, .v a3], σ))) := by
  kernel_rfl
theorem impl_ObjText.A0_x0 (k : Nat) (a1 : V) (a2 : V) (t3 : T) (a4 : V) (σ : Heap) : impl_ObjText.A0 k (.exit 0, [.box [a1, a2], t3, .v a4], σ) = ((vlen a2).bind fun k5 => (impl_ObjText.L1 k k [.v a4, .v a2, .v (.int .i64 (k5 : Int)), .v (.int .i64 0)] σ).bind (impl_ObjText.A1 k)) := by
  kernel_rfl
theorem impl_ObjText.L1_step (k m : Nat) (a1 : V) (a2 : V) (n3 : Int) (n4 : Int) (σ : Heap) : impl_ObjText.L1 k (m + 1) [.v a1, .v a2, .v (.int .i64 n3), .v (.int .i64 n4)] σ = (bif decide (n4 < n3) then ((vidx 6 a2 n4).bind fun p5 => (rdc σ p5.1 p5.2 6).bind fun l6 => uncons l6 fun c7 l8 => castStr c7 fun s9 => uncons l8 fun c10 l11 => castBool c10 fun b12 => uncons l11 fun c13 l14 => uncons l14 fun c15 l16 => castInt .i64 c15 fun n17 => uncons l16 fun c18 l19 => castInt .i64 c18 fun n20 => uncons l19 fun c21 l22 => isNil l22 <| bif b12 then (if (⟨#[102, 117, 110, 32]⟩ : ByteArray).size + s9.size ≤ 2 ^ 62 then (if ((⟨#[102, 117, 110, 32]⟩ : ByteArray) ++ s9).size + (⟨#[32]⟩ : ByteArray).size ≤ 2 ^ 62 then (if (((⟨#[102, 117, 110, 32]⟩ : ByteArray) ++ s9) ++ (⟨#[32]⟩ : ByteArray)).size + (⟨#[112, 117, 98]⟩ : ByteArray).size ≤ 2 ^ 62 then (if ((((⟨#[102, 117, 110, 32]⟩ : ByteArray) ++ s9) ++ (⟨#[32]⟩ : ByteArray)) ++ (⟨#[112, 117, 98]⟩ : ByteArray)).size + (⟨#[32]⟩ : ByteArray).size ≤ 2 ^ 62 then ((hcall G k n_impl_headText [c13, .int .i64 n17, .int .i64 n20] σ).bind fun q23 => castStr q23.1 fun s24 => if (((((⟨#[102, 117, 110, 32]⟩ : ByteArray) ++ s9) ++ (⟨#[32]⟩ : ByteArray)) ++ (⟨#[112, 117, 98]⟩ : ByteArray)) ++ (⟨#[32]⟩ : ByteArray)).size + s24.size ≤ 2 ^ 62 then (if ((((((⟨#[102, 117, 110, 32]⟩ : ByteArray) ++ s9) ++ (⟨#[32]⟩ : ByteArray)) ++ (⟨#[112, 117, 98]⟩ : ByteArray)) ++ (⟨#[32]⟩ : ByteArray)) ++ s24).size + (⟨#[10]⟩ : ByteArray).size ≤ 2 ^ 62 then ((hcall G k n_impl_codeText [c21] q23.2).bind fun q25 => castStr q25.1 fun s26 => if (((((((⟨#[102, 117, 110, 32]⟩ : ByteArray) ++ s9) ++ (⟨#[32]⟩ : ByteArray)) ++ (⟨#[112, 117, 98]⟩ : ByteArray)) ++ (⟨#[32]⟩ : ByteArray)) ++ s24) ++ (⟨#[10]⟩ : ByteArray)).size + s26.size ≤ 2 ^ 62 then ((hcall G k n_pstrings_Builder_WriteString [a1, .str ((((((((⟨#[102, 117, 110, 32]⟩ : ByteArray) ++ s9) ++ (⟨#[32]⟩ : ByteArray)) ++ (⟨#[112, 117, 98]⟩ : ByteArray)) ++ (⟨#[32]⟩ : ByteArray)) ++ s24) ++ (⟨#[10]⟩ : ByteArray)) ++ s26)] q25.2).bind fun q27 => castTuple q27.1 fun l28 => uncons l28 fun c29 l30 => castInt .i64 c29 fun n31 => uncons l30 fun c32 l33 => isNil l33 <| impl_ObjText.L1 k m [.v a1, .v a2, .v (.int .i64 n3), .v (.int .i64 (IntKind.wrap .i64 (n4 + 1)))] q27.2) else none) else none) else none) else none) else none) else none) else none) else (if (⟨#[102, 117, 110, 32]⟩ : ByteArray).size + s9.size ≤ 2 ^ 62 then (if ((⟨#[102, 117, 110, 32]⟩ : ByteArray) ++ s9).size + (⟨#[32]⟩ : ByteArray).size ≤ 2 ^ 62 then (if (((⟨#[102, 117, 110, 32]⟩ : ByteArray) ++ s9) ++ (⟨#[32]⟩ : ByteArray)).size + (⟨#[111, 119, 110]⟩ : ByteArray).size ≤ 2 ^ 62 then (if ((((⟨#[102, 117, 110, 32]⟩ : ByteArray) ++ s9) ++ (⟨#[32]⟩ : ByteArray)) ++ (⟨#[111, 119, 110]⟩ : ByteArray)).size + (⟨#[32]⟩ : ByteArray).size ≤ 2 ^ 62 then ((hcall G k n_impl_headText [c13, .int .i64 n17, .int .i64 n20] σ).bind fun q34 => castStr q34.1 fun s35 => if (((((⟨#[102, 117, 110, 32]⟩ : ByteArray) ++ s9) ++ (⟨#[32]⟩ : ByteArray)) ++ (⟨#[111, 119, 110]⟩ : ByteArray)) ++ (⟨#[32]⟩ : ByteArray)).size + s35.size ≤ 2 ^ 62 then (if ((((((⟨#[102, 117, 110, 32]⟩ : ByteArray) ++ s9) ++ (⟨#[32]⟩ : ByteArray)) ++ (⟨#[111, 119, 110]⟩ : ByteArray)) ++ (⟨#[32]⟩ : ByteArray)) ++ s35).size + (⟨#[10]⟩ : ByteArray).size ≤ 2 ^ 62 then ((hcall G k n_impl_codeText [c21] q34.2).bind fun q36 => castStr q36.1 fun s37 => if (((((((⟨#[102, 117, 110, 32]⟩ : ByteArray) ++ s9) ++ (⟨#[32]⟩ : ByteArray)) ++ (⟨#[111, 119, 110]⟩ : ByteArray)) ++ (⟨#[32]⟩ : ByteArray)) ++ s35) ++ (⟨#[10]⟩ : ByteArray)).size + s37.size ≤ 2 ^ 62 then ((hcall G k n_pstrings_Builder_WriteString [a1, .str ((((((((⟨#[102, 117, 110, 32]⟩ : ByteArray) ++ s9) ++ (⟨#[32]⟩ : ByteArray)) ++ (⟨#[111, 119, 110]⟩ : ByteArray)) ++ (⟨#[32]⟩ : ByteArray)) ++ s35) ++ (⟨#[10]⟩ : ByteArray)) ++ s37)] q36.2).bind fun q38 => castTuple q38.1 fun l39 => uncons l39 fun c40 l41 => castInt .i64 c40 fun n42 => uncons l41 fun c43 l44 => isNil l44 <| impl_ObjText.L1 k m [.v a1, .v a2, .v (.int .i64 n3), .v (.int .i64 (IntKind.wrap .i64 (n4 + 1)))] q38.2) else none) else none) else none) else none) else none) else none) else none)) else (some (.exit 2, [.bot, .v a1], σ))) := by
  kernel_rfl
theorem impl_ObjText.A1_x2 (k : Nat) (t1 : T) (a2 : V) (σ : Heap) : impl_ObjText.A1 k (.exit 2, [t1, .v a2], σ) = ((hcall G k n_pstrings_Builder_String [a2] σ).bind fun q3 => castStr q3.1 fun s4 => some (.str s4, q3.2)) := by
  kernel_rfl

/-! loop.example/smithy/laws.eqCodeRef: function 114 -/
theorem laws_eqCodeRef.eq (k : Nat) (s1 : ByteArray) (s2 : ByteArray) (s3 : ByteArray) (s4 : ByteArray) (σ : Heap) : hcall G (k + 1) n_laws_eqCodeRef [.agg [.str s1, .str s2], .agg [.str s3, .str s4]] σ = (bif !decide (s1 = s3) then (some (.bool false, σ)) else (bif !decide (s2 = s4) then (some (.bool false, σ)) else (some (.bool true, σ)))) := by
  kernel_rfl

/-! loop.example/smithy/laws.eqCodeRefS: function 67 -/
noncomputable def laws_eqCodeRefS.L0 (k : Nat) : Nat → List T → Heap → Option (Ex × List T × Heap) := hloop (hx (G.env n_laws_eqCodeRefS k) k 27 (subc (bodyOf Tryd.f67) [1, 1, 0, 1, 0, 0]) 0) 27 (G.msk n_laws_eqCodeRefS 0).1 (G.msk n_laws_eqCodeRefS 0).2
noncomputable def laws_eqCodeRefS.A0 (k : Nat) : Ex × List T × Heap → Option (V × Heap) := fun r => aft (G.env n_laws_eqCodeRefS k) k 27 (bodyOf Tryd.f67) [1, 1, 0, 1, 0] 0 (ck G.P Tryd.f67) r.1 (unpick 27 (G.msk n_laws_eqCodeRefS 0).2 r.2.1) r.2.2
theorem laws_eqCodeRefS.eq (k : Nat) (a1 : V) (a2 : V) (σ : Heap) : hcall G (k + 1) n_laws_eqCodeRefS [a1, a2] σ = ((vlen a1).bind fun k3 => (vlen a2).bind fun k4 => bif !decide ((k3 : Int) = (k4 : Int)) then (some (.bool false, σ)) else ((laws_eqCodeRefS.L0 k k [.v a1, .v a2, .v (.int .i64 0)] σ).bind (laws_eqCodeRefS.A0 k))) := by
  kernel_rfl
theorem laws_eqCodeRefS.L0_step (k m : Nat) (a1 : V) (a2 : V) (n3 : Int) (σ : Heap) : laws_eqCodeRefS.L0 k (m + 1) [.v a1, .v a2, .v (.int .i64 n3)] σ = ((vlen a1).bind fun k4 => bif decide (n3 < (k4 : Int)) then ((vidx 2 a1 n3).bind fun p5 => (rdc σ p5.1 p5.2 2).bind fun l6 => uncons l6 fun c7 l8 => castStr c7 fun s9 => uncons l8 fun c10 l11 => castStr c10 fun s12 => isNil l11 <| (vidx 2 a2 n3).bind fun p13 => (rdc σ p13.1 p13.2 2).bind fun l14 => uncons l14 fun c15 l16 => castStr c15 fun s17 => uncons l16 fun c18 l19 => castStr c18 fun s20 => isNil l19 <| (hcall G k n_laws_eqCodeRef [.agg [.str s9, .str s12], .agg [.str s17, .str s20]] σ).bind fun q21 => castBool q21.1 fun b22 => bif !b22 then (some (.ret, [.v (.bool false)], q21.2)) else (laws_eqCodeRefS.L0 k m [.v a1, .v a2, .v (.int .i64 (IntKind.wrap .i64 (n3 + 1)))] q21.2)) else (some (.exit 0, [.bot], σ))) := by
  kernel_rfl
theorem laws_eqCodeRefS.A0_x0 (k : Nat) (t1 : T) (σ : Heap) : laws_eqCodeRefS.A0 k (.exit 0, [t1], σ) = (some (.bool true, σ)) := by
  kernel_rfl
theorem laws_eqCodeRefS.A0_ret (k : Nat) (b1 : Bool) (σ : Heap) : laws_eqCodeRefS.A0 k (.ret, [.v (.bool b1)], σ) = (some (.bool b1, σ)) := by
  kernel_rfl

/-! loop.example/smithy/laws.eqIntS: function 79 -/
noncomputable def laws_eqIntS.L0 (k : Nat) : Nat → List T → Heap → Option (Ex × List T × Heap) := hloop (hx (G.env n_laws_eqIntS k) k 26 (subc (bodyOf Tryd.f79) [1, 1, 0, 1, 0, 0]) 0) 26 (G.msk n_laws_eqIntS 0).1 (G.msk n_laws_eqIntS 0).2
noncomputable def laws_eqIntS.A0 (k : Nat) : Ex × List T × Heap → Option (V × Heap) := fun r => aft (G.env n_laws_eqIntS k) k 26 (bodyOf Tryd.f79) [1, 1, 0, 1, 0] 0 (ck G.P Tryd.f79) r.1 (unpick 26 (G.msk n_laws_eqIntS 0).2 r.2.1) r.2.2
theorem laws_eqIntS.eq (k : Nat) (a1 : V) (a2 : V) (σ : Heap) : hcall G (k + 1) n_laws_eqIntS [a1, a2] σ = ((vlen a1).bind fun k3 => (vlen a2).bind fun k4 => bif !decide ((k3 : Int) = (k4 : Int)) then (some (.bool false, σ)) else ((laws_eqIntS.L0 k k [.v a1, .v a2, .v (.int .i64 0)] σ).bind (laws_eqIntS.A0 k))) := by
  kernel_rfl
theorem laws_eqIntS.L0_step (k m : Nat) (a1 : V) (a2 : V) (n3 : Int) (σ : Heap) : laws_eqIntS.L0 k (m + 1) [.v a1, .v a2, .v (.int .i64 n3)] σ = ((vlen a1).bind fun k4 => bif decide (n3 < (k4 : Int)) then ((vidx 1 a1 n3).bind fun p5 => (rdc σ p5.1 p5.2 1).bind fun l6 => uncons l6 fun c7 l8 => castInt .i64 c7 fun n9 => isNil l8 <| (vidx 1 a2 n3).bind fun p10 => (rdc σ p10.1 p10.2 1).bind fun l11 => uncons l11 fun c12 l13 => castInt .i64 c12 fun n14 => isNil l13 <| bif !decide (n9 = n14) then (some (.ret, [.v (.bool false)], σ)) else (laws_eqIntS.L0 k m [.v a1, .v a2, .v (.int .i64 (IntKind.wrap .i64 (n3 + 1)))] σ)) else (some (.exit 0, [.bot], σ))) := by
  kernel_rfl
theorem laws_eqIntS.A0_x0 (k : Nat) (t1 : T) (σ : Heap) : laws_eqIntS.A0 k (.exit 0, [t1], σ) = (some (.bool true, σ)) := by
  kernel_rfl
theorem laws_eqIntS.A0_ret (k : Nat) (b1 : Bool) (σ : Heap) : laws_eqIntS.A0 k (.ret, [.v (.bool b1)], σ) = (some (.bool b1, σ)) := by
  kernel_rfl

/-! loop.example/smithy/laws.eqCodeIns: function 161 -/
theorem laws_eqCodeIns.eq (k : Nat) (n1 : Int) (n2 : Int) (n3 : Int) (n4 : Int) (σ : Heap) : hcall G (k + 1) n_laws_eqCodeIns [.agg [.int .i64 n1, .int .i64 n2], .agg [.int .i64 n3, .int .i64 n4]] σ = (bif !decide (n1 = n3) then (some (.bool false, σ)) else (bif !decide (n2 = n4) then (some (.bool false, σ)) else (some (.bool true, σ)))) := by
  kernel_rfl

/-! loop.example/smithy/laws.eqCodeInsS: function 141 -/
noncomputable def laws_eqCodeInsS.L0 (k : Nat) : Nat → List T → Heap → Option (Ex × List T × Heap) := hloop (hx (G.env n_laws_eqCodeInsS k) k 27 (subc (bodyOf Tryd.f141) [1, 1, 0, 1, 0, 0]) 0) 27 (G.msk n_laws_eqCodeInsS 0).1 (G.msk n_laws_eqCodeInsS 0).2
noncomputable def laws_eqCodeInsS.A0 (k : Nat) : Ex × List T × Heap → Option (V × Heap) := fun r => aft (G.env n_laws_eqCodeInsS k) k 27 (bodyOf Tryd.f141) [1, 1, 0, 1, 0] 0 (ck G.P Tryd.f141) r.1 (unpick 27 (G.msk n_laws_eqCodeInsS 0).2 r.2.1) r.2.2
theorem laws_eqCodeInsS.eq (k : Nat) (a1 : V) (a2 : V) (σ : Heap) : hcall G (k + 1) n_laws_eqCodeInsS [a1, a2] σ = ((vlen a1).bind fun k3 => (vlen a2).bind fun k4 => bif !decide ((k3 : Int) = (k4 : Int)) then (some (.bool false, σ)) else ((laws_eqCodeInsS.L0 k k [.v a1, .v a2, .v (.int .i64 0)] σ).bind (laws_eqCodeInsS.A0 k))) := by
  kernel_rfl
theorem laws_eqCodeInsS.L0_step (k m : Nat) (a1 : V) (a2 : V) (n3 : Int) (σ : Heap) : laws_eqCodeInsS.L0 k (m + 1) [.v a1, .v a2, .v (.int .i64 n3)] σ = ((vlen a1).bind fun k4 => bif decide (n3 < (k4 : Int)) then ((vidx 2 a1 n3).bind fun p5 => (rdc σ p5.1 p5.2 2).bind fun l6 => uncons l6 fun c7 l8 => castInt .i64 c7 fun n9 => uncons l8 fun c10 l11 => castInt .i64 c10 fun n12 => isNil l11 <| (vidx 2 a2 n3).bind fun p13 => (rdc σ p13.1 p13.2 2).bind fun l14 => uncons l14 fun c15 l16 => castInt .i64 c15 fun n17 => uncons l16 fun c18 l19 => castInt .i64 c18 fun n20 => isNil l19 <| (hcall G k n_laws_eqCodeIns [.agg [.int .i64 n9, .int .i64 n12], .agg [.int .i64 n17, .int .i64 n20]] σ).bind fun q21 => castBool q21.1 fun b22 => bif !b22 then (some (.ret, [.v (.bool false)], q21.2)) else (laws_eqCodeInsS.L0 k m [.v a1, .v a2, .v (.int .i64 (IntKind.wrap .i64 (n3 + 1)))] q21.2)) else (some (.exit 0, [.bot], σ))) := by
  kernel_rfl
theorem laws_eqCodeInsS.A0_x0 (k : Nat) (t1 : T) (σ : Heap) : laws_eqCodeInsS.A0 k (.exit 0, [t1], σ) = (some (.bool true, σ)) := by
  kernel_rfl
theorem laws_eqCodeInsS.A0_ret (k : Nat) (b1 : Bool) (σ : Heap) : laws_eqCodeInsS.A0 k (.ret, [.v (.bool b1)], σ) = (some (.bool b1, σ)) := by
  kernel_rfl

/-! loop.example/smithy/laws.eqCodeFun: function 115 -/
theorem laws_eqCodeFun.eq (k : Nat) (s1 : ByteArray) (b2 : Bool) (a3 : V) (n4 : Int) (n5 : Int) (a6 : V) (s7 : ByteArray) (b8 : Bool) (a9 : V) (n10 : Int) (n11 : Int) (a12 : V) (σ : Heap) : hcall G (k + 1) n_laws_eqCodeFun [.agg [.str s1, .bool b2, a3, .int .i64 n4, .int .i64 n5, a6], .agg [.str s7, .bool b8, a9, .int .i64 n10, .int .i64 n11, a12]] σ = (bif !decide (s1 = s7) then (some (.bool false, σ)) else (bif !(b2 == b8) then (some (.bool false, σ)) else ((hcall G k n_laws_eqIntS [a3, a9] σ).bind fun q13 => castBool q13.1 fun b14 => bif !b14 then (some (.bool false, q13.2)) else (bif !decide (n4 = n10) then (some (.bool false, q13.2)) else (bif !decide (n5 = n11) then (some (.bool false, q13.2)) else ((hcall G k n_laws_eqCodeInsS [a6, a12] q13.2).bind fun q15 => castBool q15.1 fun b16 => bif !b16 then (some (.bool false, q15.2)) else (some (.bool true, q15.2)))))))) := by
  kernel_rfl

/-! loop.example/smithy/laws.eqCodeFunS: function 68 -/
noncomputable def laws_eqCodeFunS.L0 (k : Nat) : Nat → List T → Heap → Option (Ex × List T × Heap) := hloop (hx (G.env n_laws_eqCodeFunS k) k 27 (subc (bodyOf Tryd.f68) [1, 1, 0, 1, 0, 0]) 0) 27 (G.msk n_laws_eqCodeFunS 0).1 (G.msk n_laws_eqCodeFunS 0).2
noncomputable def laws_eqCodeFunS.A0 (k : Nat) : Ex × List T × Heap → Option (V × Heap) := fun r => aft (G.env n_laws_eqCodeFunS k) k 27 (bodyOf Tryd.f68) [1, 1, 0, 1, 0] 0 (ck G.P Tryd.f68) r.1 (unpick 27 (G.msk n_laws_eqCodeFunS 0).2 r.2.1) r.2.2
theorem laws_eqCodeFunS.eq (k : Nat) (a1 : V) (a2 : V) (σ : Heap) : hcall G (k + 1) n_laws_eqCodeFunS [a1, a2] σ = ((vlen a1).bind fun k3 => (vlen a2).bind fun k4 => bif !decide ((k3 : Int) = (k4 : Int)) then (some (.bool false, σ)) else ((laws_eqCodeFunS.L0 k k [.v a1, .v a2, .v (.int .i64 0)] σ).bind (laws_eqCodeFunS.A0 k))) := by
  kernel_rfl
theorem laws_eqCodeFunS.L0_step (k m : Nat) (a1 : V) (a2 : V) (n3 : Int) (σ : Heap) : laws_eqCodeFunS.L0 k (m + 1) [.v a1, .v a2, .v (.int .i64 n3)] σ = ((vlen a1).bind fun k4 => bif decide (n3 < (k4 : Int)) then ((vidx 6 a1 n3).bind fun p5 => (rdc σ p5.1 p5.2 6).bind fun l6 => uncons l6 fun c7 l8 => castStr c7 fun s9 => uncons l8 fun c10 l11 => castBool c10 fun b12 => uncons l11 fun c13 l14 => uncons l14 fun c15 l16 => castInt .i64 c15 fun n17 => uncons l16 fun c18 l19 => castInt .i64 c18 fun n20 => uncons l19 fun c21 l22 => isNil l22 <| (vidx 6 a2 n3).bind fun p23 => (rdc σ p23.1 p23.2 6).bind fun l24 => uncons l24 fun c25 l26 => castStr c25 fun s27 => uncons l26 fun c28 l29 => castBool c28 fun b30 => uncons l29 fun c31 l32 => uncons l32 fun c33 l34 => castInt .i64 c33 fun n35 => uncons l34 fun c36 l37 => castInt .i64 c36 fun n38 => uncons l37 fun c39 l40 => isNil l40 <| (hcall G k n_laws_eqCodeFun [.agg [.str s9, .bool b12, c13, .int .i64 n17, .int .i64 n20, c21], .agg [.str s27, .bool b30, c31, .int .i64 n35, .int .i64 n38, c39]] σ).bind fun q41 => castBool q41.1 fun b42 => bif !b42 then (some (.ret, [.v (.bool false)], q41.2)) else (laws_eqCodeFunS.L0 k m [.v a1, .v a2, .v (.int .i64 (IntKind.wrap .i64 (n3 + 1)))] q41.2)) else (some (.exit 0, [.bot], σ))) := by
  kernel_rfl
theorem laws_eqCodeFunS.A0_x0 (k : Nat) (t1 : T) (σ : Heap) : laws_eqCodeFunS.A0 k (.exit 0, [t1], σ) = (some (.bool true, σ)) := by
  kernel_rfl
theorem laws_eqCodeFunS.A0_ret (k : Nat) (b1 : Bool) (σ : Heap) : laws_eqCodeFunS.A0 k (.ret, [.v (.bool b1)], σ) = (some (.bool b1, σ)) := by
  kernel_rfl

/-! loop.example/smithy/laws.eqCodeObj: function 26 -/
theorem laws_eqCodeObj.eq (k : Nat) (a1 : V) (a2 : V) (a3 : V) (a4 : V) (σ : Heap) : hcall G (k + 1) n_laws_eqCodeObj [.agg [a1, a2], .agg [a3, a4]] σ = ((hcall G k n_laws_eqCodeRefS [a1, a3] σ).bind fun q5 => castBool q5.1 fun b6 => bif !b6 then (some (.bool false, q5.2)) else ((hcall G k n_laws_eqCodeFunS [a2, a4] q5.2).bind fun q7 => castBool q7.1 fun b8 => bif !b8 then (some (.bool false, q7.2)) else (some (.bool true, q7.2)))) := by
  kernel_rfl

/-! loop.example/smithy/laws.FnExactObjText: function 7 -/
theorem laws_FnExactObjText.eq (k : Nat) (a1 : V) (a2 : V) (σ : Heap) : hcall G (k + 1) n_laws_FnExactObjText [.agg [a1, a2]] σ = ((hcall G k n_laws_szCodeObj [.agg [a1, a2], .int .i64 1048576] σ).bind fun q3 => castInt .i64 q3.1 fun n4 => bif decide (n4 < 0) then (some (.bool true, q3.2)) else ((hcall G k n_laws_toCodeObj [.agg [a1, a2]] q3.2).bind fun q5 => castAgg q5.1 fun l6 => uncons l6 fun c7 l8 => uncons l8 fun c9 l10 => isNil l10 <| (hcall G k n_spec_ObjText [.agg [c7, c9]] q5.2).bind fun q11 => castStr q11.1 fun s12 => (hcall G k n_laws_toCodeObj [.agg [a1, a2]] q11.2).bind fun q13 => castAgg q13.1 fun l14 => uncons l14 fun c15 l16 => uncons l16 fun c17 l18 => isNil l18 <| (hcall G k n_impl_ObjText [.agg [c15, c17]] q13.2).bind fun q19 => castStr q19.1 fun s20 => bif !decide (s20 = s12) then (some (.bool false, q19.2)) else ((hcall G k n_laws_toCodeObj [.agg [a1, a2]] q19.2).bind fun q21 => castAgg q21.1 fun l22 => uncons l22 fun c23 l24 => uncons l24 fun c25 l26 => isNil l26 <| (hcall G k n_laws_eqCodeObj [.agg [c15, c17], .agg [c23, c25]] q21.2).bind fun q27 => castBool q27.1 fun b28 => bif !b28 then (some (.bool false, q27.2)) else (some (.bool true, q27.2))))) := by
  kernel_rfl

/-! loop.example/smithy/impl.decimal: function 29 -/
theorem impl_decimal.eq (k : Nat) (s1 : ByteArray) (σ : Heap) : hcall G (k + 1) n_impl_decimal [.str s1] σ = ((hcall G k n_strconv_Atoi [.str s1] σ).bind fun q2 => castTuple q2.1 fun l3 => uncons l3 fun c4 l5 => castInt .i64 c4 fun n6 => uncons l5 fun c7 l8 => isNil l8 <| (nilI c7).bind fun b9 => bif b9 then ((hcall G k n_strconv_Itoa [.int .i64 n6] q2.2).bind fun q10 => castStr q10.1 fun s11 => some (.tuple [.int .i64 n6, .bool (decide (s11 = s1))], q10.2)) else (some (.tuple [.int .i64 n6, .bool false], q2.2))) := by
  kernel_rfl

/-! loop.example/smithy/impl.LexNum: function 11 -/
theorem impl_LexNum.eq (k : Nat) (s1 : ByteArray) (σ : Heap) : hcall G (k + 1) n_impl_LexNum [.str s1] σ = ((hcall G k n_impl_decimal [.str s1] σ).bind fun q2 => castTuple q2.1 fun l3 => uncons l3 fun c4 l5 => castInt .i64 c4 fun n6 => uncons l5 fun c7 l8 => castBool c7 fun b9 => isNil l8 <| bif !b9 then (some (.tuple [.int .i64 0, .bool false], q2.2)) else ((hcall G k n_impl_isShort [.int .i64 n6] q2.2).bind fun q10 => castBool q10.1 fun b11 => bif !b11 then (some (.tuple [.int .i64 0, .bool false], q10.2)) else (some (.tuple [.int .i64 n6, .bool true], q10.2)))) := by
  kernel_rfl

/-! loop.example/smithy/laws.szFaceSig: function 31 -/
theorem laws_szFaceSig.eq (k : Nat) (s1 : ByteArray) (a2 : V) (n3 : Int) (n4 : Int) (σ : Heap) : hcall G (k + 1) n_laws_szFaceSig [.agg [.str s1, a2, .int .i64 n3], .int .i64 n4] σ = (bif decide (IntKind.wrap .i64 (n4 - (s1.size : Int)) < 0) then (some (.int .i64 (-1), σ)) else ((hcall G k n_laws_szIntS [a2, .int .i64 (IntKind.wrap .i64 (n4 - (s1.size : Int)))] σ).bind fun q5 => castInt .i64 q5.1 fun n6 => bif decide (n6 < 0) then (some (.int .i64 (-1), q5.2)) else (some (.int .i64 n6, q5.2)))) := by
  kernel_rfl

/-! loop.example/smithy/laws.szFaceSigS: function 12 -/
noncomputable def laws_szFaceSigS.L0 (k : Nat) : Nat → List T → Heap → Option (Ex × List T × Heap) := hloop (hx (G.env n_laws_szFaceSigS k) k 27 (subc (bodyOf Tryd.f12) [1, 1, 1, 0, 1, 0, 0]) 0) 27 (G.msk n_laws_szFaceSigS 0).1 (G.msk n_laws_szFaceSigS 0).2
noncomputable def laws_szFaceSigS.A0 (k : Nat) : Ex × List T × Heap → Option (V × Heap) := fun r => aft (G.env n_laws_szFaceSigS k) k 27 (bodyOf Tryd.f12) [1, 1, 1, 0, 1, 0] 0 (ck G.P Tryd.f12) r.1 (unpick 27 (G.msk n_laws_szFaceSigS 0).2 r.2.1) r.2.2
theorem laws_szFaceSigS.eq (k : Nat) (a1 : V) (n2 : Int) (σ : Heap) : hcall G (k + 1) n_laws_szFaceSigS [a1, .int .i64 n2] σ = ((vlen a1).bind fun k3 => bif decide (IntKind.wrap .i64 (n2 - (k3 : Int)) < 0) then (some (.int .i64 (-1), σ)) else ((laws_szFaceSigS.L0 k k [.v a1, .v (.int .i64 (IntKind.wrap .i64 (n2 - (k3 : Int)))), .v (.int .i64 0)] σ).bind (laws_szFaceSigS.A0 k))) := by
  kernel_rfl
theorem laws_szFaceSigS.L0_step (k m : Nat) (a1 : V) (n2 : Int) (n3 : Int) (σ : Heap) : laws_szFaceSigS.L0 k (m + 1) [.v a1, .v (.int .i64 n2), .v (.int .i64 n3)] σ = ((vlen a1).bind fun k4 => bif decide (n3 < (k4 : Int)) then ((vidx 3 a1 n3).bind fun p5 => (rdc σ p5.1 p5.2 3).bind fun l6 => uncons l6 fun c7 l8 => castStr c7 fun s9 => uncons l8 fun c10 l11 => uncons l11 fun c12 l13 => castInt .i64 c12 fun n14 => isNil l13 <| (hcall G k n_laws_szFaceSig [.agg [.str s9, c10, .int .i64 n14], .int .i64 n2] σ).bind fun q15 => castInt .i64 q15.1 fun n16 => bif decide (n16 < 0) then (some (.ret, [.v (.int .i64 n16), .v (.int .i64 (-1))], q15.2)) else (laws_szFaceSigS.L0 k m [.v a1, .v (.int .i64 n16), .v (.int .i64 (IntKind.wrap .i64 (n3 + 1)))] q15.2)) else (some (.exit 0, [.v (.int .i64 n2), .bot], σ))) := by
  kernel_rfl
theorem laws_szFaceSigS.A0_x0 (k : Nat) (n1 : Int) (t2 : T) (σ : Heap) : laws_szFaceSigS.A0 k (.exit 0, [.v (.int .i64 n1), t2], σ) = (some (.int .i64 n1, σ)) := by
  kernel_rfl
theorem laws_szFaceSigS.A0_ret (k : Nat) (t1 : T) (n2 : Int) (σ : Heap) : laws_szFaceSigS.A0 k (.ret, [t1, .v (.int .i64 n2)], σ) = (some (.int .i64 n2, σ)) := by
  kernel_rfl

/-! loop.example/smithy/laws.toFaceSig: function 34 -/
theorem laws_toFaceSig.eq (k : Nat) (s1 : ByteArray) (a2 : V) (n3 : Int) (σ : Heap) : hcall G (k + 1) n_laws_toFaceSig [.agg [.str s1, a2, .int .i64 n3]] σ = ((hcall G k n_laws_toIntS [a2] σ).bind fun q4 => one q4.1 <| some (.agg [.str s1, q4.1, .int .i64 n3], q4.2)) := by
  kernel_rfl

/-! loop.example/smithy/laws.toFaceSigS: function 14 -/
noncomputable def laws_toFaceSigS.L0 (k : Nat) : Nat → List T → Heap → Option (Ex × List T × Heap) := hloop (hx (G.env n_laws_toFaceSigS k) k 23 (subc (bodyOf Tryd.f14) [1, 1, 0, 1, 0, 0]) 0) 23 (G.msk n_laws_toFaceSigS 0).1 (G.msk n_laws_toFaceSigS 0).2
noncomputable def laws_toFaceSigS.A0 (k : Nat) : Ex × List T × Heap → Option (V × Heap) := fun r => aft (G.env n_laws_toFaceSigS k) k 23 (bodyOf Tryd.f14) [1, 1, 0, 1, 0] 0 (ck G.P Tryd.f14) r.1 (unpick 23 (G.msk n_laws_toFaceSigS 0).2 r.2.1) r.2.2
theorem laws_toFaceSigS.eq (k : Nat) (a1 : V) (σ : Heap) : hcall G (k + 1) n_laws_toFaceSigS [a1] σ = ((vlen a1).bind fun k2 => if 0 ≤ (k2 : Int) ∧ (k2 : Int) * 48 ≤ 2 ^ 46 ∧ (k2 : Int) ≤ 2 ^ 46 then ((laws_toFaceSigS.L0 k k [.v a1, .v (.sl σ.length 0 ((k2 : Int) : Int).toNat true), .v (.int .i64 0)] (hnew σ 3 (List.replicate ((k2 : Int) : Int).toNat [.str (⟨#[]⟩ : ByteArray), .nils, .int .i64 0]).flatten)).bind (laws_toFaceSigS.A0 k)) else none) := by
  kernel_rfl
theorem laws_toFaceSigS.L0_step (k m : Nat) (a1 : V) (a2 : V) (n3 : Int) (σ : Heap) : laws_toFaceSigS.L0 k (m + 1) [.v a1, .v a2, .v (.int .i64 n3)] σ = ((vlen a1).bind fun k4 => bif decide (n3 < (k4 : Int)) then ((vidx 3 a1 n3).bind fun p5 => (rdc σ p5.1 p5.2 3).bind fun l6 => uncons l6 fun c7 l8 => castStr c7 fun s9 => uncons l8 fun c10 l11 => uncons l11 fun c12 l13 => castInt .i64 c12 fun n14 => isNil l13 <| (hcall G k n_laws_toFaceSig [.agg [.str s9, c10, .int .i64 n14]] σ).bind fun q15 => castAgg q15.1 fun l16 => uncons l16 fun c17 l18 => castStr c17 fun s19 => uncons l18 fun c20 l21 => uncons l21 fun c22 l23 => castInt .i64 c22 fun n24 => isNil l23 <| (vidx 3 a2 n3).bind fun p25 => (wrc q15.2 p25.1 p25.2 [.str s19, c20, .int .i64 n24]).bind fun h26 => laws_toFaceSigS.L0 k m [.v a1, .v a2, .v (.int .i64 (IntKind.wrap .i64 (n3 + 1)))] h26) else (some (.exit 0, [.bot, .v a2], σ))) := by
  kernel_rfl
theorem laws_toFaceSigS.A0_x0 (k : Nat) (t1 : T) (a2 : V) (σ : Heap) : laws_toFaceSigS.A0 k (.exit 0, [t1, .v a2], σ) = (some (a2, σ)) := by
  kernel_rfl

/-! loop.example/smithy/laws.eqFaceSig: function 39 -/
theorem laws_eqFaceSig.eq (k : Nat) (s1 : ByteArray) (a2 : V) (n3 : Int) (s4 : ByteArray) (a5 : V) (n6 : Int) (σ : Heap) : hcall G (k + 1) n_laws_eqFaceSig [.agg [.str s1, a2, .int .i64 n3], .agg [.str s4, a5, .int .i64 n6]] σ = (bif !decide (s1 = s4) then (some (.bool false, σ)) else ((hcall G k n_laws_eqIntS [a2, a5] σ).bind fun q7 => castBool q7.1 fun b8 => bif !b8 then (some (.bool false, q7.2)) else (bif !decide (n3 = n6) then (some (.bool false, q7.2)) else (some (.bool true, q7.2))))) := by
  kernel_rfl

/-! loop.example/smithy/laws.eqFaceSigS: function 16 -/
noncomputable def laws_eqFaceSigS.L0 (k : Nat) : Nat → List T → Heap → Option (Ex × List T × Heap) := hloop (hx (G.env n_laws_eqFaceSigS k) k 27 (subc (bodyOf Tryd.f16) [1, 1, 0, 1, 0, 0]) 0) 27 (G.msk n_laws_eqFaceSigS 0).1 (G.msk n_laws_eqFaceSigS 0).2
noncomputable def laws_eqFaceSigS.A0 (k : Nat) : Ex × List T × Heap → Option (V × Heap) := fun r => aft (G.env n_laws_eqFaceSigS k) k 27 (bodyOf Tryd.f16) [1, 1, 0, 1, 0] 0 (ck G.P Tryd.f16) r.1 (unpick 27 (G.msk n_laws_eqFaceSigS 0).2 r.2.1) r.2.2
theorem laws_eqFaceSigS.eq (k : Nat) (a1 : V) (a2 : V) (σ : Heap) : hcall G (k + 1) n_laws_eqFaceSigS [a1, a2] σ = ((vlen a1).bind fun k3 => (vlen a2).bind fun k4 => bif !decide ((k3 : Int) = (k4 : Int)) then (some (.bool false, σ)) else ((laws_eqFaceSigS.L0 k k [.v a1, .v a2, .v (.int .i64 0)] σ).bind (laws_eqFaceSigS.A0 k))) := by
  kernel_rfl
theorem laws_eqFaceSigS.L0_step (k m : Nat) (a1 : V) (a2 : V) (n3 : Int) (σ : Heap) : laws_eqFaceSigS.L0 k (m + 1) [.v a1, .v a2, .v (.int .i64 n3)] σ = ((vlen a1).bind fun k4 => bif decide (n3 < (k4 : Int)) then ((vidx 3 a1 n3).bind fun p5 => (rdc σ p5.1 p5.2 3).bind fun l6 => uncons l6 fun c7 l8 => castStr c7 fun s9 => uncons l8 fun c10 l11 => uncons l11 fun c12 l13 => castInt .i64 c12 fun n14 => isNil l13 <| (vidx 3 a2 n3).bind fun p15 => (rdc σ p15.1 p15.2 3).bind fun l16 => uncons l16 fun c17 l18 => castStr c17 fun s19 => uncons l18 fun c20 l21 => uncons l21 fun c22 l23 => castInt .i64 c22 fun n24 => isNil l23 <| (hcall G k n_laws_eqFaceSig [.agg [.str s9, c10, .int .i64 n14], .agg [.str s19, c20, .int .i64 n24]] σ).bind fun q25 => castBool q25.1 fun b26 => bif !b26 then (some (.ret, [.v (.bool false)], q25.2)) else (laws_eqFaceSigS.L0 k m [.v a1, .v a2, .v (.int .i64 (IntKind.wrap .i64 (n3 + 1)))] q25.2)) else (some (.exit 0, [.bot], σ))) := by
  kernel_rfl
theorem laws_eqFaceSigS.A0_x0 (k : Nat) (t1 : T) (σ : Heap) : laws_eqFaceSigS.A0 k (.exit 0, [t1], σ) = (some (.bool true, σ)) := by
  kernel_rfl
theorem laws_eqFaceSigS.A0_ret (k : Nat) (b1 : Bool) (σ : Heap) : laws_eqFaceSigS.A0 k (.ret, [.v (.bool b1)], σ) = (some (.bool b1, σ)) := by
  kernel_rfl

/-! loop.example/smithy/laws.szStringS: function 40 -/
noncomputable def laws_szStringS.L0 (k : Nat) : Nat → List T → Heap → Option (Ex × List T × Heap) := hloop (hx (G.env n_laws_szStringS k) k 28 (subc (bodyOf Tryd.f40) [1, 1, 1, 0, 1, 0, 0]) 0) 28 (G.msk n_laws_szStringS 0).1 (G.msk n_laws_szStringS 0).2
noncomputable def laws_szStringS.A0 (k : Nat) : Ex × List T × Heap → Option (V × Heap) := fun r => aft (G.env n_laws_szStringS k) k 28 (bodyOf Tryd.f40) [1, 1, 1, 0, 1, 0] 0 (ck G.P Tryd.f40) r.1 (unpick 28 (G.msk n_laws_szStringS 0).2 r.2.1) r.2.2
theorem laws_szStringS.eq (k : Nat) (a1 : V) (n2 : Int) (σ : Heap) : hcall G (k + 1) n_laws_szStringS [a1, .int .i64 n2] σ = ((vlen a1).bind fun k3 => bif decide (IntKind.wrap .i64 (n2 - (k3 : Int)) < 0) then (some (.int .i64 (-1), σ)) else ((laws_szStringS.L0 k k [.v a1, .v (.int .i64 (IntKind.wrap .i64 (n2 - (k3 : Int)))), .v (.int .i64 0)] σ).bind (laws_szStringS.A0 k))) := by
  kernel_rfl
theorem laws_szStringS.L0_step (k m : Nat) (a1 : V) (n2 : Int) (n3 : Int) (σ : Heap) : laws_szStringS.L0 k (m + 1) [.v a1, .v (.int .i64 n2), .v (.int .i64 n3)] σ = ((vlen a1).bind fun k4 => bif decide (n3 < (k4 : Int)) then ((vidx 1 a1 n3).bind fun p5 => (rdc σ p5.1 p5.2 1).bind fun l6 => uncons l6 fun c7 l8 => castStr c7 fun s9 => isNil l8 <| bif decide (IntKind.wrap .i64 (n2 - (s9.size : Int)) < 0) then (some (.ret, [.v (.int .i64 (IntKind.wrap .i64 (n2 - (s9.size : Int)))), .v (.int .i64 (-1))], σ)) else (laws_szStringS.L0 k m [.v a1, .v (.int .i64 (IntKind.wrap .i64 (n2 - (s9.size : Int)))), .v (.int .i64 (IntKind.wrap .i64 (n3 + 1)))] σ)) else (some (.exit 0, [.v (.int .i64 n2), .bot], σ))) := by
  kernel_rfl
theorem laws_szStringS.A0_x0 (k : Nat) (n1 : Int) (t2 : T) (σ : Heap) : laws_szStringS.A0 k (.exit 0, [.v (.int .i64 n1), t2], σ) = (some (.int .i64 n1, σ)) := by
  kernel_rfl
theorem laws_szStringS.A0_ret (k : Nat) (t1 : T) (n2 : Int) (σ : Heap) : laws_szStringS.A0 k (.ret, [t1, .v (.int .i64 n2)], σ) = (some (.int .i64 n2, σ)) := by
  kernel_rfl

/-! loop.example/smithy/laws.szTreeExprS: function 42 -/
noncomputable def laws_szTreeExprS.L0 (k : Nat) : Nat → List T → Heap → Option (Ex × List T × Heap) := hloop (hx (G.env n_laws_szTreeExprS k) k 27 (subc (bodyOf Tryd.f42) [1, 1, 1, 0, 1, 0, 0]) 0) 27 (G.msk n_laws_szTreeExprS 0).1 (G.msk n_laws_szTreeExprS 0).2
noncomputable def laws_szTreeExprS.A0 (k : Nat) : Ex × List T × Heap → Option (V × Heap) := fun r => aft (G.env n_laws_szTreeExprS k) k 27 (bodyOf Tryd.f42) [1, 1, 1, 0, 1, 0] 0 (ck G.P Tryd.f42) r.1 (unpick 27 (G.msk n_laws_szTreeExprS 0).2 r.2.1) r.2.2
theorem laws_szTreeExprS.eq (k : Nat) (a1 : V) (n2 : Int) (σ : Heap) : hcall G (k + 1) n_laws_szTreeExprS [a1, .int .i64 n2] σ = ((vlen a1).bind fun k3 => bif decide (IntKind.wrap .i64 (n2 - (k3 : Int)) < 0) then (some (.int .i64 (-1), σ)) else ((laws_szTreeExprS.L0 k k [.v a1, .v (.int .i64 (IntKind.wrap .i64 (n2 - (k3 : Int)))), .v (.int .i64 0)] σ).bind (laws_szTreeExprS.A0 k))) := by
  kernel_rfl
theorem laws_szTreeExprS.L0_step (k m : Nat) (a1 : V) (n2 : Int) (n3 : Int) (σ : Heap) : laws_szTreeExprS.L0 k (m + 1) [.v a1, .v (.int .i64 n2), .v (.int .i64 n3)] σ = ((vlen a1).bind fun k4 => bif decide (n3 < (k4 : Int)) then ((vidx 5 a1 n3).bind fun p5 => (rdc σ p5.1 p5.2 5).bind fun l6 => uncons l6 fun c7 l8 => castInt .i64 c7 fun n9 => uncons l8 fun c10 l11 => castInt .i64 c10 fun n12 => uncons l11 fun c13 l14 => castStr c13 fun s15 => uncons l14 fun c16 l17 => castStr c16 fun s18 => uncons l17 fun c19 l20 => isNil l20 <| (hcall G k n_laws_szTreeExpr [.agg [.int .i64 n9, .int .i64 n12, .str s15, .str s18, c19], .int .i64 n2] σ).bind fun q21 => castInt .i64 q21.1 fun n22 => bif decide (n22 < 0) then (some (.ret, [.v (.int .i64 n22), .v (.int .i64 (-1))], q21.2)) else (laws_szTreeExprS.L0 k m [.v a1, .v (.int .i64 n22), .v (.int .i64 (IntKind.wrap .i64 (n3 + 1)))] q21.2)) else (some (.exit 0, [.v (.int .i64 n2), .bot], σ))) := by
  kernel_rfl
theorem laws_szTreeExprS.A0_x0 (k : Nat) (n1 : Int) (t2 : T) (σ : Heap) : laws_szTreeExprS.A0 k (.exit 0, [.v (.int .i64 n1), t2], σ) = (some (.int .i64 n1, σ)) := by
  kernel_rfl
theorem laws_szTreeExprS.A0_ret (k : Nat) (t1 : T) (n2 : Int) (σ : Heap) : laws_szTreeExprS.A0 k (.ret, [t1, .v (.int .i64 n2)], σ) = (some (.int .i64 n2, σ)) := by
  kernel_rfl

/-! loop.example/smithy/laws.szTreeExpr: function 81 -/
theorem laws_szTreeExpr.eq (k : Nat) (n1 : Int) (n2 : Int) (s3 : ByteArray) (s4 : ByteArray) (a5 : V) (n6 : Int) (σ : Heap) : hcall G (k + 1) n_laws_szTreeExpr [.agg [.int .i64 n1, .int .i64 n2, .str s3, .str s4, a5], .int .i64 n6] σ = (bif decide (IntKind.wrap .i64 (n6 - (s3.size : Int)) < 0) then (some (.int .i64 (-1), σ)) else (bif decide (IntKind.wrap .i64 ((IntKind.wrap .i64 (n6 - (s3.size : Int))) - (s4.size : Int)) < 0) then (some (.int .i64 (-1), σ)) else ((hcall G k n_laws_szTreeExprS [a5, .int .i64 (IntKind.wrap .i64 ((IntKind.wrap .i64 (n6 - (s3.size : Int))) - (s4.size : Int)))] σ).bind fun q7 => castInt .i64 q7.1 fun n8 => bif decide (n8 < 0) then (some (.int .i64 (-1), q7.2)) else (some (.int .i64 n8, q7.2))))) := by
  kernel_rfl

/-! loop.example/smithy/laws.szTreeArg: function 150 -/
theorem laws_szTreeArg.eq (k : Nat) (s1 : ByteArray) (n2 : Int) (n3 : Int) (σ : Heap) : hcall G (k + 1) n_laws_szTreeArg [.agg [.str s1, .int .i64 n2], .int .i64 n3] σ = (bif decide (IntKind.wrap .i64 (n3 - (s1.size : Int)) < 0) then (some (.int .i64 (-1), σ)) else (some (.int .i64 (IntKind.wrap .i64 (n3 - (s1.size : Int))), σ))) := by
  kernel_rfl

/-! loop.example/smithy/laws.szTreeArgS: function 124 -/
noncomputable def laws_szTreeArgS.L0 (k : Nat) : Nat → List T → Heap → Option (Ex × List T × Heap) := hloop (hx (G.env n_laws_szTreeArgS k) k 27 (subc (bodyOf Tryd.f124) [1, 1, 1, 0, 1, 0, 0]) 0) 27 (G.msk n_laws_szTreeArgS 0).1 (G.msk n_laws_szTreeArgS 0).2
noncomputable def laws_szTreeArgS.A0 (k : Nat) : Ex × List T × Heap → Option (V × Heap) := fun r => aft (G.env n_laws_szTreeArgS k) k 27 (bodyOf Tryd.f124) [1, 1, 1, 0, 1, 0] 0 (ck G.P Tryd.f124) r.1 (unpick 27 (G.msk n_laws_szTreeArgS 0).2 r.2.1) r.2.2
theorem laws_szTreeArgS.eq (k : Nat) (a1 : V) (n2 : Int) (σ : Heap) : hcall G (k + 1) n_laws_szTreeArgS [a1, .int .i64 n2] σ = ((vlen a1).bind fun k3 => bif decide (IntKind.wrap .i64 (n2 - (k3 : Int)) < 0) then (some (.int .i64 (-1), σ)) else ((laws_szTreeArgS.L0 k k [.v a1, .v (.int .i64 (IntKind.wrap .i64 (n2 - (k3 : Int)))), .v (.int .i64 0)] σ).bind (laws_szTreeArgS.A0 k))) := by
  kernel_rfl
theorem laws_szTreeArgS.L0_step (k m : Nat) (a1 : V) (n2 : Int) (n3 : Int) (σ : Heap) : laws_szTreeArgS.L0 k (m + 1) [.v a1, .v (.int .i64 n2), .v (.int .i64 n3)] σ = ((vlen a1).bind fun k4 => bif decide (n3 < (k4 : Int)) then ((vidx 2 a1 n3).bind fun p5 => (rdc σ p5.1 p5.2 2).bind fun l6 => uncons l6 fun c7 l8 => castStr c7 fun s9 => uncons l8 fun c10 l11 => castInt .i64 c10 fun n12 => isNil l11 <| (hcall G k n_laws_szTreeArg [.agg [.str s9, .int .i64 n12], .int .i64 n2] σ).bind fun q13 => castInt .i64 q13.1 fun n14 => bif decide (n14 < 0) then (some (.ret, [.v (.int .i64 n14), .v (.int .i64 (-1))], q13.2)) else (laws_szTreeArgS.L0 k m [.v a1, .v (.int .i64 n14), .v (.int .i64 (IntKind.wrap .i64 (n3 + 1)))] q13.2)) else (some (.exit 0, [.v (.int .i64 n2), .bot], σ))) := by
  kernel_rfl
theorem laws_szTreeArgS.A0_x0 (k : Nat) (n1 : Int) (t2 : T) (σ : Heap) : laws_szTreeArgS.A0 k (.exit 0, [.v (.int .i64 n1), t2], σ) = (some (.int .i64 n1, σ)) := by
  kernel_rfl
theorem laws_szTreeArgS.A0_ret (k : Nat) (t1 : T) (n2 : Int) (σ : Heap) : laws_szTreeArgS.A0 k (.ret, [t1, .v (.int .i64 n2)], σ) = (some (.int .i64 n2, σ)) := by
  kernel_rfl

/-! loop.example/smithy/laws.szTreeFun: function 80 -/
theorem laws_szTreeFun.eq (k : Nat) (s1 : ByteArray) (b2 : Bool) (a3 : V) (n4 : Int) (n5 : Int) (n6 : Int) (s7 : ByteArray) (s8 : ByteArray) (a9 : V) (n10 : Int) (σ : Heap) : hcall G (k + 1) n_laws_szTreeFun [.agg [.str s1, .bool b2, a3, .int .i64 n4, .int .i64 n5, .int .i64 n6, .str s7, .str s8, a9], .int .i64 n10] σ = (bif decide (IntKind.wrap .i64 (n10 - (s1.size : Int)) < 0) then (some (.int .i64 (-1), σ)) else ((hcall G k n_laws_szTreeArgS [a3, .int .i64 (IntKind.wrap .i64 (n10 - (s1.size : Int)))] σ).bind fun q11 => castInt .i64 q11.1 fun n12 => bif decide (n12 < 0) then (some (.int .i64 (-1), q11.2)) else ((hcall G k n_laws_szTreeExpr [.agg [.int .i64 n5, .int .i64 n6, .str s7, .str s8, a9], .int .i64 n12] q11.2).bind fun q13 => castInt .i64 q13.1 fun n14 => bif decide (n14 < 0) then (some (.int .i64 (-1), q13.2)) else (some (.int .i64 n14, q13.2))))) := by
  kernel_rfl

/-! loop.example/smithy/laws.szTreeFunS: function 41 -/
noncomputable def laws_szTreeFunS.L0 (k : Nat) : Nat → List T → Heap → Option (Ex × List T × Heap) := hloop (hx (G.env n_laws_szTreeFunS k) k 27 (subc (bodyOf Tryd.f41) [1, 1, 1, 0, 1, 0, 0]) 0) 27 (G.msk n_laws_szTreeFunS 0).1 (G.msk n_laws_szTreeFunS 0).2
noncomputable def laws_szTreeFunS.A0 (k : Nat) : Ex × List T × Heap → Option (V × Heap) := fun r => aft (G.env n_laws_szTreeFunS k) k 27 (bodyOf Tryd.f41) [1, 1, 1, 0, 1, 0] 0 (ck G.P Tryd.f41) r.1 (unpick 27 (G.msk n_laws_szTreeFunS 0).2 r.2.1) r.2.2
theorem laws_szTreeFunS.eq (k : Nat) (a1 : V) (n2 : Int) (σ : Heap) : hcall G (k + 1) n_laws_szTreeFunS [a1, .int .i64 n2] σ = ((vlen a1).bind fun k3 => bif decide (IntKind.wrap .i64 (n2 - (k3 : Int)) < 0) then (some (.int .i64 (-1), σ)) else ((laws_szTreeFunS.L0 k k [.v a1, .v (.int .i64 (IntKind.wrap .i64 (n2 - (k3 : Int)))), .v (.int .i64 0)] σ).bind (laws_szTreeFunS.A0 k))) := by
  kernel_rfl
theorem laws_szTreeFunS.L0_step (k m : Nat) (a1 : V) (n2 : Int) (n3 : Int) (σ : Heap) : laws_szTreeFunS.L0 k (m + 1) [.v a1, .v (.int .i64 n2), .v (.int .i64 n3)] σ = ((vlen a1).bind fun k4 => bif decide (n3 < (k4 : Int)) then ((vidx 9 a1 n3).bind fun p5 => (rdc σ p5.1 p5.2 9).bind fun l6 => uncons l6 fun c7 l8 => castStr c7 fun s9 => uncons l8 fun c10 l11 => castBool c10 fun b12 => uncons l11 fun c13 l14 => uncons l14 fun c15 l16 => castInt .i64 c15 fun n17 => uncons l16 fun c18 l19 => castInt .i64 c18 fun n20 => uncons l19 fun c21 l22 => castInt .i64 c21 fun n23 => uncons l22 fun c24 l25 => castStr c24 fun s26 => uncons l25 fun c27 l28 => castStr c27 fun s29 => uncons l28 fun c30 l31 => isNil l31 <| (hcall G k n_laws_szTreeFun [.agg [.str s9, .bool b12, c13, .int .i64 n17, .int .i64 n20, .int .i64 n23, .str s26, .str s29, c30], .int .i64 n2] σ).bind fun q32 => castInt .i64 q32.1 fun n33 => bif decide (n33 < 0) then (some (.ret, [.v (.int .i64 n33), .v (.int .i64 (-1))], q32.2)) else (laws_szTreeFunS.L0 k m [.v a1, .v (.int .i64 n33), .v (.int .i64 (IntKind.wrap .i64 (n3 + 1)))] q32.2)) else (some (.exit 0, [.v (.int .i64 n2), .bot], σ))) := by
  kernel_rfl
theorem laws_szTreeFunS.A0_x0 (k : Nat) (n1 : Int) (t2 : T) (σ : Heap) : laws_szTreeFunS.A0 k (.exit 0, [.v (.int .i64 n1), t2], σ) = (some (.int .i64 n1, σ)) := by
  kernel_rfl
theorem laws_szTreeFunS.A0_ret (k : Nat) (t1 : T) (n2 : Int) (σ : Heap) : laws_szTreeFunS.A0 k (.ret, [t1, .v (.int .i64 n2)], σ) = (some (.int .i64 n2, σ)) := by
  kernel_rfl

/-! loop.example/smithy/laws.szTreeMod: function 17 -/
theorem laws_szTreeMod.eq (k : Nat) (a1 : V) (a2 : V) (a3 : V) (n4 : Int) (σ : Heap) : hcall G (k + 1) n_laws_szTreeMod [.agg [a1, a2, a3], .int .i64 n4] σ = ((hcall G k n_laws_szStringS [a1, .int .i64 n4] σ).bind fun q5 => castInt .i64 q5.1 fun n6 => bif decide (n6 < 0) then (some (.int .i64 (-1), q5.2)) else ((hcall G k n_laws_szTreeFunS [a2, .int .i64 n6] q5.2).bind fun q7 => castInt .i64 q7.1 fun n8 => bif decide (n8 < 0) then (some (.int .i64 (-1), q7.2)) else ((hcall G k n_laws_szTreeExprS [a3, .int .i64 n8] q7.2).bind fun q9 => castInt .i64 q9.1 fun n10 => bif decide (n10 < 0) then (some (.int .i64 (-1), q9.2)) else (some (.int .i64 n10, q9.2))))) := by
  kernel_rfl
end Go.D
