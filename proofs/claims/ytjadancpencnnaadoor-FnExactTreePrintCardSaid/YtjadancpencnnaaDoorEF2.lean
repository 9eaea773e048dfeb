/- The functions' equations. -/
import Derived.Test.YtjadancpencnnaaDoorEG
namespace Go.D
open Go.HM Go.Proofs
set_option linter.unusedVariables false
set_option maxRecDepth 1000000
set_option maxHeartbeats 4000000

/-! (loop.example/smithy/impl.TreeExpr).words: function 98 -/
noncomputable def impl_TreeExpr_words.L0 (k : Nat) : Nat → List T → Heap → Option (Ex × List T × Heap) := hloop (hx (G.env n_impl_TreeExpr_words k) k 91 (subc (bodyOf Tryd.f98) [1, 1, 1, 1, 0, 1, 0, 0]) 2) 91 (G.msk n_impl_TreeExpr_words 2).1 (G.msk n_impl_TreeExpr_words 2).2
noncomputable def impl_TreeExpr_words.A0 (k : Nat) : Ex × List T × Heap → Option (V × Heap) := fun r => aft (G.env n_impl_TreeExpr_words k) k 91 (bodyOf Tryd.f98) [1, 1, 1, 1, 0, 1, 0] 0 (ck G.P Tryd.f98) r.1 (unpick 91 (G.msk n_impl_TreeExpr_words 2).2 r.2.1) r.2.2
theorem impl_TreeExpr_words.eq (k : Nat) (n1 : Int) (n2 : Int) (s3 : ByteArray) (s4 : ByteArray) (a5 : V) (a6 : V) (σ : Heap) : hcall G (k + 1) n_impl_TreeExpr_words [.agg [.int .i64 n1, .int .i64 n2, .str s3, .str s4, a5], a6] σ = (bif decide (n1 = 1) then ((hcall G k n_strconv_Itoa [.int .i64 n2] σ).bind fun q7 => castStr q7.1 fun s8 => (vappend 1 16 q7.2 a6 1 [.str s8]).bind fun q9 => some (q9.1, q9.2)) else (bif decide (n1 = 2) then ((hcall G k n_strconv_FormatBool [.bool (decide (n2 = 1))] σ).bind fun q10 => castStr q10.1 fun s11 => (vappend 1 16 q10.2 a6 1 [.str s11]).bind fun q12 => some (q12.1, q12.2)) else (bif decide (n1 = 3) then ((vappend 1 16 σ a6 1 [.str s3]).bind fun q13 => some (q13.1, q13.2)) else ((vappend 1 16 σ a6 1 [.str (⟨#[40]⟩ : ByteArray)]).bind fun q14 => bif decide (n1 = 5) then ((vappend 1 16 q14.2 q14.1 1 [.str (⟨#[105, 102]⟩ : ByteArray)]).bind fun q15 => (vlen a5).bind fun k16 => (impl_TreeExpr_words.L0 k k [.v q15.1, .v a5, .v (.int .i64 (k16 : Int)), .v (.int .i64 0)] q15.2).bind (impl_TreeExpr_words.A0 k)) else (bif decide (n1 = 6) then ((vappend 1 16 q14.2 q14.1 2 [.str (⟨#[108, 101, 116]⟩ : ByteArray), .str s3]).bind fun q17 => (vlen a5).bind fun k18 => (impl_TreeExpr_words.L0 k k [.v q17.1, .v a5, .v (.int .i64 (k18 : Int)), .v (.int .i64 0)] q17.2).bind (impl_TreeExpr_words.A0 k)) else (bif decide (n1 = 8) then ((vappend 1 16 q14.2 q14.1 1 [.str (⟨#[114, 111, 119]⟩ : ByteArray)]).bind fun q19 => (vlen a5).bind fun k20 => (impl_TreeExpr_words.L0 k k [.v q19.1, .v a5, .v (.int .i64 (k20 : Int)), .v (.int .i64 0)] q19.2).bind (impl_TreeExpr_words.A0 k)) else (bif !decide (s4 = (⟨#[]⟩ : ByteArray)) then (if s4.size + (⟨#[46]⟩ : ByteArray).size ≤ 2 ^ 62 then (if (s4 ++ (⟨#[46]⟩ : ByteArray)).size + s3.size ≤ 2 ^ 62 then ((vappend 1 16 q14.2 q14.1 1 [.str ((s4 ++ (⟨#[46]⟩ : ByteArray)) ++ s3)]).bind fun q21 => (vlen a5).bind fun k22 => (impl_TreeExpr_words.L0 k k [.v q21.1, .v a5, .v (.int .i64 (k22 : Int)), .v (.int .i64 0)] q21.2).bind (impl_TreeExpr_words.A0 k)) else none) else none) else ((vappend 1 16 q14.2 q14.1 1 [.str s3]).bind fun q23 => (vlen a5).bind fun k24 => (impl_TreeExpr_words.L0 k k [.v q23.1, .v a5, .v (.int .i64 (k24 : Int)), .v (.int .i64 0)] q23.2).bind (impl_TreeExpr_words.A0 k))))))))) := by
  kernel_rfl
theorem impl_TreeExpr_words.L0_step (k m : Nat) (a1 : V) (a2 : V) (n3 : Int) (n4 : Int) (σ : Heap) : impl_TreeExpr_words.L0 k (m + 1) [.v a1, .v a2, .v (.int .i64 n3), .v (.int .i64 n4)] σ = (bif decide (n4 < n3) then ((vidx 5 a2 n4).bind fun p5 => (rdc σ p5.1 p5.2 5).bind fun l6 => uncons l6 fun c7 l8 => castInt .i64 c7 fun n9 => uncons l8 fun c10 l11 => castInt .i64 c10 fun n12 => uncons l11 fun c13 l14 => castStr c13 fun s15 => uncons l14 fun c16 l17 => castStr c16 fun s18 => uncons l17 fun c19 l20 => isNil l20 <| (hcall G k n_impl_TreeExpr_words [.agg [.int .i64 n9, .int .i64 n12, .str s15, .str s18, c19], a1] σ).bind fun q21 => impl_TreeExpr_words.L0 k m [.v q21.1, .v a2, .v (.int .i64 n3), .v (.int .i64 (IntKind.wrap .i64 (n4 + 1)))] q21.2) else (some (.exit 2, [.v a1, .bot], σ))) := by
  kernel_rfl
theorem impl_TreeExpr_words.A0_x2 (k : Nat) (a1 : V) (t2 : T) (σ : Heap) : impl_TreeExpr_words.A0 k (.exit 2, [.v a1, t2], σ) = ((vappend 1 16 σ a1 1 [.str (⟨#[41]⟩ : ByteArray)]).bind fun q3 => some (q3.1, q3.2)) := by
  kernel_rfl

/-! (loop.example/smithy/impl.TreeFun).words: function 97 -/
noncomputable def impl_TreeFun_words.L0 (k : Nat) : Nat → List T → Heap → Option (Ex × List T × Heap) := hloop (hx (G.env n_impl_TreeFun_words k) k 40 (subc (bodyOf Tryd.f97) [1, 1, 1, 1, 0, 1, 0, 0]) 0) 40 (G.msk n_impl_TreeFun_words 0).1 (G.msk n_impl_TreeFun_words 0).2
noncomputable def impl_TreeFun_words.A0 (k : Nat) : Ex × List T × Heap → Option (V × Heap) := fun r => aft (G.env n_impl_TreeFun_words k) k 40 (bodyOf Tryd.f97) [1, 1, 1, 1, 0, 1, 0] 0 (ck G.P Tryd.f97) r.1 (unpick 40 (G.msk n_impl_TreeFun_words 0).2 r.2.1) r.2.2
theorem impl_TreeFun_words.eq (k : Nat) (s1 : ByteArray) (b2 : Bool) (a3 : V) (n4 : Int) (n5 : Int) (n6 : Int) (s7 : ByteArray) (s8 : ByteArray) (a9 : V) (σ : Heap) : hcall G (k + 1) n_impl_TreeFun_words [.agg [.str s1, .bool b2, a3, .int .i64 n4, .int .i64 n5, .int .i64 n6, .str s7, .str s8, a9]] σ = (bif b2 then ((vlen a3).bind fun k10 => (impl_TreeFun_words.L0 k k [.box [.str s1, .bool b2, a3, .int .i64 n4, .int .i64 n5, .int .i64 n6, .str s7, .str s8, a9], .v (.sl σ.length 0 4 true), .v a3, .v (.int .i64 (k10 : Int)), .v (.int .i64 0)] (hnew σ 1 [.str (⟨#[40]⟩ : ByteArray), .str (⟨#[112, 117, 98]⟩ : ByteArray), .str s1, .str (⟨#[40]⟩ : ByteArray)])).bind (impl_TreeFun_words.A0 k)) else ((vlen a3).bind fun k11 => (impl_TreeFun_words.L0 k k [.box [.str s1, .bool b2, a3, .int .i64 n4, .int .i64 n5, .int .i64 n6, .str s7, .str s8, a9], .v (.sl σ.length 0 4 true), .v a3, .v (.int .i64 (k11 : Int)), .v (.int .i64 0)] (hnew σ 1 [.str (⟨#[40]⟩ : ByteArray), .str (⟨#[102, 117, 110]⟩ : ByteArray), .str s1, .str (⟨#[40]⟩ : ByteArray)])).bind (impl_TreeFun_words.A0 k))) := by
  kernel_rfl
theorem impl_TreeFun_words.L0_step (k m : Nat) (s1 : ByteArray) (b2 : Bool) (a3 : V) (n4 : Int) (n5 : Int) (n6 : Int) (s7 : ByteArray) (s8 : ByteArray) (a9 : V) (a10 : V) (a11 : V) (n12 : Int) (n13 : Int) (σ : Heap) : impl_TreeFun_words.L0 k (m + 1) [.box [.str s1, .bool b2, a3, .int .i64 n4, .int .i64 n5, .int .i64 n6, .str s7, .str s8, a9], .v a10, .v a11, .v (.int .i64 n12), .v (.int .i64 n13)] σ = (bif decide (n13 < n12) then ((vidx 2 a11 n13).bind fun p14 => (rdc σ p14.1 p14.2 2).bind fun l15 => uncons l15 fun c16 l17 => castStr c16 fun s18 => uncons l17 fun c19 l20 => castInt .i64 c19 fun n21 => isNil l20 <| (hcall G k n_impl_TreeType [.int .i64 n21] σ).bind fun q22 => castStr q22.1 fun s23 => (vappend 1 16 q22.2 a10 4 [.str (⟨#[40]⟩ : ByteArray), .str s18, .str s23, .str (⟨#[41]⟩ : ByteArray)]).bind fun q24 => impl_TreeFun_words.L0 k m [.box [.str s1, .bool b2, a3, .int .i64 n4, .int .i64 n5, .int .i64 n6, .str s7, .str s8, a9], .v q24.1, .v a11, .v (.int .i64 n12), .v (.int .i64 (IntKind.wrap .i64 (n13 + 1)))] q24.2) else (some (.exit 0, [.box [.str s1, .bool b2, a3, .int .i64 n4, .int .i64 n5, .int .i64 n6, .str s7, .str s8, a9], .bot, .v a10], σ))) := by
  kernel_rfl
theorem impl_TreeFun_words.A0_x0 (k : Nat) (s1 : ByteArray) (b2 : Bool) (a3 : V) (n4 : Int) (n5 : Int) (n6 : Int) (s7 : ByteArray) (s8 : ByteArray) (a9 : V) (t10 : T) (a11 : V) (σ : Heap) : impl_TreeFun_words.A0 k (.exit 0, [.box [.str s1, .bool b2, a3, .int .i64 n4, .int .i64 n5, .int .i64 n6, .str s7, .str s8, a9], t10, .v a11], σ) = ((hcall G k n_impl_TreeType [.int .i64 n4] σ).bind fun q12 => castStr q12.1 fun s13 => (vappend 1 16 q12.2 a11 2 [.str (⟨#[41]⟩ : ByteArray), .str s13]).bind fun q14 => (hcall G k n_impl_TreeExpr_words [.agg [.int .i64 n5, .int .i64 n6, .str s7, .str s8, a9], q14.1] q14.2).bind fun q15 => (vappend 1 16 q15.2 q15.1 1 [.str (⟨#[41]⟩ : ByteArray)]).bind fun q16 => some (q16.1, q16.2)) := by
  kernel_rfl

/-! (loop.example/smithy/impl.TreeMod).forms: function 51 -/
noncomputable def impl_TreeMod_forms.L1 (k : Nat) : Nat → List T → Heap → Option (Ex × List T × Heap) := hloop (hx (G.env n_impl_TreeMod_forms k) k 52 (subc (bodyOf Tryd.f51) [1, 1, 1, 1, 0, 1, 0, 0]) 2) 52 (G.msk n_impl_TreeMod_forms 2).1 (G.msk n_impl_TreeMod_forms 2).2
noncomputable def impl_TreeMod_forms.L0 (k : Nat) : Nat → List T → Heap → Option (Ex × List T × Heap) := hloop (hx (G.env n_impl_TreeMod_forms k) k 52 (subc (bodyOf Tryd.f51) [1, 1, 1, 0, 1, 0, 0]) 0) 52 (G.msk n_impl_TreeMod_forms 0).1 (G.msk n_impl_TreeMod_forms 0).2
noncomputable def impl_TreeMod_forms.A0 (k : Nat) : Ex × List T × Heap → Option (V × Heap) := fun r => aft (G.env n_impl_TreeMod_forms k) k 52 (bodyOf Tryd.f51) [1, 1, 1, 0, 1, 0] 0 (ck G.P Tryd.f51) r.1 (unpick 52 (G.msk n_impl_TreeMod_forms 0).2 r.2.1) r.2.2
noncomputable def impl_TreeMod_forms.A1 (k : Nat) : Ex × List T × Heap → Option (V × Heap) := fun r => aft (G.env n_impl_TreeMod_forms k) k 52 (bodyOf Tryd.f51) [1, 1, 1, 1, 0, 1, 0] 0 (ck G.P Tryd.f51) r.1 (unpick 52 (G.msk n_impl_TreeMod_forms 2).2 r.2.1) r.2.2
theorem impl_TreeMod_forms.eq (k : Nat) (a1 : V) (a2 : V) (a3 : V) (σ : Heap) : hcall G (k + 1) n_impl_TreeMod_forms [.agg [a1, a2, a3]] σ = ((vlen a1).bind fun k4 => bif decide (0 < (k4 : Int)) then (one a1 <| (hcall G k n_slices_Concat_string_string [(.sl (hnew (hnew (hnew σ 1 []) 1 [.str (⟨#[40]⟩ : ByteArray), .str (⟨#[117, 115, 101]⟩ : ByteArray)]) 1 [.str (⟨#[41]⟩ : ByteArray)]).length 0 3 true)] (hnew (hnew (hnew (hnew σ 1 []) 1 [.str (⟨#[40]⟩ : ByteArray), .str (⟨#[117, 115, 101]⟩ : ByteArray)]) 1 [.str (⟨#[41]⟩ : ByteArray)]) 1 [(.sl (hnew σ 1 []).length 0 2 true), a1, (.sl (hnew (hnew σ 1 []) 1 [.str (⟨#[40]⟩ : ByteArray), .str (⟨#[117, 115, 101]⟩ : ByteArray)]).length 0 1 true)])).bind fun q5 => one q5.1 <| (vappend 1 24 q5.2 (.sl σ.length 0 0 true) 1 [q5.1]).bind fun q6 => (vlen a2).bind fun k7 => (impl_TreeMod_forms.L0 k k [.box [a1, a2, a3], .v q6.1, .v a2, .v (.int .i64 (k7 : Int)), .v (.int .i64 0)] q6.2).bind (impl_TreeMod_forms.A0 k)) else ((vlen a2).bind fun k8 => (impl_TreeMod_forms.L0 k k [.box [a1, a2, a3], .v (.sl σ.length 0 0 true), .v a2, .v (.int .i64 (k8 : Int)), .v (.int .i64 0)] (hnew σ 1 [])).bind (impl_TreeMod_forms.A0 k))) := by
  kernel_rfl
theorem impl_TreeMod_forms.L0_step (k m : Nat) (a1 : V) (a2 : V) (a3 : V) (a4 : V) (a5 : V) (n6 : Int) (n7 : Int) (σ : Heap) : impl_TreeMod_forms.L0 k (m + 1) [.box [a1, a2, a3], .v a4, .v a5, .v (.int .i64 n6), .v (.int .i64 n7)] σ = (bif decide (n7 < n6) then ((vidx 9 a5 n7).bind fun p8 => (rdc σ p8.1 p8.2 9).bind fun l9 => uncons l9 fun c10 l11 => castStr c10 fun s12 => uncons l11 fun c13 l14 => castBool c13 fun b15 => uncons l14 fun c16 l17 => uncons l17 fun c18 l19 => castInt .i64 c18 fun n20 => uncons l19 fun c21 l22 => castInt .i64 c21 fun n23 => uncons l22 fun c24 l25 => castInt .i64 c24 fun n26 => uncons l25 fun c27 l28 => castStr c27 fun s29 => uncons l28 fun c30 l31 => castStr c30 fun s32 => uncons l31 fun c33 l34 => isNil l34 <| (hcall G k n_impl_TreeFun_words [.agg [.str s12, .bool b15, c16, .int .i64 n20, .int .i64 n23, .int .i64 n26, .str s29, .str s32, c33]] σ).bind fun q35 => one q35.1 <| (vappend 1 24 q35.2 a4 1 [q35.1]).bind fun q36 => impl_TreeMod_forms.L0 k m [.box [a1, a2, a3], .v q36.1, .v a5, .v (.int .i64 n6), .v (.int .i64 (IntKind.wrap .i64 (n7 + 1)))] q36.2) else (some (.exit 0, [.box [a1, a2, a3], .bot, .v a4], σ))) := by
  kernel_rfl
theorem impl_TreeMod_forms.A0_x0 (k : Nat) (a1 : V) (a2 : V) (a3 : V) (t4 : T) (a5 : V) (σ : Heap) : impl_TreeMod_forms.A0 k (.exit 0, [.box [a1, a2, a3], t4, .v a5], σ) = ((vlen a3).bind fun k6 => (impl_TreeMod_forms.L1 k k [.v a5, .v a3, .v (.int .i64 (k6 : Int)), .v (.int .i64 0)] σ).bind (impl_TreeMod_forms.A1 k)) := by
  kernel_rfl
theorem impl_TreeMod_forms.L1_step (k m : Nat) (a1 : V) (a2 : V) (n3 : Int) (n4 : Int) (σ : Heap) : impl_TreeMod_forms.L1 k (m + 1) [.v a1, .v a2, .v (.int .i64 n3), .v (.int .i64 n4)] σ = (bif decide (n4 < n3) then ((vidx 5 a2 n4).bind fun p5 => (rdc σ p5.1 p5.2 5).bind fun l6 => uncons l6 fun c7 l8 => castInt .i64 c7 fun n9 => uncons l8 fun c10 l11 => castInt .i64 c10 fun n12 => uncons l11 fun c13 l14 => castStr c13 fun s15 => uncons l14 fun c16 l17 => castStr c16 fun s18 => uncons l17 fun c19 l20 => isNil l20 <| (hcall G k n_impl_TreeExpr_words [.agg [.int .i64 n9, .int .i64 n12, .str s15, .str s18, c19], (.sl σ.length 0 2 true)] (hnew σ 1 [.str (⟨#[40]⟩ : ByteArray), .str (⟨#[109, 97, 105, 110]⟩ : ByteArray)])).bind fun q21 => (vappend 1 16 q21.2 q21.1 1 [.str (⟨#[41]⟩ : ByteArray)]).bind fun q22 => one q22.1 <| (vappend 1 24 q22.2 a1 1 [q22.1]).bind fun q23 => impl_TreeMod_forms.L1 k m [.v q23.1, .v a2, .v (.int .i64 n3), .v (.int .i64 (IntKind.wrap .i64 (n4 + 1)))] q23.2) else (some (.exit 2, [.bot, .v a1], σ))) := by
  kernel_rfl
theorem impl_TreeMod_forms.A1_x2 (k : Nat) (t1 : T) (a2 : V) (σ : Heap) : impl_TreeMod_forms.A1 k (.exit 2, [t1, .v a2], σ) = (some (a2, σ)) := by
  kernel_rfl

/-! (*strings.Builder).WriteByte: function 99 -/
theorem pstrings_Builder_WriteByte.eq (k : Nat) (a1 : V) (n2 : Int) (σ : Heap) : hcall G (k + 1) n_pstrings_Builder_WriteByte [a1, .int .u8 n2] σ = ((hcall G k n_pstrings_Builder_copyCheck [a1] σ).bind fun q3 => castTuple q3.1 fun l4 => isNil l4 <| castPtr a1 fun r5 o6 => (rdc q3.2 r5 (o6 + 1) 1).bind fun l7 => uncons l7 fun c8 l9 => isNil l9 <| (vappendT 6 1 1 q3.2 c8 1 [.int .u8 n2]).bind fun q10 => castPtr a1 fun r11 o12 => one q10.1 <| (wrc q10.2 r11 (o12 + 1) [q10.1]).bind fun h13 => some (.nili, h13)) := by
  kernel_rfl

/-! loop.example/smithy/impl.LexJoin: function 52 -/
noncomputable def impl_LexJoin.L0 (k : Nat) : Nat → List T → Heap → Option (Ex × List T × Heap) := hloop (hx (G.env n_impl_LexJoin k) k 32 (subc (bodyOf Tryd.f52) [1, 1, 0, 1, 0, 0]) 0) 32 (G.msk n_impl_LexJoin 0).1 (G.msk n_impl_LexJoin 0).2
noncomputable def impl_LexJoin.A0 (k : Nat) : Ex × List T × Heap → Option (V × Heap) := fun r => aft (G.env n_impl_LexJoin k) k 32 (bodyOf Tryd.f52) [1, 1, 0, 1, 0] 0 (ck G.P Tryd.f52) r.1 (unpick 32 (G.msk n_impl_LexJoin 0).2 r.2.1) r.2.2
theorem impl_LexJoin.eq (k : Nat) (a1 : V) (σ : Heap) : hcall G (k + 1) n_impl_LexJoin [a1] σ = ((vlen a1).bind fun k2 => (impl_LexJoin.L0 k k [.v a1, .v (.ptr σ.length 0), .v a1, .v (.int .i64 (k2 : Int)), .v (.int .i64 0)] (hnewT σ 74 2 [.nilp, .nils])).bind (impl_LexJoin.A0 k)) := by
  kernel_rfl
theorem impl_LexJoin.L0_step (k m : Nat) (a1 : V) (a2 : V) (a3 : V) (n4 : Int) (n5 : Int) (σ : Heap) : impl_LexJoin.L0 k (m + 1) [.v a1, .v a2, .v a3, .v (.int .i64 n4), .v (.int .i64 n5)] σ = (bif decide (n5 < n4) then ((vidx 1 a3 n5).bind fun p6 => (rdc σ p6.1 p6.2 1).bind fun l7 => uncons l7 fun c8 l9 => castStr c8 fun s10 => isNil l9 <| bif decide (0 < n5) then ((vidx 1 a1 (IntKind.wrap .i64 (n5 - 1))).bind fun p11 => (rdc σ p11.1 p11.2 1).bind fun l12 => uncons l12 fun c13 l14 => castStr c13 fun s15 => isNil l14 <| bif !decide (s15 = (⟨#[40]⟩ : ByteArray)) then (bif !decide (s10 = (⟨#[41]⟩ : ByteArray)) then ((hcall G k n_pstrings_Builder_WriteByte [a2, .int .u8 32] σ).bind fun q16 => (hcall G k n_pstrings_Builder_WriteString [a2, .str s10] q16.2).bind fun q17 => castTuple q17.1 fun l18 => uncons l18 fun c19 l20 => castInt .i64 c19 fun n21 => uncons l20 fun c22 l23 => isNil l23 <| impl_LexJoin.L0 k m [.v a1, .v a2, .v a3, .v (.int .i64 n4), .v (.int .i64 (IntKind.wrap .i64 (n5 + 1)))] q17.2) else ((hcall G k n_pstrings_Builder_WriteString [a2, .str s10] σ).bind fun q24 => castTuple q24.1 fun l25 => uncons l25 fun c26 l27 => castInt .i64 c26 fun n28 => uncons l27 fun c29 l30 => isNil l30 <| impl_LexJoin.L0 k m [.v a1, .v a2, .v a3, .v (.int .i64 n4), .v (.int .i64 (IntKind.wrap .i64 (n5 + 1)))] q24.2)) else ((hcall G k n_pstrings_Builder_WriteString [a2, .str s10] σ).bind fun q31 => castTuple q31.1 fun l32 => uncons l32 fun c33 l34 => castInt .i64 c33 fun n35 => uncons l34 fun c36 l37 => isNil l37 <| impl_LexJoin.L0 k m [.v a1, .v a2, .v a3, .v (.int .i64 n4), .v (.int .i64 (IntKind.wrap .i64 (n5 + 1)))] q31.2)) else ((hcall G k n_pstrings_Builder_WriteString [a2, .str s10] σ).bind fun q38 => castTuple q38.1 fun l39 => uncons l39 fun c40 l41 => castInt .i64 c40 fun n42 => uncons l41 fun c43 l44 => isNil l44 <| impl_LexJoin.L0 k m [.v a1, .v a2, .v a3, .v (.int .i64 n4), .v (.int .i64 (IntKind.wrap .i64 (n5 + 1)))] q38.2)) else (some (.exit 0, [.bot, .v a2], σ))) := by
  kernel_rfl
theorem impl_LexJoin.A0_x0 (k : Nat) (t1 : T) (a2 : V) (σ : Heap) : impl_LexJoin.A0 k (.exit 0, [t1, .v a2], σ) = ((hcall G k n_pstrings_Builder_String [a2] σ).bind fun q3 => castStr q3.1 fun s4 => some (.str s4, q3.2)) := by
  kernel_rfl

/-! loop.example/smithy/impl.TreePrint: function 20 -/
noncomputable def impl_TreePrint.L0 (k : Nat) : Nat → List T → Heap → Option (Ex × List T × Heap) := hloop (hx (G.env n_impl_TreePrint k) k 22 (subc (bodyOf Tryd.f20) [1, 1, 1, 0, 1, 0, 0]) 0) 22 (G.msk n_impl_TreePrint 0).1 (G.msk n_impl_TreePrint 0).2
noncomputable def impl_TreePrint.A0 (k : Nat) : Ex × List T × Heap → Option (V × Heap) := fun r => aft (G.env n_impl_TreePrint k) k 22 (bodyOf Tryd.f20) [1, 1, 1, 0, 1, 0] 0 (ck G.P Tryd.f20) r.1 (unpick 22 (G.msk n_impl_TreePrint 0).2 r.2.1) r.2.2
theorem impl_TreePrint.eq (k : Nat) (a1 : V) (a2 : V) (a3 : V) (σ : Heap) : hcall G (k + 1) n_impl_TreePrint [.agg [a1, a2, a3]] σ = ((hcall G k n_impl_TreeOk [.agg [a1, a2, a3]] σ).bind fun q4 => castBool q4.1 fun b5 => bif !b5 then (some (.str (⟨#[]⟩ : ByteArray), q4.2)) else ((hcall G k n_impl_TreeMod_forms [.agg [a1, a2, a3]] (hnewT q4.2 74 2 [.nilp, .nils])).bind fun q6 => (vlen q6.1).bind fun k7 => (impl_TreePrint.L0 k k [.v (.ptr q4.2.length 0), .v q6.1, .v (.int .i64 (k7 : Int)), .v (.int .i64 0)] q6.2).bind (impl_TreePrint.A0 k))) := by
  kernel_rfl
theorem impl_TreePrint.L0_step (k m : Nat) (a1 : V) (a2 : V) (n3 : Int) (n4 : Int) (σ : Heap) : impl_TreePrint.L0 k (m + 1) [.v a1, .v a2, .v (.int .i64 n3), .v (.int .i64 n4)] σ = (bif decide (n4 < n3) then ((vidx 1 a2 n4).bind fun p5 => (rdc σ p5.1 p5.2 1).bind fun l6 => uncons l6 fun c7 l8 => isNil l8 <| (hcall G k n_impl_LexJoin [c7] σ).bind fun q9 => castStr q9.1 fun s10 => if s10.size + (⟨#[10]⟩ : ByteArray).size ≤ 2 ^ 62 then ((hcall G k n_pstrings_Builder_WriteString [a1, .str (s10 ++ (⟨#[10]⟩ : ByteArray))] q9.2).bind fun q11 => castTuple q11.1 fun l12 => uncons l12 fun c13 l14 => castInt .i64 c13 fun n15 => uncons l14 fun c16 l17 => isNil l17 <| impl_TreePrint.L0 k m [.v a1, .v a2, .v (.int .i64 n3), .v (.int .i64 (IntKind.wrap .i64 (n4 + 1)))] q11.2) else none) else (some (.exit 0, [.bot, .v a1], σ))) := by
  kernel_rfl
theorem impl_TreePrint.A0_x0 (k : Nat) (t1 : T) (a2 : V) (σ : Heap) : impl_TreePrint.A0 k (.exit 0, [t1, .v a2], σ) = ((hcall G k n_pstrings_Builder_String [a2] σ).bind fun q3 => castStr q3.1 fun s4 => some (.str s4, q3.2)) := by
  kernel_rfl

/-! loop.example/smithy/laws.eqStringS: function 53 -/
noncomputable def laws_eqStringS.L0 (k : Nat) : Nat → List T → Heap → Option (Ex × List T × Heap) := hloop (hx (G.env n_laws_eqStringS k) k 26 (subc (bodyOf Tryd.f53) [1, 1, 0, 1, 0, 0]) 0) 26 (G.msk n_laws_eqStringS 0).1 (G.msk n_laws_eqStringS 0).2
noncomputable def laws_eqStringS.A0 (k : Nat) : Ex × List T × Heap → Option (V × Heap) := fun r => aft (G.env n_laws_eqStringS k) k 26 (bodyOf Tryd.f53) [1, 1, 0, 1, 0] 0 (ck G.P Tryd.f53) r.1 (unpick 26 (G.msk n_laws_eqStringS 0).2 r.2.1) r.2.2
theorem laws_eqStringS.eq (k : Nat) (a1 : V) (a2 : V) (σ : Heap) : hcall G (k + 1) n_laws_eqStringS [a1, a2] σ = ((vlen a1).bind fun k3 => (vlen a2).bind fun k4 => bif !decide ((k3 : Int) = (k4 : Int)) then (some (.bool false, σ)) else ((laws_eqStringS.L0 k k [.v a1, .v a2, .v (.int .i64 0)] σ).bind (laws_eqStringS.A0 k))) := by
  kernel_rfl
theorem laws_eqStringS.L0_step (k m : Nat) (a1 : V) (a2 : V) (n3 : Int) (σ : Heap) : laws_eqStringS.L0 k (m + 1) [.v a1, .v a2, .v (.int .i64 n3)] σ = ((vlen a1).bind fun k4 => bif decide (n3 < (k4 : Int)) then ((vidx 1 a1 n3).bind fun p5 => (rdc σ p5.1 p5.2 1).bind fun l6 => uncons l6 fun c7 l8 => castStr c7 fun s9 => isNil l8 <| (vidx 1 a2 n3).bind fun p10 => (rdc σ p10.1 p10.2 1).bind fun l11 => uncons l11 fun c12 l13 => castStr c12 fun s14 => isNil l13 <| bif !decide (s9 = s14) then (some (.ret, [.v (.bool false)], σ)) else (laws_eqStringS.L0 k m [.v a1, .v a2, .v (.int .i64 (IntKind.wrap .i64 (n3 + 1)))] σ)) else (some (.exit 0, [.bot], σ))) := by
  kernel_rfl
theorem laws_eqStringS.A0_x0 (k : Nat) (t1 : T) (σ : Heap) : laws_eqStringS.A0 k (.exit 0, [t1], σ) = (some (.bool true, σ)) := by
  kernel_rfl
theorem laws_eqStringS.A0_ret (k : Nat) (b1 : Bool) (σ : Heap) : laws_eqStringS.A0 k (.ret, [.v (.bool b1)], σ) = (some (.bool b1, σ)) := by
  kernel_rfl

/-! loop.example/smithy/laws.eqTreeExprS: function 55 -/
noncomputable def laws_eqTreeExprS.L0 (k : Nat) : Nat → List T → Heap → Option (Ex × List T × Heap) := hloop (hx (G.env n_laws_eqTreeExprS k) k 27 (subc (bodyOf Tryd.f55) [1, 1, 0, 1, 0, 0]) 0) 27 (G.msk n_laws_eqTreeExprS 0).1 (G.msk n_laws_eqTreeExprS 0).2
noncomputable def laws_eqTreeExprS.A0 (k : Nat) : Ex × List T × Heap → Option (V × Heap) := fun r => aft (G.env n_laws_eqTreeExprS k) k 27 (bodyOf Tryd.f55) [1, 1, 0, 1, 0] 0 (ck G.P Tryd.f55) r.1 (unpick 27 (G.msk n_laws_eqTreeExprS 0).2 r.2.1) r.2.2
theorem laws_eqTreeExprS.eq (k : Nat) (a1 : V) (a2 : V) (σ : Heap) : hcall G (k + 1) n_laws_eqTreeExprS [a1, a2] σ = ((vlen a1).bind fun k3 => (vlen a2).bind fun k4 => bif !decide ((k3 : Int) = (k4 : Int)) then (some (.bool false, σ)) else ((laws_eqTreeExprS.L0 k k [.v a1, .v a2, .v (.int .i64 0)] σ).bind (laws_eqTreeExprS.A0 k))) := by
  kernel_rfl
theorem laws_eqTreeExprS.L0_step (k m : Nat) (a1 : V) (a2 : V) (n3 : Int) (σ : Heap) : laws_eqTreeExprS.L0 k (m + 1) [.v a1, .v a2, .v (.int .i64 n3)] σ = ((vlen a1).bind fun k4 => bif decide (n3 < (k4 : Int)) then ((vidx 5 a1 n3).bind fun p5 => (rdc σ p5.1 p5.2 5).bind fun l6 => uncons l6 fun c7 l8 => castInt .i64 c7 fun n9 => uncons l8 fun c10 l11 => castInt .i64 c10 fun n12 => uncons l11 fun c13 l14 => castStr c13 fun s15 => uncons l14 fun c16 l17 => castStr c16 fun s18 => uncons l17 fun c19 l20 => isNil l20 <| (vidx 5 a2 n3).bind fun p21 => (rdc σ p21.1 p21.2 5).bind fun l22 => uncons l22 fun c23 l24 => castInt .i64 c23 fun n25 => uncons l24 fun c26 l27 => castInt .i64 c26 fun n28 => uncons l27 fun c29 l30 => castStr c29 fun s31 => uncons l30 fun c32 l33 => castStr c32 fun s34 => uncons l33 fun c35 l36 => isNil l36 <| (hcall G k n_laws_eqTreeExpr [.agg [.int .i64 n9, .int .i64 n12, .str s15, .str s18, c19], .agg [.int .i64 n25, .int .i64 n28, .str s31, .str s34, c35]] σ).bind fun q37 => castBool q37.1 fun b38 => bif !b38 then (some (.ret, [.v (.bool false)], q37.2)) else (laws_eqTreeExprS.L0 k m [.v a1, .v a2, .v (.int .i64 (IntKind.wrap .i64 (n3 + 1)))] q37.2)) else (some (.exit 0, [.bot], σ))) := by
  kernel_rfl
theorem laws_eqTreeExprS.A0_x0 (k : Nat) (t1 : T) (σ : Heap) : laws_eqTreeExprS.A0 k (.exit 0, [t1], σ) = (some (.bool true, σ)) := by
  kernel_rfl
theorem laws_eqTreeExprS.A0_ret (k : Nat) (b1 : Bool) (σ : Heap) : laws_eqTreeExprS.A0 k (.ret, [.v (.bool b1)], σ) = (some (.bool b1, σ)) := by
  kernel_rfl

/-! loop.example/smithy/laws.eqTreeExpr: function 101 -/
theorem laws_eqTreeExpr.eq (k : Nat) (n1 : Int) (n2 : Int) (s3 : ByteArray) (s4 : ByteArray) (a5 : V) (n6 : Int) (n7 : Int) (s8 : ByteArray) (s9 : ByteArray) (a10 : V) (σ : Heap) : hcall G (k + 1) n_laws_eqTreeExpr [.agg [.int .i64 n1, .int .i64 n2, .str s3, .str s4, a5], .agg [.int .i64 n6, .int .i64 n7, .str s8, .str s9, a10]] σ = (bif !decide (n1 = n6) then (some (.bool false, σ)) else (bif !decide (n2 = n7) then (some (.bool false, σ)) else (bif !decide (s3 = s8) then (some (.bool false, σ)) else (bif !decide (s4 = s9) then (some (.bool false, σ)) else ((hcall G k n_laws_eqTreeExprS [a5, a10] σ).bind fun q11 => castBool q11.1 fun b12 => bif !b12 then (some (.bool false, q11.2)) else (some (.bool true, q11.2))))))) := by
  kernel_rfl

/-! loop.example/smithy/laws.eqTreeArg: function 159 -/
theorem laws_eqTreeArg.eq (k : Nat) (s1 : ByteArray) (n2 : Int) (s3 : ByteArray) (n4 : Int) (σ : Heap) : hcall G (k + 1) n_laws_eqTreeArg [.agg [.str s1, .int .i64 n2], .agg [.str s3, .int .i64 n4]] σ = (bif !decide (s1 = s3) then (some (.bool false, σ)) else (bif !decide (n2 = n4) then (some (.bool false, σ)) else (some (.bool true, σ)))) := by
  kernel_rfl

/-! loop.example/smithy/laws.eqTreeArgS: function 133 -/
noncomputable def laws_eqTreeArgS.L0 (k : Nat) : Nat → List T → Heap → Option (Ex × List T × Heap) := hloop (hx (G.env n_laws_eqTreeArgS k) k 27 (subc (bodyOf Tryd.f133) [1, 1, 0, 1, 0, 0]) 0) 27 (G.msk n_laws_eqTreeArgS 0).1 (G.msk n_laws_eqTreeArgS 0).2
noncomputable def laws_eqTreeArgS.A0 (k : Nat) : Ex × List T × Heap → Option (V × Heap) := fun r => aft (G.env n_laws_eqTreeArgS k) k 27 (bodyOf Tryd.f133) [1, 1, 0, 1, 0] 0 (ck G.P Tryd.f133) r.1 (unpick 27 (G.msk n_laws_eqTreeArgS 0).2 r.2.1) r.2.2
theorem laws_eqTreeArgS.eq (k : Nat) (a1 : V) (a2 : V) (σ : Heap) : hcall G (k + 1) n_laws_eqTreeArgS [a1, a2] σ = ((vlen a1).bind fun k3 => (vlen a2).bind fun k4 => bif !decide ((k3 : Int) = (k4 : Int)) then (some (.bool false, σ)) else ((laws_eqTreeArgS.L0 k k [.v a1, .v a2, .v (.int .i64 0)] σ).bind (laws_eqTreeArgS.A0 k))) := by
  kernel_rfl
theorem laws_eqTreeArgS.L0_step (k m : Nat) (a1 : V) (a2 : V) (n3 : Int) (σ : Heap) : laws_eqTreeArgS.L0 k (m + 1) [.v a1, .v a2, .v (.int .i64 n3)] σ = ((vlen a1).bind fun k4 => bif decide (n3 < (k4 : Int)) then ((vidx 2 a1 n3).bind fun p5 => (rdc σ p5.1 p5.2 2).bind fun l6 => uncons l6 fun c7 l8 => castStr c7 fun s9 => uncons l8 fun c10 l11 => castInt .i64 c10 fun n12 => isNil l11 <| (vidx 2 a2 n3).bind fun p13 => (rdc σ p13.1 p13.2 2).bind fun l14 => uncons l14 fun c15 l16 => castStr c15 fun s17 => uncons l16 fun c18 l19 => castInt .i64 c18 fun n20 => isNil l19 <| (hcall G k n_laws_eqTreeArg [.agg [.str s9, .int .i64 n12], .agg [.str s17, .int .i64 n20]] σ).bind fun q21 => castBool q21.1 fun b22 => bif !b22 then (some (.ret, [.v (.bool false)], q21.2)) else (laws_eqTreeArgS.L0 k m [.v a1, .v a2, .v (.int .i64 (IntKind.wrap .i64 (n3 + 1)))] q21.2)) else (some (.exit 0, [.bot], σ))) := by
  kernel_rfl
theorem laws_eqTreeArgS.A0_x0 (k : Nat) (t1 : T) (σ : Heap) : laws_eqTreeArgS.A0 k (.exit 0, [t1], σ) = (some (.bool true, σ)) := by
  kernel_rfl
theorem laws_eqTreeArgS.A0_ret (k : Nat) (b1 : Bool) (σ : Heap) : laws_eqTreeArgS.A0 k (.ret, [.v (.bool b1)], σ) = (some (.bool b1, σ)) := by
  kernel_rfl

/-! loop.example/smithy/laws.eqTreeFun: function 100 -/
theorem laws_eqTreeFun.eq (k : Nat) (s1 : ByteArray) (b2 : Bool) (a3 : V) (n4 : Int) (n5 : Int) (n6 : Int) (s7 : ByteArray) (s8 : ByteArray) (a9 : V) (s10 : ByteArray) (b11 : Bool) (a12 : V) (n13 : Int) (n14 : Int) (n15 : Int) (s16 : ByteArray) (s17 : ByteArray) (a18 : V) (σ : Heap) : hcall G (k + 1) n_laws_eqTreeFun [.agg [.str s1, .bool b2, a3, .int .i64 n4, .int .i64 n5, .int .i64 n6, .str s7, .str s8, a9], .agg [.str s10, .bool b11, a12, .int .i64 n13, .int .i64 n14, .int .i64 n15, .str s16, .str s17, a18]] σ = (bif !decide (s1 = s10) then (some (.bool false, σ)) else (bif !(b2 == b11) then (some (.bool false, σ)) else ((hcall G k n_laws_eqTreeArgS [a3, a12] σ).bind fun q19 => castBool q19.1 fun b20 => bif !b20 then (some (.bool false, q19.2)) else (bif !decide (n4 = n13) then (some (.bool false, q19.2)) else ((hcall G k n_laws_eqTreeExpr [.agg [.int .i64 n5, .int .i64 n6, .str s7, .str s8, a9], .agg [.int .i64 n14, .int .i64 n15, .str s16, .str s17, a18]] q19.2).bind fun q21 => castBool q21.1 fun b22 => bif !b22 then (some (.bool false, q21.2)) else (some (.bool true, q21.2))))))) := by
  kernel_rfl

/-! loop.example/smithy/laws.eqTreeFunS: function 54 -/
noncomputable def laws_eqTreeFunS.L0 (k : Nat) : Nat → List T → Heap → Option (Ex × List T × Heap) := hloop (hx (G.env n_laws_eqTreeFunS k) k 27 (subc (bodyOf Tryd.f54) [1, 1, 0, 1, 0, 0]) 0) 27 (G.msk n_laws_eqTreeFunS 0).1 (G.msk n_laws_eqTreeFunS 0).2
noncomputable def laws_eqTreeFunS.A0 (k : Nat) : Ex × List T × Heap → Option (V × Heap) := fun r => aft (G.env n_laws_eqTreeFunS k) k 27 (bodyOf Tryd.f54) [1, 1, 0, 1, 0] 0 (ck G.P Tryd.f54) r.1 (unpick 27 (G.msk n_laws_eqTreeFunS 0).2 r.2.1) r.2.2
theorem laws_eqTreeFunS.eq (k : Nat) (a1 : V) (a2 : V) (σ : Heap) : hcall G (k + 1) n_laws_eqTreeFunS [a1, a2] σ = ((vlen a1).bind fun k3 => (vlen a2).bind fun k4 => bif !decide ((k3 : Int) = (k4 : Int)) then (some (.bool false, σ)) else ((laws_eqTreeFunS.L0 k k [.v a1, .v a2, .v (.int .i64 0)] σ).bind (laws_eqTreeFunS.A0 k))) := by
  kernel_rfl
theorem laws_eqTreeFunS.L0_step (k m : Nat) (a1 : V) (a2 : V) (n3 : Int) (σ : Heap) : laws_eqTreeFunS.L0 k (m + 1) [.v a1, .v a2, .v (.int .i64 n3)] σ = ((vlen a1).bind fun k4 => bif decide (n3 < (k4 : Int)) then ((vidx 9 a1 n3).bind fun p5 => (rdc σ p5.1 p5.2 9).bind fun l6 => uncons l6 fun c7 l8 => castStr c7 fun s9 => uncons l8 fun c10 l11 => castBool c10 fun b12 => uncons l11 fun c13 l14 => uncons l14 fun c15 l16 => castInt .i64 c15 fun n17 => uncons l16 fun c18 l19 => castInt .i64 c18 fun n20 => uncons l19 fun c21 l22 => castInt .i64 c21 fun n23 => uncons l22 fun c24 l25 => castStr c24 fun s26 => uncons l25 fun c27 l28 => castStr c27 fun s29 => uncons l28 fun c30 l31 => isNil l31 <| (vidx 9 a2 n3).bind fun p32 => (rdc σ p32.1 p32.2 9).bind fun l33 => uncons l33 fun c34 l35 => castStr c34 fun s36 => uncons l35 fun c37 l38 => castBool c37 fun b39 => uncons l38 fun c40 l41 => uncons l41 fun c42 l43 => castInt .i64 c42 fun n44 => uncons l43 fun c45 l46 => castInt .i64 c45 fun n47 => uncons l46 fun c48 l49 => castInt .i64 c48 fun n50 => uncons l49 fun c51 l52 => castStr c51 fun s53 => uncons l52 fun c54 l55 => castStr c54 fun s56 => uncons l55 fun c57 l58 => isNil l58 <| (hcall G k n_laws_eqTreeFun [.agg [.str s9, .bool b12, c13, .int .i64 n17, .int .i64 n20, .int .i64 n23, .str s26, .str s29, c30], .agg [.str s36, .bool b39, c40, .int .i64 n44, .int .i64 n47, .int .i64 n50, .str s53, .str s56, c57]] σ).bind fun q59 => castBool q59.1 fun b60 => bif !b60 then (some (.ret, [.v (.bool false)], q59.2)) else (laws_eqTreeFunS.L0 k m [.v a1, .v a2, .v (.int .i64 (IntKind.wrap .i64 (n3 + 1)))] q59.2)) else (some (.exit 0, [.bot], σ))) := by
  kernel_rfl
theorem laws_eqTreeFunS.A0_x0 (k : Nat) (t1 : T) (σ : Heap) : laws_eqTreeFunS.A0 k (.exit 0, [t1], σ) = (some (.bool true, σ)) := by
  kernel_rfl
theorem laws_eqTreeFunS.A0_ret (k : Nat) (b1 : Bool) (σ : Heap) : laws_eqTreeFunS.A0 k (.ret, [.v (.bool b1)], σ) = (some (.bool b1, σ)) := by
  kernel_rfl

/-! loop.example/smithy/laws.eqTreeMod: function 21 -/
theorem laws_eqTreeMod.eq (k : Nat) (a1 : V) (a2 : V) (a3 : V) (a4 : V) (a5 : V) (a6 : V) (σ : Heap) : hcall G (k + 1) n_laws_eqTreeMod [.agg [a1, a2, a3], .agg [a4, a5, a6]] σ = ((hcall G k n_laws_eqStringS [a1, a4] σ).bind fun q7 => castBool q7.1 fun b8 => bif !b8 then (some (.bool false, q7.2)) else ((hcall G k n_laws_eqTreeFunS [a2, a5] q7.2).bind fun q9 => castBool q9.1 fun b10 => bif !b10 then (some (.bool false, q9.2)) else ((hcall G k n_laws_eqTreeExprS [a3, a6] q9.2).bind fun q11 => castBool q11.1 fun b12 => bif !b12 then (some (.bool false, q11.2)) else (some (.bool true, q11.2))))) := by
  kernel_rfl

/-! loop.example/smithy/laws.FnExactTreePrint: function 6 -/
theorem laws_FnExactTreePrint.eq (k : Nat) (a1 : V) (a2 : V) (a3 : V) (σ : Heap) : hcall G (k + 1) n_laws_FnExactTreePrint [.agg [a1, a2, a3]] σ = ((hcall G k n_laws_szTreeMod [.agg [a1, a2, a3], .int .i64 1048576] σ).bind fun q4 => castInt .i64 q4.1 fun n5 => bif decide (n5 < 0) then (some (.bool true, q4.2)) else ((hcall G k n_laws_toTreeMod [.agg [a1, a2, a3]] q4.2).bind fun q6 => castAgg q6.1 fun l7 => uncons l7 fun c8 l9 => uncons l9 fun c10 l11 => uncons l11 fun c12 l13 => isNil l13 <| (hcall G k n_spec_TreePrint [.agg [c8, c10, c12]] q6.2).bind fun q14 => castStr q14.1 fun s15 => (hcall G k n_laws_toTreeMod [.agg [a1, a2, a3]] q14.2).bind fun q16 => castAgg q16.1 fun l17 => uncons l17 fun c18 l19 => uncons l19 fun c20 l21 => uncons l21 fun c22 l23 => isNil l23 <| (hcall G k n_impl_TreePrint [.agg [c18, c20, c22]] q16.2).bind fun q24 => castStr q24.1 fun s25 => bif !decide (s25 = s15) then (some (.bool false, q24.2)) else ((hcall G k n_laws_toTreeMod [.agg [a1, a2, a3]] q24.2).bind fun q26 => castAgg q26.1 fun l27 => uncons l27 fun c28 l29 => uncons l29 fun c30 l31 => uncons l31 fun c32 l33 => isNil l33 <| (hcall G k n_laws_eqTreeMod [.agg [c18, c20, c22], .agg [c28, c30, c32]] q26.2).bind fun q34 => castBool q34.1 fun b35 => bif !b35 then (some (.bool false, q34.2)) else (some (.bool true, q34.2))))) := by
  kernel_rfl

/-! loop.example/smithy/impl.decimal: function 29 -/
theorem impl_decimal.eq (k : Nat) (s1 : ByteArray) (σ : Heap) : hcall G (k + 1) n_impl_decimal [.str s1] σ = ((hcall G k n_strconv_Atoi [.str s1] σ).bind fun q2 => castTuple q2.1 fun l3 => uncons l3 fun c4 l5 => castInt .i64 c4 fun n6 => uncons l5 fun c7 l8 => isNil l8 <| (nilI c7).bind fun b9 => bif b9 then ((hcall G k n_strconv_Itoa [.int .i64 n6] q2.2).bind fun q10 => castStr q10.1 fun s11 => some (.tuple [.int .i64 n6, .bool (decide (s11 = s1))], q10.2)) else (some (.tuple [.int .i64 n6, .bool false], q2.2))) := by
  kernel_rfl

/-! loop.example/smithy/impl.LexNum: function 11 -/
theorem impl_LexNum.eq (k : Nat) (s1 : ByteArray) (σ : Heap) : hcall G (k + 1) n_impl_LexNum [.str s1] σ = ((hcall G k n_impl_decimal [.str s1] σ).bind fun q2 => castTuple q2.1 fun l3 => uncons l3 fun c4 l5 => castInt .i64 c4 fun n6 => uncons l5 fun c7 l8 => castBool c7 fun b9 => isNil l8 <| bif !b9 then (some (.tuple [.int .i64 0, .bool false], q2.2)) else ((hcall G k n_impl_isShort [.int .i64 n6] q2.2).bind fun q10 => castBool q10.1 fun b11 => bif !b11 then (some (.tuple [.int .i64 0, .bool false], q10.2)) else (some (.tuple [.int .i64 n6, .bool true], q10.2)))) := by
  kernel_rfl

/-! loop.example/smithy/laws.szIntS: function 72 -/
theorem laws_szIntS.eq (k : Nat) (a1 : V) (n2 : Int) (σ : Heap) : hcall G (k + 1) n_laws_szIntS [a1, .int .i64 n2] σ = ((vlen a1).bind fun k3 => bif decide (IntKind.wrap .i64 (n2 - (k3 : Int)) < 0) then (some (.int .i64 (-1), σ)) else (some (.int .i64 (IntKind.wrap .i64 (n2 - (k3 : Int))), σ))) := by
  kernel_rfl

/-! loop.example/smithy/laws.szFaceSig: function 31 -/
theorem laws_szFaceSig.eq (k : Nat) (s1 : ByteArray) (a2 : V) (n3 : Int) (n4 : Int) (σ : Heap) : hcall G (k + 1) n_laws_szFaceSig [.agg [.str s1, a2, .int .i64 n3], .int .i64 n4] σ = (bif decide (IntKind.wrap .i64 (n4 - (s1.size : Int)) < 0) then (some (.int .i64 (-1), σ)) else ((hcall G k n_laws_szIntS [a2, .int .i64 (IntKind.wrap .i64 (n4 - (s1.size : Int)))] σ).bind fun q5 => castInt .i64 q5.1 fun n6 => bif decide (n6 < 0) then (some (.int .i64 (-1), q5.2)) else (some (.int .i64 n6, q5.2)))) := by
  kernel_rfl

/-! loop.example/smithy/laws.szFaceSigS: function 12 -/
noncomputable def laws_szFaceSigS.L0 (k : Nat) : Nat → List T → Heap → Option (Ex × List T × Heap) := hloop (hx (G.env n_laws_szFaceSigS k) k 27 (subc (bodyOf Tryd.f12) [1, 1, 1, 0, 1, 0, 0]) 0) 27 (G.msk n_laws_szFaceSigS 0).1 (G.msk n_laws_szFaceSigS 0).2
noncomputable def laws_szFaceSigS.A0 (k : Nat) : Ex × List T × Heap → Option (V × Heap) := fun r => aft (G.env n_laws_szFaceSigS k) k 27 (bodyOf Tryd.f12) [1, 1, 1, 0, 1, 0] 0 (ck G.P Tryd.f12) r.1 (unpick 27 (G.msk n_laws_szFaceSigS 0).2 r.2.1) r.2.2
theorem laws_szFaceSigS.eq (k : Nat) (a1 : V) (n2 : Int) (σ : Heap) : hcall G (k + 1) n_laws_szFaceSigS [a1, .int .i64 n2] σ = ((vlen a1).bind fun k3 => bif decide (IntKind.wrap .i64 (n2 - (k3 : Int)) < 0) then (some (.int .i64 (-1), σ)) else ((laws_szFaceSigS.L0 k k [.v a1, .v (.int .i64 (IntKind.wrap .i64 (n2 - (k3 : Int)))), .v (.int .i64 0)] σ).bind (laws_szFaceSigS.A0 k))) := by
  kernel_rfl
theorem laws_szFaceSigS.L0_step (k m : Nat) (a1 : V) (n2 : Int) (n3 : Int) (σ : Heap) : laws_szFaceSigS.L0 k (m + 1) [.v a1, .v (.int .i64 n2), .v (.int .i64 n3)] σ = ((vlen a1).bind fun k4 => bif decide (n3 < (k4 : Int)) then ((vidx 3 a1 n3).bind fun p5 => (rdc σ p5.1 p5.2 3).bind fun l6 => uncons l6 fun c7 l8 => castStr c7 fun s9 => uncons l8 fun c10 l11 => uncons l11 fun c12 l13 => castInt .i64 c12 fun n14 => isNil l13 <| (hcall G k n_laws_szFaceSig [.agg [.str s9, c10, .int .i64 n14], .int .i64 n2] σ).bind fun q15 => castInt .i64 q15.1 fun n16 => bif decide (n16 < 0) then (some (.ret, [.v (.int .i64 n16), .v (.int .i64 (-1))], q15.2)) else (laws_szFaceSigS.L0 k m [.v a1, .v (.int .i64 n16), .v (.int .i64 (IntKind.wrap .i64 (n3 + 1)))] q15.2)) else (some (.exit 0, [.v (.int .i64 n2), .bot], σ))) := by
  kernel_rfl
theorem laws_szFaceSigS.A0_x0 (k : Nat) (n1 : Int) (t2 : T) (σ : Heap) : laws_szFaceSigS.A0 k (.exit 0, [.v (.int .i64 n1), t2], σ) = (some (.int .i64 n1, σ)) := by
  kernel_rfl
theorem laws_szFaceSigS.A0_ret (k : Nat) (t1 : T) (n2 : Int) (σ : Heap) : laws_szFaceSigS.A0 k (.ret, [t1, .v (.int .i64 n2)], σ) = (some (.int .i64 n2, σ)) := by
  kernel_rfl

/-! loop.example/smithy/laws.toIntS: function 74 -/
noncomputable def laws_toIntS.L0 (k : Nat) : Nat → List T → Heap → Option (Ex × List T × Heap) := hloop (hx (G.env n_laws_toIntS k) k 22 (subc (bodyOf Tryd.f74) [1, 1, 0, 1, 0, 0]) 0) 22 (G.msk n_laws_toIntS 0).1 (G.msk n_laws_toIntS 0).2
noncomputable def laws_toIntS.A0 (k : Nat) : Ex × List T × Heap → Option (V × Heap) := fun r => aft (G.env n_laws_toIntS k) k 22 (bodyOf Tryd.f74) [1, 1, 0, 1, 0] 0 (ck G.P Tryd.f74) r.1 (unpick 22 (G.msk n_laws_toIntS 0).2 r.2.1) r.2.2
theorem laws_toIntS.eq (k : Nat) (a1 : V) (σ : Heap) : hcall G (k + 1) n_laws_toIntS [a1] σ = ((vlen a1).bind fun k2 => if 0 ≤ (k2 : Int) ∧ (k2 : Int) * 8 ≤ 2 ^ 46 ∧ (k2 : Int) ≤ 2 ^ 46 then ((laws_toIntS.L0 k k [.v a1, .v (.sl σ.length 0 ((k2 : Int) : Int).toNat true), .v (.int .i64 0)] (hnew σ 1 (List.replicate ((k2 : Int) : Int).toNat [.int .i64 0]).flatten)).bind (laws_toIntS.A0 k)) else none) := by
  kernel_rfl
theorem laws_toIntS.L0_step (k m : Nat) (a1 : V) (a2 : V) (n3 : Int) (σ : Heap) : laws_toIntS.L0 k (m + 1) [.v a1, .v a2, .v (.int .i64 n3)] σ = ((vlen a1).bind fun k4 => bif decide (n3 < (k4 : Int)) then ((vidx 1 a1 n3).bind fun p5 => (rdc σ p5.1 p5.2 1).bind fun l6 => uncons l6 fun c7 l8 => castInt .i64 c7 fun n9 => isNil l8 <| (vidx 1 a2 n3).bind fun p10 => (wrc σ p10.1 p10.2 [.int .i64 n9]).bind fun h11 => laws_toIntS.L0 k m [.v a1, .v a2, .v (.int .i64 (IntKind.wrap .i64 (n3 + 1)))] h11) else (some (.exit 0, [.bot, .v a2], σ))) := by
  kernel_rfl
theorem laws_toIntS.A0_x0 (k : Nat) (t1 : T) (a2 : V) (σ : Heap) : laws_toIntS.A0 k (.exit 0, [t1, .v a2], σ) = (some (a2, σ)) := by
  kernel_rfl

/-! loop.example/smithy/laws.toFaceSig: function 34 -/
theorem laws_toFaceSig.eq (k : Nat) (s1 : ByteArray) (a2 : V) (n3 : Int) (σ : Heap) : hcall G (k + 1) n_laws_toFaceSig [.agg [.str s1, a2, .int .i64 n3]] σ = ((hcall G k n_laws_toIntS [a2] σ).bind fun q4 => one q4.1 <| some (.agg [.str s1, q4.1, .int .i64 n3], q4.2)) := by
  kernel_rfl

/-! loop.example/smithy/laws.toFaceSigS: function 14 -/
noncomputable def laws_toFaceSigS.L0 (k : Nat) : Nat → List T → Heap → Option (Ex × List T × Heap) := hloop (hx (G.env n_laws_toFaceSigS k) k 23 (subc (bodyOf Tryd.f14) [1, 1, 0, 1, 0, 0]) 0) 23 (G.msk n_laws_toFaceSigS 0).1 (G.msk n_laws_toFaceSigS 0).2
noncomputable def laws_toFaceSigS.A0 (k : Nat) : Ex × List T × Heap → Option (V × Heap) := fun r => aft (G.env n_laws_toFaceSigS k) k 23 (bodyOf Tryd.f14) [1, 1, 0, 1, 0] 0 (ck G.P Tryd.f14) r.1 (unpick 23 (G.msk n_laws_toFaceSigS 0).2 r.2.1) r.2.2
theorem laws_toFaceSigS.eq (k : Nat) (a1 : V) (σ : Heap) : hcall G (k + 1) n_laws_toFaceSigS [a1] σ = ((vlen a1).bind fun k2 => if 0 ≤ (k2 : Int) ∧ (k2 : Int) * 48 ≤ 2 ^ 46 ∧ (k2 : Int) ≤ 2 ^ 46 then ((laws_toFaceSigS.L0 k k [.v a1, .v (.sl σ.length 0 ((k2 : Int) : Int).toNat true), .v (.int .i64 0)] (hnew σ 3 (List.replicate ((k2 : Int) : Int).toNat [.str (⟨#[]⟩ : ByteArray), .nils, .int .i64 0]).flatten)).bind (laws_toFaceSigS.A0 k)) else none) := by
  kernel_rfl
theorem laws_toFaceSigS.L0_step (k m : Nat) (a1 : V) (a2 : V) (n3 : Int) (σ : Heap) : laws_toFaceSigS.L0 k (m + 1) [.v a1, .v a2, .v (.int .i64 n3)] σ = ((vlen a1).bind fun k4 => bif decide (n3 < (k4 : Int)) then ((vidx 3 a1 n3).bind fun p5 => (rdc σ p5.1 p5.2 3).bind fun l6 => uncons l6 fun c7 l8 => castStr c7 fun s9 => uncons l8 fun c10 l11 => uncons l11 fun c12 l13 => castInt .i64 c12 fun n14 => isNil l13 <| (hcall G k n_laws_toFaceSig [.agg [.str s9, c10, .int .i64 n14]] σ).bind fun q15 => castAgg q15.1 fun l16 => uncons l16 fun c17 l18 => castStr c17 fun s19 => uncons l18 fun c20 l21 => uncons l21 fun c22 l23 => castInt .i64 c22 fun n24 => isNil l23 <| (vidx 3 a2 n3).bind fun p25 => (wrc q15.2 p25.1 p25.2 [.str s19, c20, .int .i64 n24]).bind fun h26 => laws_toFaceSigS.L0 k m [.v a1, .v a2, .v (.int .i64 (IntKind.wrap .i64 (n3 + 1)))] h26) else (some (.exit 0, [.bot, .v a2], σ))) := by
  kernel_rfl
theorem laws_toFaceSigS.A0_x0 (k : Nat) (t1 : T) (a2 : V) (σ : Heap) : laws_toFaceSigS.A0 k (.exit 0, [t1, .v a2], σ) = (some (a2, σ)) := by
  kernel_rfl

/-! loop.example/smithy/laws.eqIntS: function 79 -/
noncomputable def laws_eqIntS.L0 (k : Nat) : Nat → List T → Heap → Option (Ex × List T × Heap) := hloop (hx (G.env n_laws_eqIntS k) k 26 (subc (bodyOf Tryd.f79) [1, 1, 0, 1, 0, 0]) 0) 26 (G.msk n_laws_eqIntS 0).1 (G.msk n_laws_eqIntS 0).2
noncomputable def laws_eqIntS.A0 (k : Nat) : Ex × List T × Heap → Option (V × Heap) := fun r => aft (G.env n_laws_eqIntS k) k 26 (bodyOf Tryd.f79) [1, 1, 0, 1, 0] 0 (ck G.P Tryd.f79) r.1 (unpick 26 (G.msk n_laws_eqIntS 0).2 r.2.1) r.2.2
theorem laws_eqIntS.eq (k : Nat) (a1 : V) (a2 : V) (σ : Heap) : hcall G (k + 1) n_laws_eqIntS [a1, a2] σ = ((vlen a1).bind fun k3 => (vlen a2).bind fun k4 => bif !decide ((k3 : Int) = (k4 : Int)) then (some (.bool false, σ)) else ((laws_eqIntS.L0 k k [.v a1, .v a2, .v (.int .i64 0)] σ).bind (laws_eqIntS.A0 k))) := by
  kernel_rfl
theorem laws_eqIntS.L0_step (k m : Nat) (a1 : V) (a2 : V) (n3 : Int) (σ : Heap) : laws_eqIntS.L0 k (m + 1) [.v a1, .v a2, .v (.int .i64 n3)] σ = ((vlen a1).bind fun k4 => bif decide (n3 < (k4 : Int)) then ((vidx 1 a1 n3).bind fun p5 => (rdc σ p5.1 p5.2 1).bind fun l6 => uncons l6 fun c7 l8 => castInt .i64 c7 fun n9 => isNil l8 <| (vidx 1 a2 n3).bind fun p10 => (rdc σ p10.1 p10.2 1).bind fun l11 => uncons l11 fun c12 l13 => castInt .i64 c12 fun n14 => isNil l13 <| bif !decide (n9 = n14) then (some (.ret, [.v (.bool false)], σ)) else (laws_eqIntS.L0 k m [.v a1, .v a2, .v (.int .i64 (IntKind.wrap .i64 (n3 + 1)))] σ)) else (some (.exit 0, [.bot], σ))) := by
  kernel_rfl
theorem laws_eqIntS.A0_x0 (k : Nat) (t1 : T) (σ : Heap) : laws_eqIntS.A0 k (.exit 0, [t1], σ) = (some (.bool true, σ)) := by
  kernel_rfl
theorem laws_eqIntS.A0_ret (k : Nat) (b1 : Bool) (σ : Heap) : laws_eqIntS.A0 k (.ret, [.v (.bool b1)], σ) = (some (.bool b1, σ)) := by
  kernel_rfl

/-! loop.example/smithy/laws.eqFaceSig: function 39 -/
theorem laws_eqFaceSig.eq (k : Nat) (s1 : ByteArray) (a2 : V) (n3 : Int) (s4 : ByteArray) (a5 : V) (n6 : Int) (σ : Heap) : hcall G (k + 1) n_laws_eqFaceSig [.agg [.str s1, a2, .int .i64 n3], .agg [.str s4, a5, .int .i64 n6]] σ = (bif !decide (s1 = s4) then (some (.bool false, σ)) else ((hcall G k n_laws_eqIntS [a2, a5] σ).bind fun q7 => castBool q7.1 fun b8 => bif !b8 then (some (.bool false, q7.2)) else (bif !decide (n3 = n6) then (some (.bool false, q7.2)) else (some (.bool true, q7.2))))) := by
  kernel_rfl

/-! loop.example/smithy/laws.eqFaceSigS: function 16 -/
noncomputable def laws_eqFaceSigS.L0 (k : Nat) : Nat → List T → Heap → Option (Ex × List T × Heap) := hloop (hx (G.env n_laws_eqFaceSigS k) k 27 (subc (bodyOf Tryd.f16) [1, 1, 0, 1, 0, 0]) 0) 27 (G.msk n_laws_eqFaceSigS 0).1 (G.msk n_laws_eqFaceSigS 0).2
noncomputable def laws_eqFaceSigS.A0 (k : Nat) : Ex × List T × Heap → Option (V × Heap) := fun r => aft (G.env n_laws_eqFaceSigS k) k 27 (bodyOf Tryd.f16) [1, 1, 0, 1, 0] 0 (ck G.P Tryd.f16) r.1 (unpick 27 (G.msk n_laws_eqFaceSigS 0).2 r.2.1) r.2.2
theorem laws_eqFaceSigS.eq (k : Nat) (a1 : V) (a2 : V) (σ : Heap) : hcall G (k + 1) n_laws_eqFaceSigS [a1, a2] σ = ((vlen a1).bind fun k3 => (vlen a2).bind fun k4 => bif !decide ((k3 : Int) = (k4 : Int)) then (some (.bool false, σ)) else ((laws_eqFaceSigS.L0 k k [.v a1, .v a2, .v (.int .i64 0)] σ).bind (laws_eqFaceSigS.A0 k))) := by
  kernel_rfl
theorem laws_eqFaceSigS.L0_step (k m : Nat) (a1 : V) (a2 : V) (n3 : Int) (σ : Heap) : laws_eqFaceSigS.L0 k (m + 1) [.v a1, .v a2, .v (.int .i64 n3)] σ = ((vlen a1).bind fun k4 => bif decide (n3 < (k4 : Int)) then ((vidx 3 a1 n3).bind fun p5 => (rdc σ p5.1 p5.2 3).bind fun l6 => uncons l6 fun c7 l8 => castStr c7 fun s9 => uncons l8 fun c10 l11 => uncons l11 fun c12 l13 => castInt .i64 c12 fun n14 => isNil l13 <| (vidx 3 a2 n3).bind fun p15 => (rdc σ p15.1 p15.2 3).bind fun l16 => uncons l16 fun c17 l18 => castStr c17 fun s19 => uncons l18 fun c20 l21 => uncons l21 fun c22 l23 => castInt .i64 c22 fun n24 => isNil l23 <| (hcall G k n_laws_eqFaceSig [.agg [.str s9, c10, .int .i64 n14], .agg [.str s19, c20, .int .i64 n24]] σ).bind fun q25 => castBool q25.1 fun b26 => bif !b26 then (some (.ret, [.v (.bool false)], q25.2)) else (laws_eqFaceSigS.L0 k m [.v a1, .v a2, .v (.int .i64 (IntKind.wrap .i64 (n3 + 1)))] q25.2)) else (some (.exit 0, [.bot], σ))) := by
  kernel_rfl
theorem laws_eqFaceSigS.A0_x0 (k : Nat) (t1 : T) (σ : Heap) : laws_eqFaceSigS.A0 k (.exit 0, [t1], σ) = (some (.bool true, σ)) := by
  kernel_rfl
theorem laws_eqFaceSigS.A0_ret (k : Nat) (b1 : Bool) (σ : Heap) : laws_eqFaceSigS.A0 k (.ret, [.v (.bool b1)], σ) = (some (.bool b1, σ)) := by
  kernel_rfl

/-! loop.example/smithy/laws.szCodeRef: function 102 -/
theorem laws_szCodeRef.eq (k : Nat) (s1 : ByteArray) (s2 : ByteArray) (n3 : Int) (σ : Heap) : hcall G (k + 1) n_laws_szCodeRef [.agg [.str s1, .str s2], .int .i64 n3] σ = (bif decide (IntKind.wrap .i64 (n3 - (s1.size : Int)) < 0) then (some (.int .i64 (-1), σ)) else (bif decide (IntKind.wrap .i64 ((IntKind.wrap .i64 (n3 - (s1.size : Int))) - (s2.size : Int)) < 0) then (some (.int .i64 (-1), σ)) else (some (.int .i64 (IntKind.wrap .i64 ((IntKind.wrap .i64 (n3 - (s1.size : Int))) - (s2.size : Int))), σ)))) := by
  kernel_rfl

/-! loop.example/smithy/laws.szCodeRefS: function 56 -/
noncomputable def laws_szCodeRefS.L0 (k : Nat) : Nat → List T → Heap → Option (Ex × List T × Heap) := hloop (hx (G.env n_laws_szCodeRefS k) k 27 (subc (bodyOf Tryd.f56) [1, 1, 1, 0, 1, 0, 0]) 0) 27 (G.msk n_laws_szCodeRefS 0).1 (G.msk n_laws_szCodeRefS 0).2
noncomputable def laws_szCodeRefS.A0 (k : Nat) : Ex × List T × Heap → Option (V × Heap) := fun r => aft (G.env n_laws_szCodeRefS k) k 27 (bodyOf Tryd.f56) [1, 1, 1, 0, 1, 0] 0 (ck G.P Tryd.f56) r.1 (unpick 27 (G.msk n_laws_szCodeRefS 0).2 r.2.1) r.2.2
theorem laws_szCodeRefS.eq (k : Nat) (a1 : V) (n2 : Int) (σ : Heap) : hcall G (k + 1) n_laws_szCodeRefS [a1, .int .i64 n2] σ = ((vlen a1).bind fun k3 => bif decide (IntKind.wrap .i64 (n2 - (k3 : Int)) < 0) then (some (.int .i64 (-1), σ)) else ((laws_szCodeRefS.L0 k k [.v a1, .v (.int .i64 (IntKind.wrap .i64 (n2 - (k3 : Int)))), .v (.int .i64 0)] σ).bind (laws_szCodeRefS.A0 k))) := by
  kernel_rfl
theorem laws_szCodeRefS.L0_step (k m : Nat) (a1 : V) (n2 : Int) (n3 : Int) (σ : Heap) : laws_szCodeRefS.L0 k (m + 1) [.v a1, .v (.int .i64 n2), .v (.int .i64 n3)] σ = ((vlen a1).bind fun k4 => bif decide (n3 < (k4 : Int)) then ((vidx 2 a1 n3).bind fun p5 => (rdc σ p5.1 p5.2 2).bind fun l6 => uncons l6 fun c7 l8 => castStr c7 fun s9 => uncons l8 fun c10 l11 => castStr c10 fun s12 => isNil l11 <| (hcall G k n_laws_szCodeRef [.agg [.str s9, .str s12], .int .i64 n2] σ).bind fun q13 => castInt .i64 q13.1 fun n14 => bif decide (n14 < 0) then (some (.ret, [.v (.int .i64 n14), .v (.int .i64 (-1))], q13.2)) else (laws_szCodeRefS.L0 k m [.v a1, .v (.int .i64 n14), .v (.int .i64 (IntKind.wrap .i64 (n3 + 1)))] q13.2)) else (some (.exit 0, [.v (.int .i64 n2), .bot], σ))) := by
  kernel_rfl
theorem laws_szCodeRefS.A0_x0 (k : Nat) (n1 : Int) (t2 : T) (σ : Heap) : laws_szCodeRefS.A0 k (.exit 0, [.v (.int .i64 n1), t2], σ) = (some (.int .i64 n1, σ)) := by
  kernel_rfl
theorem laws_szCodeRefS.A0_ret (k : Nat) (t1 : T) (n2 : Int) (σ : Heap) : laws_szCodeRefS.A0 k (.ret, [t1, .v (.int .i64 n2)], σ) = (some (.int .i64 n2, σ)) := by
  kernel_rfl

/-! loop.example/smithy/laws.szCodeInsS: function 134 -/
theorem laws_szCodeInsS.eq (k : Nat) (a1 : V) (n2 : Int) (σ : Heap) : hcall G (k + 1) n_laws_szCodeInsS [a1, .int .i64 n2] σ = ((vlen a1).bind fun k3 => bif decide (IntKind.wrap .i64 (n2 - (k3 : Int)) < 0) then (some (.int .i64 (-1), σ)) else (some (.int .i64 (IntKind.wrap .i64 (n2 - (k3 : Int))), σ))) := by
  kernel_rfl

/-! loop.example/smithy/laws.szCodeFun: function 103 -/
theorem laws_szCodeFun.eq (k : Nat) (s1 : ByteArray) (b2 : Bool) (a3 : V) (n4 : Int) (n5 : Int) (a6 : V) (n7 : Int) (σ : Heap) : hcall G (k + 1) n_laws_szCodeFun [.agg [.str s1, .bool b2, a3, .int .i64 n4, .int .i64 n5, a6], .int .i64 n7] σ = (bif decide (IntKind.wrap .i64 (n7 - (s1.size : Int)) < 0) then (some (.int .i64 (-1), σ)) else ((hcall G k n_laws_szIntS [a3, .int .i64 (IntKind.wrap .i64 (n7 - (s1.size : Int)))] σ).bind fun q8 => castInt .i64 q8.1 fun n9 => bif decide (n9 < 0) then (some (.int .i64 (-1), q8.2)) else ((hcall G k n_laws_szCodeInsS [a6, .int .i64 n9] q8.2).bind fun q10 => castInt .i64 q10.1 fun n11 => bif decide (n11 < 0) then (some (.int .i64 (-1), q10.2)) else (some (.int .i64 n11, q10.2))))) := by
  kernel_rfl

/-! loop.example/smithy/laws.szCodeFunS: function 57 -/
noncomputable def laws_szCodeFunS.L0 (k : Nat) : Nat → List T → Heap → Option (Ex × List T × Heap) := hloop (hx (G.env n_laws_szCodeFunS k) k 27 (subc (bodyOf Tryd.f57) [1, 1, 1, 0, 1, 0, 0]) 0) 27 (G.msk n_laws_szCodeFunS 0).1 (G.msk n_laws_szCodeFunS 0).2
noncomputable def laws_szCodeFunS.A0 (k : Nat) : Ex × List T × Heap → Option (V × Heap) := fun r => aft (G.env n_laws_szCodeFunS k) k 27 (bodyOf Tryd.f57) [1, 1, 1, 0, 1, 0] 0 (ck G.P Tryd.f57) r.1 (unpick 27 (G.msk n_laws_szCodeFunS 0).2 r.2.1) r.2.2
theorem laws_szCodeFunS.eq (k : Nat) (a1 : V) (n2 : Int) (σ : Heap) : hcall G (k + 1) n_laws_szCodeFunS [a1, .int .i64 n2] σ = ((vlen a1).bind fun k3 => bif decide (IntKind.wrap .i64 (n2 - (k3 : Int)) < 0) then (some (.int .i64 (-1), σ)) else ((laws_szCodeFunS.L0 k k [.v a1, .v (.int .i64 (IntKind.wrap .i64 (n2 - (k3 : Int)))), .v (.int .i64 0)] σ).bind (laws_szCodeFunS.A0 k))) := by
  kernel_rfl
theorem laws_szCodeFunS.L0_step (k m : Nat) (a1 : V) (n2 : Int) (n3 : Int) (σ : Heap) : laws_szCodeFunS.L0 k (m + 1) [.v a1, .v (.int .i64 n2), .v (.int .i64 n3)] σ = ((vlen a1).bind fun k4 => bif decide (n3 < (k4 : Int)) then ((vidx 6 a1 n3).bind fun p5 => (rdc σ p5.1 p5.2 6).bind fun l6 => uncons l6 fun c7 l8 => castStr c7 fun s9 => uncons l8 fun c10 l11 => castBool c10 fun b12 => uncons l11 fun c13 l14 => uncons l14 fun c15 l16 => castInt .i64 c15 fun n17 => uncons l16 fun c18 l19 => castInt .i64 c18 fun n20 => uncons l19 fun c21 l22 => isNil l22 <| (hcall G k n_laws_szCodeFun [.agg [.str s9, .bool b12, c13, .int .i64 n17, .int .i64 n20, c21], .int .i64 n2] σ).bind fun q23 => castInt .i64 q23.1 fun n24 => bif decide (n24 < 0) then (some (.ret, [.v (.int .i64 n24), .v (.int .i64 (-1))], q23.2)) else (laws_szCodeFunS.L0 k m [.v a1, .v (.int .i64 n24), .v (.int .i64 (IntKind.wrap .i64 (n3 + 1)))] q23.2)) else (some (.exit 0, [.v (.int .i64 n2), .bot], σ))) := by
  kernel_rfl
theorem laws_szCodeFunS.A0_x0 (k : Nat) (n1 : Int) (t2 : T) (σ : Heap) : laws_szCodeFunS.A0 k (.exit 0, [.v (.int .i64 n1), t2], σ) = (some (.int .i64 n1, σ)) := by
  kernel_rfl
theorem laws_szCodeFunS.A0_ret (k : Nat) (t1 : T) (n2 : Int) (σ : Heap) : laws_szCodeFunS.A0 k (.ret, [t1, .v (.int .i64 n2)], σ) = (some (.int .i64 n2, σ)) := by
  kernel_rfl

/-! loop.example/smithy/laws.szCodeObj: function 22 -/
theorem laws_szCodeObj.eq (k : Nat) (a1 : V) (a2 : V) (n3 : Int) (σ : Heap) : hcall G (k + 1) n_laws_szCodeObj [.agg [a1, a2], .int .i64 n3] σ = ((hcall G k n_laws_szCodeRefS [a1, .int .i64 n3] σ).bind fun q4 => castInt .i64 q4.1 fun n5 => bif decide (n5 < 0) then (some (.int .i64 (-1), q4.2)) else ((hcall G k n_laws_szCodeFunS [a2, .int .i64 n5] q4.2).bind fun q6 => castInt .i64 q6.1 fun n7 => bif decide (n7 < 0) then (some (.int .i64 (-1), q6.2)) else (some (.int .i64 n7, q6.2)))) := by
  kernel_rfl

/-! loop.example/smithy/laws.toCodeRef: function 106 -/
theorem laws_toCodeRef.eq (k : Nat) (s1 : ByteArray) (s2 : ByteArray) (σ : Heap) : hcall G (k + 1) n_laws_toCodeRef [.agg [.str s1, .str s2]] σ = (some (.agg [.str s1, .str s2], σ)) := by
  kernel_rfl

/-! loop.example/smithy/laws.toCodeRefS: function 62 -/
noncomputable def laws_toCodeRefS.L0 (k : Nat) : Nat → List T → Heap → Option (Ex × List T × Heap) := hloop (hx (G.env n_laws_toCodeRefS k) k 23 (subc (bodyOf Tryd.f62) [1, 1, 0, 1, 0, 0]) 0) 23 (G.msk n_laws_toCodeRefS 0).1 (G.msk n_laws_toCodeRefS 0).2
noncomputable def laws_toCodeRefS.A0 (k : Nat) : Ex × List T × Heap → Option (V × Heap) := fun r => aft (G.env n_laws_toCodeRefS k) k 23 (bodyOf Tryd.f62) [1, 1, 0, 1, 0] 0 (ck G.P Tryd.f62) r.1 (unpick 23 (G.msk n_laws_toCodeRefS 0).2 r.2.1) r.2.2
theorem laws_toCodeRefS.eq (k : Nat) (a1 : V) (σ : Heap) : hcall G (k + 1) n_laws_toCodeRefS [a1] σ = ((vlen a1).bind fun k2 => if 0 ≤ (k2 : Int) ∧ (k2 : Int) * 32 ≤ 2 ^ 46 ∧ (k2 : Int) ≤ 2 ^ 46 then ((laws_toCodeRefS.L0 k k [.v a1, .v (.sl σ.length 0 ((k2 : Int) : Int).toNat true), .v (.int .i64 0)] (hnew σ 2 (List.replicate ((k2 : Int) : Int).toNat [.str (⟨#[]⟩ : ByteArray), .str (⟨#[]⟩ : ByteArray)]).flatten)).bind (laws_toCodeRefS.A0 k)) else none) := by
  kernel_rfl
theorem laws_toCodeRefS.L0_step (k m : Nat) (a1 : V) (a2 : V) (n3 : Int) (σ : Heap) : laws_toCodeRefS.L0 k (m + 1) [.v a1, .v a2, .v (.int .i64 n3)] σ = ((vlen a1).bind fun k4 => bif decide (n3 < (k4 : Int)) then ((vidx 2 a1 n3).bind fun p5 => (rdc σ p5.1 p5.2 2).bind fun l6 => uncons l6 fun c7 l8 => castStr c7 fun s9 => uncons l8 fun c10 l11 => castStr c10 fun s12 => isNil l11 <| (hcall G k n_laws_toCodeRef [.agg [.str s9, .str s12]] σ).bind fun q13 => castAgg q13.1 fun l14 => uncons l14 fun c15 l16 => castStr c15 fun s17 => uncons l16 fun c18 l19 => castStr c18 fun s20 => isNil l19 <| (vidx 2 a2 n3).bind fun p21 => (wrc q13.2 p21.1 p21.2 [.str s17, .str s20]).bind fun h22 => laws_toCodeRefS.L0 k m [.v a1, .v a2, .v (.int .i64 (IntKind.wrap .i64 (n3 + 1)))] h22) else (some (.exit 0, [.bot, .v a2], σ))) := by
  kernel_rfl
theorem laws_toCodeRefS.A0_x0 (k : Nat) (t1 : T) (a2 : V) (σ : Heap) : laws_toCodeRefS.A0 k (.exit 0, [t1, .v a2], σ) = (some (a2, σ)) := by
  kernel_rfl

/-! loop.example/smithy/laws.toCodeIns: function 160 -/
theorem laws_toCodeIns.eq (k : Nat) (n1 : Int) (n2 : Int) (σ : Heap) : hcall G (k + 1) n_laws_toCodeIns [.agg [.int .i64 n1, .int .i64 n2]] σ = (some (.agg [.int .i64 n1, .int .i64 n2], σ)) := by
  kernel_rfl

/-! loop.example/smithy/laws.toCodeInsS: function 138 -/
noncomputable def laws_toCodeInsS.L0 (k : Nat) : Nat → List T → Heap → Option (Ex × List T × Heap) := hloop (hx (G.env n_laws_toCodeInsS k) k 23 (subc (bodyOf Tryd.f138) [1, 1, 0, 1, 0, 0]) 0) 23 (G.msk n_laws_toCodeInsS 0).1 (G.msk n_laws_toCodeInsS 0).2
noncomputable def laws_toCodeInsS.A0 (k : Nat) : Ex × List T × Heap → Option (V × Heap) := fun r => aft (G.env n_laws_toCodeInsS k) k 23 (bodyOf Tryd.f138) [1, 1, 0, 1, 0] 0 (ck G.P Tryd.f138) r.1 (unpick 23 (G.msk n_laws_toCodeInsS 0).2 r.2.1) r.2.2
theorem laws_toCodeInsS.eq (k : Nat) (a1 : V) (σ : Heap) : hcall G (k + 1) n_laws_toCodeInsS [a1] σ = ((vlen a1).bind fun k2 => if 0 ≤ (k2 : Int) ∧ (k2 : Int) * 16 ≤ 2 ^ 46 ∧ (k2 : Int) ≤ 2 ^ 46 then ((laws_toCodeInsS.L0 k k [.v a1, .v (.sl σ.length 0 ((k2 : Int) : Int).toNat true), .v (.int .i64 0)] (hnew σ 2 (List.replicate ((k2 : Int) : Int).toNat [.int .i64 0, .int .i64 0]).flatten)).bind (laws_toCodeInsS.A0 k)) else none) := by
  kernel_rfl
theorem laws_toCodeInsS.L0_step (k m : Nat) (a1 : V) (a2 : V) (n3 : Int) (σ : Heap) : laws_toCodeInsS.L0 k (m + 1) [.v a1, .v a2, .v (.int .i64 n3)] σ = ((vlen a1).bind fun k4 => bif decide (n3 < (k4 : Int)) then ((vidx 2 a1 n3).bind fun p5 => (rdc σ p5.1 p5.2 2).bind fun l6 => uncons l6 fun c7 l8 => castInt .i64 c7 fun n9 => uncons l8 fun c10 l11 => castInt .i64 c10 fun n12 => isNil l11 <| (hcall G k n_laws_toCodeIns [.agg [.int .i64 n9, .int .i64 n12]] σ).bind fun q13 => castAgg q13.1 fun l14 => uncons l14 fun c15 l16 => castInt .i64 c15 fun n17 => uncons l16 fun c18 l19 => castInt .i64 c18 fun n20 => isNil l19 <| (vidx 2 a2 n3).bind fun p21 => (wrc q13.2 p21.1 p21.2 [.int .i64 n17, .int .i64 n20]).bind fun h22 => laws_toCodeInsS.L0 k m [.v a1, .v a2, .v (.int .i64 (IntKind.wrap .i64 (n3 + 1)))] h22) else (some (.exit 0, [.bot, .v a2], σ))) := by
  kernel_rfl
theorem laws_toCodeInsS.A0_x0 (k : Nat) (t1 : T) (a2 : V) (σ : Heap) : laws_toCodeInsS.A0 k (.exit 0, [t1, .v a2], σ) = (some (a2, σ)) := by
  kernel_rfl

/-! loop.example/smithy/laws.toCodeFun: function 107 -/
theorem laws_toCodeFun.eq (k : Nat) (s1 : ByteArray) (b2 : Bool) (a3 : V) (n4 : Int) (n5 : Int) (a6 : V) (σ : Heap) : hcall G (k + 1) n_laws_toCodeFun [.agg [.str s1, .bool b2, a3, .int .i64 n4, .int .i64 n5, a6]] σ = ((hcall G k n_laws_toIntS [a3] σ).bind fun q7 => one q7.1 <| (hcall G k n_laws_toCodeInsS [a6] q7.2).bind fun q8 => one q8.1 <| some (.agg [.str s1, .bool b2, q7.1, .int .i64 n4, .int .i64 n5, q8.1], q8.2)) := by
  kernel_rfl

/-! loop.example/smithy/laws.toCodeFunS: function 63 -/
noncomputable def laws_toCodeFunS.L0 (k : Nat) : Nat → List T → Heap → Option (Ex × List T × Heap) := hloop (hx (G.env n_laws_toCodeFunS k) k 23 (subc (bodyOf Tryd.f63) [1, 1, 0, 1, 0, 0]) 0) 23 (G.msk n_laws_toCodeFunS 0).1 (G.msk n_laws_toCodeFunS 0).2
noncomputable def laws_toCodeFunS.A0 (k : Nat) : Ex × List T × Heap → Option (V × Heap) := fun r => aft (G.env n_laws_toCodeFunS k) k 23 (bodyOf Tryd.f63) [1, 1, 0, 1, 0] 0 (ck G.P Tryd.f63) r.1 (unpick 23 (G.msk n_laws_toCodeFunS 0).2 r.2.1) r.2.2
theorem laws_toCodeFunS.eq (k : Nat) (a1 : V) (σ : Heap) : hcall G (k + 1) n_laws_toCodeFunS [a1] σ = ((vlen a1).bind fun k2 => if 0 ≤ (k2 : Int) ∧ (k2 : Int) * 88 ≤ 2 ^ 46 ∧ (k2 : Int) ≤ 2 ^ 46 then ((laws_toCodeFunS.L0 k k [.v a1, .v (.sl σ.length 0 ((k2 : Int) : Int).toNat true), .v (.int .i64 0)] (hnew σ 6 (List.replicate ((k2 : Int) : Int).toNat [.str (⟨#[]⟩ : ByteArray), .bool false, .nils, .int .i64 0, .int .i64 0, .nils]).flatten)).bind (laws_toCodeFunS.A0 k)) else none) := by
  kernel_rfl
theorem laws_toCodeFunS.L0_step (k m : Nat) (a1 : V) (a2 : V) (n3 : Int) (σ : Heap) : laws_toCodeFunS.L0 k (m + 1) [.v a1, .v a2, .v (.int .i64 n3)] σ = ((vlen a1).bind fun k4 => bif decide (n3 < (k4 : Int)) then ((vidx 6 a1 n3).bind fun p5 => (rdc σ p5.1 p5.2 6).bind fun l6 => uncons l6 fun c7 l8 => castStr c7 fun s9 => uncons l8 fun c10 l11 => castBool c10 fun b12 => uncons l11 fun c13 l14 => uncons l14 fun c15 l16 => castInt .i64 c15 fun n17 => uncons l16 fun c18 l19 => castInt .i64 c18 fun n20 => uncons l19 fun c21 l22 => isNil l22 <| (hcall G k n_laws_toCodeFun [.agg [.str s9, .bool b12, c13, .int .i64 n17, .int .i64 n20, c21]] σ).bind fun q23 => castAgg q23.1 fun l24 => uncons l24 fun c25 l26 => castStr c25 fun s27 => uncons l26 fun c28 l29 => castBool c28 fun b30 => uncons l29 fun c31 l32 => uncons l32 fun c33 l34 => castInt .i64 c33 fun n35 => uncons l34 fun c36 l37 => castInt .i64 c36 fun n38 => uncons l37 fun c39 l40 => isNil l40 <| (vidx 6 a2 n3).bind fun p41 => (wrc q23.2 p41.1 p41.2 [.str s27, .bool b30, c31, .int .i64 n35, .int .i64 n38, c39]).bind fun h42 => laws_toCodeFunS.L0 k m [.v a1, .v a2, .v (.int .i64 (IntKind.wrap .i64 (n3 + 1)))] h42) else (some (.exit 0, [.bot, .v a2], σ))) := by
  kernel_rfl
theorem laws_toCodeFunS.A0_x0 (k : Nat) (t1 : T) (a2 : V) (σ : Heap) : laws_toCodeFunS.A0 k (.exit 0, [t1, .v a2], σ) = (some (a2, σ)) := by
  kernel_rfl

/-! loop.example/smithy/laws.toCodeObj: function 24 -/
theorem laws_toCodeObj.eq (k : Nat) (a1 : V) (a2 : V) (σ : Heap) : hcall G (k + 1) n_laws_toCodeObj [.agg [a1, a2]] σ = ((hcall G k n_laws_toCodeRefS [a1] σ).bind fun q3 => one q3.1 <| (hcall G k n_laws_toCodeFunS [a2] q3.2).bind fun q4 => one q4.1 <| some (.agg [q3.1, q4.1], q4.2)) := by
  kernel_rfl

/-! loop.example/smithy/laws.eqCodeRef: function 114 -/
theorem laws_eqCodeRef.eq (k : Nat) (s1 : ByteArray) (s2 : ByteArray) (s3 : ByteArray) (s4 : ByteArray) (σ : Heap) : hcall G (k + 1) n_laws_eqCodeRef [.agg [.str s1, .str s2], .agg [.str s3, .str s4]] σ = (bif !decide (s1 = s3) then (some (.bool false, σ)) else (bif !decide (s2 = s4) then (some (.bool false, σ)) else (some (.bool true, σ)))) := by
  kernel_rfl
end Go.D
