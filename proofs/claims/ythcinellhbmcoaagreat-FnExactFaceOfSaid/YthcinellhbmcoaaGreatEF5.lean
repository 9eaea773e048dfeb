/- The functions' equations. -/
import Derived.Test.YthcinellhbmcoaaGreatEG
namespace Go.Y
open Go.HM Go.Proofs
set_option linter.unusedVariables false
set_option maxRecDepth 1000000
set_option maxHeartbeats 4000000

/-! slices.SortFunc[[]loop.example/smithy/impl.FaceSig,loop.example/smithy/impl.FaceSig]: function 96 -/
theorem slices_SortFunc_impl_FaceSig_impl_FaceSig.eq (k : Nat) (a1 : V) (a2 : V) (σ : Heap) : hcall G (k + 1) n_slices_SortFunc_impl_FaceSig_impl_FaceSig [a1, a2] σ = ((vlen a1).bind fun k3 => (hcall G k n_math_bits_Len [.int .u64 (IntKind.wrap .u64 (k3 : Int))] σ).bind fun q4 => castInt .i64 q4.1 fun n5 => (hcall G k n_slices_pdqsortCmpFunc_impl_FaceSig [a1, .int .i64 0, .int .i64 (k3 : Int), .int .i64 n5, a2] q4.2).bind fun q6 => castTuple q6.1 fun l7 => isNil l7 <| some (.tuple [], q6.2)) := by
  kernel_rfl

/-! loop.example/smithy/impl.faceOf$1: function 97 -/
theorem impl_faceOf_1.eq (k : Nat) (s1 : ByteArray) (a2 : V) (n3 : Int) (s4 : ByteArray) (a5 : V) (n6 : Int) (σ : Heap) : hcall G (k + 1) n_impl_faceOf_1 [.agg [.str s1, a2, .int .i64 n3], .agg [.str s4, a5, .int .i64 n6]] σ = ((hcall G k n_strings_Compare [.str s1, .str s4] σ).bind fun q7 => castInt .i64 q7.1 fun n8 => some (.int .i64 n8, q7.2)) := by
  kernel_rfl

/-! loop.example/smithy/impl.faceOf: function 52 -/
noncomputable def impl_faceOf.L0 (k : Nat) : Nat → List T → Heap → Option (Ex × List T × Heap) := hloop (hx (G.env n_impl_faceOf k) k 25 (subc (bodyOf Tryz.f52) [1, 1, 0, 1, 0, 0]) 0) 25 (G.msk n_impl_faceOf 0).1 (G.msk n_impl_faceOf 0).2
noncomputable def impl_faceOf.A0 (k : Nat) : Ex × List T × Heap → Option (V × Heap) := fun r => aft (G.env n_impl_faceOf k) k 25 (bodyOf Tryz.f52) [1, 1, 0, 1, 0] 0 (ck G.P Tryz.f52) r.1 (unpick 25 (G.msk n_impl_faceOf 0).2 r.2.1) r.2.2
theorem impl_faceOf.eq (k : Nat) (a1 : V) (a2 : V) (a3 : V) (σ : Heap) : hcall G (k + 1) n_impl_faceOf [.agg [a1, a2, a3]] σ = ((vlen a2).bind fun k4 => (impl_faceOf.L0 k k [.v (.sl σ.length 0 0 true), .v a2, .v (.int .i64 (k4 : Int)), .v (.int .i64 0)] (hnew σ 3 [])).bind (impl_faceOf.A0 k)) := by
  kernel_rfl
theorem impl_faceOf.L0_step (k m : Nat) (a1 : V) (a2 : V) (n3 : Int) (n4 : Int) (σ : Heap) : impl_faceOf.L0 k (m + 1) [.v a1, .v a2, .v (.int .i64 n3), .v (.int .i64 n4)] σ = (bif decide (n4 < n3) then ((vidx 9 a2 n4).bind fun p5 => (rdc σ p5.1 p5.2 9).bind fun l6 => uncons l6 fun c7 l8 => castStr c7 fun s9 => uncons l8 fun c10 l11 => castBool c10 fun b12 => uncons l11 fun c13 l14 => uncons l14 fun c15 l16 => castInt .i64 c15 fun n17 => uncons l16 fun c18 l19 => castInt .i64 c18 fun n20 => uncons l19 fun c21 l22 => castInt .i64 c21 fun n23 => uncons l22 fun c24 l25 => castStr c24 fun s26 => uncons l25 fun c27 l28 => castStr c27 fun s29 => uncons l28 fun c30 l31 => isNil l31 <| bif b12 then ((hcall G k n_impl_TreeFun_sig [.agg [.str s9, .bool b12, c13, .int .i64 n17, .int .i64 n20, .int .i64 n23, .str s26, .str s29, c30]] σ).bind fun q32 => castAgg q32.1 fun l33 => uncons l33 fun c34 l35 => castStr c34 fun s36 => uncons l35 fun c37 l38 => uncons l38 fun c39 l40 => castInt .i64 c39 fun n41 => isNil l40 <| (vappend 3 48 q32.2 a1 1 [.str s36, c37, .int .i64 n41]).bind fun q42 => impl_faceOf.L0 k m [.v q42.1, .v a2, .v (.int .i64 n3), .v (.int .i64 (IntKind.wrap .i64 (n4 + 1)))] q42.2) else (impl_faceOf.L0 k m [.v a1, .v a2, .v (.int .i64 n3), .v (.int .i64 (IntKind.wrap .i64 (n4 + 1)))] σ)) else (some (.exit 0, [.bot, .v a1], σ))) := by
  kernel_rfl
theorem impl_faceOf.A0_x0 (k : Nat) (t1 : T) (a2 : V) (σ : Heap) : impl_faceOf.A0 k (.exit 0, [t1, .v a2], σ) = ((hcall G k n_slices_SortFunc_impl_FaceSig_impl_FaceSig [a2, .fn n_impl_faceOf_1 []] σ).bind fun q3 => castTuple q3.1 fun l4 => isNil l4 <| some (a2, q3.2)) := by
  kernel_rfl

/-! loop.example/smithy/impl.FaceOf: function 21 -/
theorem impl_FaceOf.eq (k : Nat) (a1 : V) (a2 : V) (a3 : V) (σ : Heap) : hcall G (k + 1) n_impl_FaceOf [.agg [a1, a2, a3]] σ = ((hcall G k n_impl_TreeOk [.agg [a1, a2, a3]] σ).bind fun q4 => castBool q4.1 fun b5 => bif !b5 then (some (.nils, q4.2)) else ((hcall G k n_impl_faceOf [.agg [a1, a2, a3]] q4.2).bind fun q6 => some (q6.1, q6.2))) := by
  kernel_rfl

/-! loop.example/smithy/laws.eqIntS: function 99 -/
noncomputable def laws_eqIntS.L0 (k : Nat) : Nat → List T → Heap → Option (Ex × List T × Heap) := hloop (hx (G.env n_laws_eqIntS k) k 26 (subc (bodyOf Tryz.f99) [1, 1, 0, 1, 0, 0]) 0) 26 (G.msk n_laws_eqIntS 0).1 (G.msk n_laws_eqIntS 0).2
noncomputable def laws_eqIntS.A0 (k : Nat) : Ex × List T × Heap → Option (V × Heap) := fun r => aft (G.env n_laws_eqIntS k) k 26 (bodyOf Tryz.f99) [1, 1, 0, 1, 0] 0 (ck G.P Tryz.f99) r.1 (unpick 26 (G.msk n_laws_eqIntS 0).2 r.2.1) r.2.2
theorem laws_eqIntS.eq (k : Nat) (a1 : V) (a2 : V) (σ : Heap) : hcall G (k + 1) n_laws_eqIntS [a1, a2] σ = ((vlen a1).bind fun k3 => (vlen a2).bind fun k4 => bif !decide ((k3 : Int) = (k4 : Int)) then (some (.bool false, σ)) else ((laws_eqIntS.L0 k k [.v a1, .v a2, .v (.int .i64 0)] σ).bind (laws_eqIntS.A0 k))) := by
  kernel_rfl
theorem laws_eqIntS.L0_step (k m : Nat) (a1 : V) (a2 : V) (n3 : Int) (σ : Heap) : laws_eqIntS.L0 k (m + 1) [.v a1, .v a2, .v (.int .i64 n3)] σ = ((vlen a1).bind fun k4 => bif decide (n3 < (k4 : Int)) then ((vidx 1 a1 n3).bind fun p5 => (rdc σ p5.1 p5.2 1).bind fun l6 => uncons l6 fun c7 l8 => castInt .i64 c7 fun n9 => isNil l8 <| (vidx 1 a2 n3).bind fun p10 => (rdc σ p10.1 p10.2 1).bind fun l11 => uncons l11 fun c12 l13 => castInt .i64 c12 fun n14 => isNil l13 <| bif !decide (n9 = n14) then (some (.ret, [.v (.bool false)], σ)) else (laws_eqIntS.L0 k m [.v a1, .v a2, .v (.int .i64 (IntKind.wrap .i64 (n3 + 1)))] σ)) else (some (.exit 0, [.bot], σ))) := by
  kernel_rfl
theorem laws_eqIntS.A0_x0 (k : Nat) (t1 : T) (σ : Heap) : laws_eqIntS.A0 k (.exit 0, [t1], σ) = (some (.bool true, σ)) := by
  kernel_rfl
theorem laws_eqIntS.A0_ret (k : Nat) (b1 : Bool) (σ : Heap) : laws_eqIntS.A0 k (.ret, [.v (.bool b1)], σ) = (some (.bool b1, σ)) := by
  kernel_rfl

/-! loop.example/smithy/laws.eqFaceSig: function 53 -/
theorem laws_eqFaceSig.eq (k : Nat) (s1 : ByteArray) (a2 : V) (n3 : Int) (s4 : ByteArray) (a5 : V) (n6 : Int) (σ : Heap) : hcall G (k + 1) n_laws_eqFaceSig [.agg [.str s1, a2, .int .i64 n3], .agg [.str s4, a5, .int .i64 n6]] σ = (bif !decide (s1 = s4) then (some (.bool false, σ)) else ((hcall G k n_laws_eqIntS [a2, a5] σ).bind fun q7 => castBool q7.1 fun b8 => bif !b8 then (some (.bool false, q7.2)) else (bif !decide (n3 = n6) then (some (.bool false, q7.2)) else (some (.bool true, q7.2))))) := by
  kernel_rfl

/-! loop.example/smithy/laws.eqFaceSigS: function 22 -/
noncomputable def laws_eqFaceSigS.L0 (k : Nat) : Nat → List T → Heap → Option (Ex × List T × Heap) := hloop (hx (G.env n_laws_eqFaceSigS k) k 27 (subc (bodyOf Tryz.f22) [1, 1, 0, 1, 0, 0]) 0) 27 (G.msk n_laws_eqFaceSigS 0).1 (G.msk n_laws_eqFaceSigS 0).2
noncomputable def laws_eqFaceSigS.A0 (k : Nat) : Ex × List T × Heap → Option (V × Heap) := fun r => aft (G.env n_laws_eqFaceSigS k) k 27 (bodyOf Tryz.f22) [1, 1, 0, 1, 0] 0 (ck G.P Tryz.f22) r.1 (unpick 27 (G.msk n_laws_eqFaceSigS 0).2 r.2.1) r.2.2
theorem laws_eqFaceSigS.eq (k : Nat) (a1 : V) (a2 : V) (σ : Heap) : hcall G (k + 1) n_laws_eqFaceSigS [a1, a2] σ = ((vlen a1).bind fun k3 => (vlen a2).bind fun k4 => bif !decide ((k3 : Int) = (k4 : Int)) then (some (.bool false, σ)) else ((laws_eqFaceSigS.L0 k k [.v a1, .v a2, .v (.int .i64 0)] σ).bind (laws_eqFaceSigS.A0 k))) := by
  kernel_rfl
theorem laws_eqFaceSigS.L0_step (k m : Nat) (a1 : V) (a2 : V) (n3 : Int) (σ : Heap) : laws_eqFaceSigS.L0 k (m + 1) [.v a1, .v a2, .v (.int .i64 n3)] σ = ((vlen a1).bind fun k4 => bif decide (n3 < (k4 : Int)) then ((vidx 3 a1 n3).bind fun p5 => (rdc σ p5.1 p5.2 3).bind fun l6 => uncons l6 fun c7 l8 => castStr c7 fun s9 => uncons l8 fun c10 l11 => uncons l11 fun c12 l13 => castInt .i64 c12 fun n14 => isNil l13 <| (vidx 3 a2 n3).bind fun p15 => (rdc σ p15.1 p15.2 3).bind fun l16 => uncons l16 fun c17 l18 => castStr c17 fun s19 => uncons l18 fun c20 l21 => uncons l21 fun c22 l23 => castInt .i64 c22 fun n24 => isNil l23 <| (hcall G k n_laws_eqFaceSig [.agg [.str s9, c10, .int .i64 n14], .agg [.str s19, c20, .int .i64 n24]] σ).bind fun q25 => castBool q25.1 fun b26 => bif !b26 then (some (.ret, [.v (.bool false)], q25.2)) else (laws_eqFaceSigS.L0 k m [.v a1, .v a2, .v (.int .i64 (IntKind.wrap .i64 (n3 + 1)))] q25.2)) else (some (.exit 0, [.bot], σ))) := by
  kernel_rfl
theorem laws_eqFaceSigS.A0_x0 (k : Nat) (t1 : T) (σ : Heap) : laws_eqFaceSigS.A0 k (.exit 0, [t1], σ) = (some (.bool true, σ)) := by
  kernel_rfl
theorem laws_eqFaceSigS.A0_ret (k : Nat) (b1 : Bool) (σ : Heap) : laws_eqFaceSigS.A0 k (.ret, [.v (.bool b1)], σ) = (some (.bool b1, σ)) := by
  kernel_rfl

/-! loop.example/smithy/laws.markText: function 57 -/
noncomputable def laws_markText.L0 (k : Nat) : Nat → List T → Heap → Option (Ex × List T × Heap) := hloop (hx (G.env n_laws_markText k) k 20 (subc (bodyOf Tryz.f57) [1, 1, 1, 0, 0, 0]) 0) 20 (G.msk n_laws_markText 0).1 (G.msk n_laws_markText 0).2
noncomputable def laws_markText.A0 (k : Nat) : Ex × List T × Heap → Option (V × Heap) := fun r => aft (G.env n_laws_markText k) k 20 (bodyOf Tryz.f57) [1, 1, 1, 0, 0] 0 (ck G.P Tryz.f57) r.1 (unpick 20 (G.msk n_laws_markText 0).2 r.2.1) r.2.2
theorem laws_markText.eq (k : Nat) (n1 : Int) (σ : Heap) : hcall G (k + 1) n_laws_markText [.int .i64 n1] σ = (bif decide (n1 ≤ 0) then (some (.str (⟨#[109, 48]⟩ : ByteArray), σ)) else ((laws_markText.L0 k k [.v (.int .i64 n1), .v (.str (⟨#[]⟩ : ByteArray))] σ).bind (laws_markText.A0 k))) := by
  kernel_rfl
theorem laws_markText.L0_step (k m : Nat) (n1 : Int) (s2 : ByteArray) (σ : Heap) : laws_markText.L0 k (m + 1) [.v (.int .i64 n1), .v (.str s2)] σ = (bif decide (0 < n1) then ((bytesOf [.int .u8 (IntKind.wrap .u8 (IntKind.wrap .i64 (48 + (Int.tmod n1 10))))] .empty).bind fun s3 => if s3.size + s2.size ≤ 2 ^ 62 then (laws_markText.L0 k m [.v (.int .i64 (IntKind.wrap .i64 (Int.tdiv n1 10))), .v (.str (s3 ++ s2))] σ) else none) else (some (.exit 0, [.bot, .v (.str s2)], σ))) := by
  kernel_rfl
theorem laws_markText.A0_x0 (k : Nat) (t1 : T) (s2 : ByteArray) (σ : Heap) : laws_markText.A0 k (.exit 0, [t1, .v (.str s2)], σ) = (if (⟨#[109]⟩ : ByteArray).size + s2.size ≤ 2 ^ 62 then (some (.str ((⟨#[109]⟩ : ByteArray) ++ s2), σ)) else none) := by
  kernel_rfl

/-! loop.example/smithy/laws.markStringS: function 54 -/
noncomputable def laws_markStringS.L0 (k : Nat) : Nat → List T → Heap → Option (Ex × List T × Heap) := hloop (hx (G.env n_laws_markStringS k) k 20 (subc (bodyOf Tryz.f54) [1, 0, 1, 0, 0]) 0) 20 (G.msk n_laws_markStringS 0).1 (G.msk n_laws_markStringS 0).2
noncomputable def laws_markStringS.A0 (k : Nat) : Ex × List T × Heap → Option (V × Heap) := fun r => aft (G.env n_laws_markStringS k) k 20 (bodyOf Tryz.f54) [1, 0, 1, 0] 0 (ck G.P Tryz.f54) r.1 (unpick 20 (G.msk n_laws_markStringS 0).2 r.2.1) r.2.2
theorem laws_markStringS.eq (k : Nat) (a1 : V) (n2 : Int) (σ : Heap) : hcall G (k + 1) n_laws_markStringS [a1, .int .i64 n2] σ = ((laws_markStringS.L0 k k [.v a1, .v (.int .i64 n2), .v (.int .i64 0)] σ).bind (laws_markStringS.A0 k)) := by
  kernel_rfl
theorem laws_markStringS.L0_step (k m : Nat) (a1 : V) (n2 : Int) (n3 : Int) (σ : Heap) : laws_markStringS.L0 k (m + 1) [.v a1, .v (.int .i64 n2), .v (.int .i64 n3)] σ = ((vlen a1).bind fun k4 => bif decide (n3 < (k4 : Int)) then ((hcall G k n_laws_markText [.int .i64 n2] σ).bind fun q5 => castStr q5.1 fun s6 => (vidx 1 a1 n3).bind fun p7 => (wrc q5.2 p7.1 p7.2 [.str s6]).bind fun h8 => laws_markStringS.L0 k m [.v a1, .v (.int .i64 (IntKind.wrap .i64 (n2 + 1))), .v (.int .i64 (IntKind.wrap .i64 (n3 + 1)))] h8) else (some (.exit 0, [.v (.int .i64 n2), .bot], σ))) := by
  kernel_rfl
theorem laws_markStringS.A0_x0 (k : Nat) (n1 : Int) (t2 : T) (σ : Heap) : laws_markStringS.A0 k (.exit 0, [.v (.int .i64 n1), t2], σ) = (some (.int .i64 n1, σ)) := by
  kernel_rfl

/-! loop.example/smithy/laws.markTreeExprS: function 56 -/
noncomputable def laws_markTreeExprS.L0 (k : Nat) : Nat → List T → Heap → Option (Ex × List T × Heap) := hloop (hx (G.env n_laws_markTreeExprS k) k 50 (subc (bodyOf Tryz.f56) [1, 0, 1, 0, 0]) 0) 50 (G.msk n_laws_markTreeExprS 0).1 (G.msk n_laws_markTreeExprS 0).2
noncomputable def laws_markTreeExprS.A0 (k : Nat) : Ex × List T × Heap → Option (V × Heap) := fun r => aft (G.env n_laws_markTreeExprS k) k 50 (bodyOf Tryz.f56) [1, 0, 1, 0] 0 (ck G.P Tryz.f56) r.1 (unpick 50 (G.msk n_laws_markTreeExprS 0).2 r.2.1) r.2.2
theorem laws_markTreeExprS.eq (k : Nat) (a1 : V) (n2 : Int) (σ : Heap) : hcall G (k + 1) n_laws_markTreeExprS [a1, .int .i64 n2] σ = ((laws_markTreeExprS.L0 k k [.v a1, .v (.int .i64 n2), .v (.int .i64 0)] σ).bind (laws_markTreeExprS.A0 k)) := by
  kernel_rfl
theorem laws_markTreeExprS.L0_step (k m : Nat) (a1 : V) (n2 : Int) (n3 : Int) (σ : Heap) : laws_markTreeExprS.L0 k (m + 1) [.v a1, .v (.int .i64 n2), .v (.int .i64 n3)] σ = ((vlen a1).bind fun k4 => bif decide (n3 < (k4 : Int)) then ((vidx 5 a1 n3).bind fun p5 => (wrc σ p5.1 (p5.2 + 0) [.int .i64 n2]).bind fun h6 => (vidx 5 a1 n3).bind fun p7 => (wrc h6 p7.1 (p7.2 + 1) [.int .i64 (IntKind.wrap .i64 (n2 + 1))]).bind fun h8 => (hcall G k n_laws_markText [.int .i64 (IntKind.wrap .i64 ((IntKind.wrap .i64 (n2 + 1)) + 1))] h8).bind fun q9 => castStr q9.1 fun s10 => (vidx 5 a1 n3).bind fun p11 => (wrc q9.2 p11.1 (p11.2 + 2) [.str s10]).bind fun h12 => (hcall G k n_laws_markText [.int .i64 (IntKind.wrap .i64 ((IntKind.wrap .i64 ((IntKind.wrap .i64 (n2 + 1)) + 1)) + 1))] h12).bind fun q13 => castStr q13.1 fun s14 => (vidx 5 a1 n3).bind fun p15 => (wrc q13.2 p15.1 (p15.2 + 3) [.str s14]).bind fun h16 => (vidx 5 a1 n3).bind fun p17 => (rdc h16 p17.1 (p17.2 + 4) 1).bind fun l18 => uncons l18 fun c19 l20 => isNil l20 <| (hcall G k n_laws_markTreeExprS [c19, .int .i64 (IntKind.wrap .i64 ((IntKind.wrap .i64 ((IntKind.wrap .i64 ((IntKind.wrap .i64 (n2 + 1)) + 1)) + 1)) + 1))] h16).bind fun q21 => castInt .i64 q21.1 fun n22 => laws_markTreeExprS.L0 k m [.v a1, .v (.int .i64 n22), .v (.int .i64 (IntKind.wrap .i64 (n3 + 1)))] q21.2) else (some (.exit 0, [.v (.int .i64 n2), .bot], σ))) := by
  kernel_rfl
theorem laws_markTreeExprS.A0_x0 (k : Nat) (n1 : Int) (t2 : T) (σ : Heap) : laws_markTreeExprS.A0 k (.exit 0, [.v (.int .i64 n1), t2], σ) = (some (.int .i64 n1, σ)) := by
  kernel_rfl

/-! loop.example/smithy/laws.markTreeArgS: function 100 -/
noncomputable def laws_markTreeArgS.L0 (k : Nat) : Nat → List T → Heap → Option (Ex × List T × Heap) := hloop (hx (G.env n_laws_markTreeArgS k) k 28 (subc (bodyOf Tryz.f100) [1, 0, 1, 0, 0]) 0) 28 (G.msk n_laws_markTreeArgS 0).1 (G.msk n_laws_markTreeArgS 0).2
noncomputable def laws_markTreeArgS.A0 (k : Nat) : Ex × List T × Heap → Option (V × Heap) := fun r => aft (G.env n_laws_markTreeArgS k) k 28 (bodyOf Tryz.f100) [1, 0, 1, 0] 0 (ck G.P Tryz.f100) r.1 (unpick 28 (G.msk n_laws_markTreeArgS 0).2 r.2.1) r.2.2
theorem laws_markTreeArgS.eq (k : Nat) (a1 : V) (n2 : Int) (σ : Heap) : hcall G (k + 1) n_laws_markTreeArgS [a1, .int .i64 n2] σ = ((laws_markTreeArgS.L0 k k [.v a1, .v (.int .i64 n2), .v (.int .i64 0)] σ).bind (laws_markTreeArgS.A0 k)) := by
  kernel_rfl
theorem laws_markTreeArgS.L0_step (k m : Nat) (a1 : V) (n2 : Int) (n3 : Int) (σ : Heap) : laws_markTreeArgS.L0 k (m + 1) [.v a1, .v (.int .i64 n2), .v (.int .i64 n3)] σ = ((vlen a1).bind fun k4 => bif decide (n3 < (k4 : Int)) then ((hcall G k n_laws_markText [.int .i64 n2] σ).bind fun q5 => castStr q5.1 fun s6 => (vidx 2 a1 n3).bind fun p7 => (wrc q5.2 p7.1 (p7.2 + 0) [.str s6]).bind fun h8 => (vidx 2 a1 n3).bind fun p9 => (wrc h8 p9.1 (p9.2 + 1) [.int .i64 (IntKind.wrap .i64 (n2 + 1))]).bind fun h10 => laws_markTreeArgS.L0 k m [.v a1, .v (.int .i64 (IntKind.wrap .i64 ((IntKind.wrap .i64 (n2 + 1)) + 1))), .v (.int .i64 (IntKind.wrap .i64 (n3 + 1)))] h10) else (some (.exit 0, [.v (.int .i64 n2), .bot], σ))) := by
  kernel_rfl
theorem laws_markTreeArgS.A0_x0 (k : Nat) (n1 : Int) (t2 : T) (σ : Heap) : laws_markTreeArgS.A0 k (.exit 0, [.v (.int .i64 n1), t2], σ) = (some (.int .i64 n1, σ)) := by
  kernel_rfl

/-! loop.example/smithy/laws.markTreeFunS: function 55 -/
noncomputable def laws_markTreeFunS.L0 (k : Nat) : Nat → List T → Heap → Option (Ex × List T × Heap) := hloop (hx (G.env n_laws_markTreeFunS k) k 86 (subc (bodyOf Tryz.f55) [1, 0, 1, 0, 0]) 0) 86 (G.msk n_laws_markTreeFunS 0).1 (G.msk n_laws_markTreeFunS 0).2
noncomputable def laws_markTreeFunS.A0 (k : Nat) : Ex × List T × Heap → Option (V × Heap) := fun r => aft (G.env n_laws_markTreeFunS k) k 86 (bodyOf Tryz.f55) [1, 0, 1, 0] 0 (ck G.P Tryz.f55) r.1 (unpick 86 (G.msk n_laws_markTreeFunS 0).2 r.2.1) r.2.2
theorem laws_markTreeFunS.eq (k : Nat) (a1 : V) (n2 : Int) (σ : Heap) : hcall G (k + 1) n_laws_markTreeFunS [a1, .int .i64 n2] σ = ((laws_markTreeFunS.L0 k k [.v a1, .v (.int .i64 n2), .v (.int .i64 0)] σ).bind (laws_markTreeFunS.A0 k)) := by
  kernel_rfl
theorem laws_markTreeFunS.L0_step (k m : Nat) (a1 : V) (n2 : Int) (n3 : Int) (σ : Heap) : laws_markTreeFunS.L0 k (m + 1) [.v a1, .v (.int .i64 n2), .v (.int .i64 n3)] σ = ((vlen a1).bind fun k4 => bif decide (n3 < (k4 : Int)) then ((hcall G k n_laws_markText [.int .i64 n2] σ).bind fun q5 => castStr q5.1 fun s6 => (vidx 9 a1 n3).bind fun p7 => (wrc q5.2 p7.1 (p7.2 + 0) [.str s6]).bind fun h8 => (vidx 9 a1 n3).bind fun p9 => (wrc h8 p9.1 (p9.2 + 1) [.bool (decide (Int.tmod (IntKind.wrap .i64 (n2 + 1)) 3 = 0))]).bind fun h10 => (vidx 9 a1 n3).bind fun p11 => (rdc h10 p11.1 (p11.2 + 2) 1).bind fun l12 => uncons l12 fun c13 l14 => isNil l14 <| (hcall G k n_laws_markTreeArgS [c13, .int .i64 (IntKind.wrap .i64 ((IntKind.wrap .i64 (n2 + 1)) + 1))] h10).bind fun q15 => castInt .i64 q15.1 fun n16 => (vidx 9 a1 n3).bind fun p17 => (wrc q15.2 p17.1 (p17.2 + 3) [.int .i64 n16]).bind fun h18 => (vidx 9 a1 n3).bind fun p19 => (wrc h18 p19.1 (p19.2 + 4 + 0) [.int .i64 (IntKind.wrap .i64 (n16 + 1))]).bind fun h20 => (vidx 9 a1 n3).bind fun p21 => (wrc h20 p21.1 (p21.2 + 4 + 1) [.int .i64 (IntKind.wrap .i64 ((IntKind.wrap .i64 (n16 + 1)) + 1))]).bind fun h22 => (hcall G k n_laws_markText [.int .i64 (IntKind.wrap .i64 ((IntKind.wrap .i64 ((IntKind.wrap .i64 (n16 + 1)) + 1)) + 1))] h22).bind fun q23 => castStr q23.1 fun s24 => (vidx 9 a1 n3).bind fun p25 => (wrc q23.2 p25.1 (p25.2 + 4 + 2) [.str s24]).bind fun h26 => (hcall G k n_laws_markText [.int .i64 (IntKind.wrap .i64 ((IntKind.wrap .i64 ((IntKind.wrap .i64 ((IntKind.wrap .i64 (n16 + 1)) + 1)) + 1)) + 1))] h26).bind fun q27 => castStr q27.1 fun s28 => (vidx 9 a1 n3).bind fun p29 => (wrc q27.2 p29.1 (p29.2 + 4 + 3) [.str s28]).bind fun h30 => (vidx 9 a1 n3).bind fun p31 => (rdc h30 p31.1 (p31.2 + 4 + 4) 1).bind fun l32 => uncons l32 fun c33 l34 => isNil l34 <| (hcall G k n_laws_markTreeExprS [c33, .int .i64 (IntKind.wrap .i64 ((IntKind.wrap .i64 ((IntKind.wrap .i64 ((IntKind.wrap .i64 ((IntKind.wrap .i64 (n16 + 1)) + 1)) + 1)) + 1)) + 1))] h30).bind fun q35 => castInt .i64 q35.1 fun n36 => laws_markTreeFunS.L0 k m [.v a1, .v (.int .i64 n36), .v (.int .i64 (IntKind.wrap .i64 (n3 + 1)))] q35.2) else (some (.exit 0, [.v (.int .i64 n2), .bot], σ))) := by
  kernel_rfl
theorem laws_markTreeFunS.A0_x0 (k : Nat) (n1 : Int) (t2 : T) (σ : Heap) : laws_markTreeFunS.A0 k (.exit 0, [.v (.int .i64 n1), t2], σ) = (some (.int .i64 n1, σ)) := by
  kernel_rfl

/-! loop.example/smithy/laws.markTreeMod: function 23 -/
theorem laws_markTreeMod.eq (k : Nat) (a1 : V) (a2 : V) (a3 : V) (n4 : Int) (σ : Heap) : hcall G (k + 1) n_laws_markTreeMod [.agg [a1, a2, a3], .int .i64 n4] σ = ((hcall G k n_laws_markStringS [a1, .int .i64 n4] σ).bind fun q5 => castInt .i64 q5.1 fun n6 => (hcall G k n_laws_markTreeFunS [a2, .int .i64 n6] q5.2).bind fun q7 => castInt .i64 q7.1 fun n8 => (hcall G k n_laws_markTreeExprS [a3, .int .i64 n8] q7.2).bind fun q9 => castInt .i64 q9.1 fun n10 => some (.int .i64 n10, q9.2)) := by
  kernel_rfl

/-! loop.example/smithy/laws.markIntS: function 58 -/
noncomputable def laws_markIntS.L0 (k : Nat) : Nat → List T → Heap → Option (Ex × List T × Heap) := hloop (hx (G.env n_laws_markIntS k) k 19 (subc (bodyOf Tryz.f58) [1, 0, 1, 0, 0]) 0) 19 (G.msk n_laws_markIntS 0).1 (G.msk n_laws_markIntS 0).2
noncomputable def laws_markIntS.A0 (k : Nat) : Ex × List T × Heap → Option (V × Heap) := fun r => aft (G.env n_laws_markIntS k) k 19 (bodyOf Tryz.f58) [1, 0, 1, 0] 0 (ck G.P Tryz.f58) r.1 (unpick 19 (G.msk n_laws_markIntS 0).2 r.2.1) r.2.2
theorem laws_markIntS.eq (k : Nat) (a1 : V) (n2 : Int) (σ : Heap) : hcall G (k + 1) n_laws_markIntS [a1, .int .i64 n2] σ = ((laws_markIntS.L0 k k [.v a1, .v (.int .i64 n2), .v (.int .i64 0)] σ).bind (laws_markIntS.A0 k)) := by
  kernel_rfl
theorem laws_markIntS.L0_step (k m : Nat) (a1 : V) (n2 : Int) (n3 : Int) (σ : Heap) : laws_markIntS.L0 k (m + 1) [.v a1, .v (.int .i64 n2), .v (.int .i64 n3)] σ = ((vlen a1).bind fun k4 => bif decide (n3 < (k4 : Int)) then ((vidx 1 a1 n3).bind fun p5 => (wrc σ p5.1 p5.2 [.int .i64 n2]).bind fun h6 => laws_markIntS.L0 k m [.v a1, .v (.int .i64 (IntKind.wrap .i64 (n2 + 1))), .v (.int .i64 (IntKind.wrap .i64 (n3 + 1)))] h6) else (some (.exit 0, [.v (.int .i64 n2), .bot], σ))) := by
  kernel_rfl
theorem laws_markIntS.A0_x0 (k : Nat) (n1 : Int) (t2 : T) (σ : Heap) : laws_markIntS.A0 k (.exit 0, [.v (.int .i64 n1), t2], σ) = (some (.int .i64 n1, σ)) := by
  kernel_rfl

/-! loop.example/smithy/laws.markFaceSigS: function 24 -/
noncomputable def laws_markFaceSigS.L0 (k : Nat) : Nat → List T → Heap → Option (Ex × List T × Heap) := hloop (hx (G.env n_laws_markFaceSigS k) k 35 (subc (bodyOf Tryz.f24) [1, 0, 1, 0, 0]) 0) 35 (G.msk n_laws_markFaceSigS 0).1 (G.msk n_laws_markFaceSigS 0).2
noncomputable def laws_markFaceSigS.A0 (k : Nat) : Ex × List T × Heap → Option (V × Heap) := fun r => aft (G.env n_laws_markFaceSigS k) k 35 (bodyOf Tryz.f24) [1, 0, 1, 0] 0 (ck G.P Tryz.f24) r.1 (unpick 35 (G.msk n_laws_markFaceSigS 0).2 r.2.1) r.2.2
theorem laws_markFaceSigS.eq (k : Nat) (a1 : V) (n2 : Int) (σ : Heap) : hcall G (k + 1) n_laws_markFaceSigS [a1, .int .i64 n2] σ = ((laws_markFaceSigS.L0 k k [.v a1, .v (.int .i64 n2), .v (.int .i64 0)] σ).bind (laws_markFaceSigS.A0 k)) := by
  kernel_rfl
theorem laws_markFaceSigS.L0_step (k m : Nat) (a1 : V) (n2 : Int) (n3 : Int) (σ : Heap) : laws_markFaceSigS.L0 k (m + 1) [.v a1, .v (.int .i64 n2), .v (.int .i64 n3)] σ = ((vlen a1).bind fun k4 => bif decide (n3 < (k4 : Int)) then ((hcall G k n_laws_markText [.int .i64 n2] σ).bind fun q5 => castStr q5.1 fun s6 => (vidx 3 a1 n3).bind fun p7 => (wrc q5.2 p7.1 (p7.2 + 0) [.str s6]).bind fun h8 => (vidx 3 a1 n3).bind fun p9 => (rdc h8 p9.1 (p9.2 + 1) 1).bind fun l10 => uncons l10 fun c11 l12 => isNil l12 <| (hcall G k n_laws_markIntS [c11, .int .i64 (IntKind.wrap .i64 (n2 + 1))] h8).bind fun q13 => castInt .i64 q13.1 fun n14 => (vidx 3 a1 n3).bind fun p15 => (wrc q13.2 p15.1 (p15.2 + 2) [.int .i64 n14]).bind fun h16 => laws_markFaceSigS.L0 k m [.v a1, .v (.int .i64 (IntKind.wrap .i64 (n14 + 1))), .v (.int .i64 (IntKind.wrap .i64 (n3 + 1)))] h16) else (some (.exit 0, [.v (.int .i64 n2), .bot], σ))) := by
  kernel_rfl
theorem laws_markFaceSigS.A0_x0 (k : Nat) (n1 : Int) (t2 : T) (σ : Heap) : laws_markFaceSigS.A0 k (.exit 0, [.v (.int .i64 n1), t2], σ) = (some (.int .i64 n1, σ)) := by
  kernel_rfl

/-! loop.example/smithy/laws.heldIntS: function 59 -/
noncomputable def laws_heldIntS.L0 (k : Nat) : Nat → List T → Heap → Option (Ex × List T × Heap) := hloop (hx (G.env n_laws_heldIntS k) k 21 (subc (bodyOf Tryz.f59) [1, 0, 1, 0, 0]) 0) 21 (G.msk n_laws_heldIntS 0).1 (G.msk n_laws_heldIntS 0).2
noncomputable def laws_heldIntS.A0 (k : Nat) : Ex × List T × Heap → Option (V × Heap) := fun r => aft (G.env n_laws_heldIntS k) k 21 (bodyOf Tryz.f59) [1, 0, 1, 0] 0 (ck G.P Tryz.f59) r.1 (unpick 21 (G.msk n_laws_heldIntS 0).2 r.2.1) r.2.2
theorem laws_heldIntS.eq (k : Nat) (a1 : V) (n2 : Int) (σ : Heap) : hcall G (k + 1) n_laws_heldIntS [a1, .int .i64 n2] σ = ((laws_heldIntS.L0 k k [.v a1, .v (.int .i64 n2), .v (.int .i64 0)] σ).bind (laws_heldIntS.A0 k)) := by
  kernel_rfl
theorem laws_heldIntS.L0_step (k m : Nat) (a1 : V) (n2 : Int) (n3 : Int) (σ : Heap) : laws_heldIntS.L0 k (m + 1) [.v a1, .v (.int .i64 n2), .v (.int .i64 n3)] σ = ((vlen a1).bind fun k4 => bif decide (n3 < (k4 : Int)) then ((vidx 1 a1 n3).bind fun p5 => (rdc σ p5.1 p5.2 1).bind fun l6 => uncons l6 fun c7 l8 => castInt .i64 c7 fun n9 => isNil l8 <| bif !decide (n9 = n2) then (some (.ret, [.v (.int .i64 n2), .v (.int .i64 (-1))], σ)) else (laws_heldIntS.L0 k m [.v a1, .v (.int .i64 (IntKind.wrap .i64 (n2 + 1))), .v (.int .i64 (IntKind.wrap .i64 (n3 + 1)))] σ)) else (some (.exit 0, [.v (.int .i64 n2), .bot], σ))) := by
  kernel_rfl
theorem laws_heldIntS.A0_x0 (k : Nat) (n1 : Int) (t2 : T) (σ : Heap) : laws_heldIntS.A0 k (.exit 0, [.v (.int .i64 n1), t2], σ) = (some (.int .i64 n1, σ)) := by
  kernel_rfl
theorem laws_heldIntS.A0_ret (k : Nat) (t1 : T) (n2 : Int) (σ : Heap) : laws_heldIntS.A0 k (.ret, [t1, .v (.int .i64 n2)], σ) = (some (.int .i64 n2, σ)) := by
  kernel_rfl

/-! loop.example/smithy/laws.heldFaceSigS: function 25 -/
noncomputable def laws_heldFaceSigS.L0 (k : Nat) : Nat → List T → Heap → Option (Ex × List T × Heap) := hloop (hx (G.env n_laws_heldFaceSigS k) k 41 (subc (bodyOf Tryz.f25) [1, 0, 1, 0, 0]) 0) 41 (G.msk n_laws_heldFaceSigS 0).1 (G.msk n_laws_heldFaceSigS 0).2
noncomputable def laws_heldFaceSigS.A0 (k : Nat) : Ex × List T × Heap → Option (V × Heap) := fun r => aft (G.env n_laws_heldFaceSigS k) k 41 (bodyOf Tryz.f25) [1, 0, 1, 0] 0 (ck G.P Tryz.f25) r.1 (unpick 41 (G.msk n_laws_heldFaceSigS 0).2 r.2.1) r.2.2
theorem laws_heldFaceSigS.eq (k : Nat) (a1 : V) (n2 : Int) (σ : Heap) : hcall G (k + 1) n_laws_heldFaceSigS [a1, .int .i64 n2] σ = ((laws_heldFaceSigS.L0 k k [.v a1, .v (.int .i64 n2), .v (.int .i64 0)] σ).bind (laws_heldFaceSigS.A0 k)) := by
  kernel_rfl
theorem laws_heldFaceSigS.L0_step (k m : Nat) (a1 : V) (n2 : Int) (n3 : Int) (σ : Heap) : laws_heldFaceSigS.L0 k (m + 1) [.v a1, .v (.int .i64 n2), .v (.int .i64 n3)] σ = ((vlen a1).bind fun k4 => bif decide (n3 < (k4 : Int)) then ((vidx 3 a1 n3).bind fun p5 => (rdc σ p5.1 (p5.2 + 0) 1).bind fun l6 => uncons l6 fun c7 l8 => castStr c7 fun s9 => isNil l8 <| (hcall G k n_laws_markText [.int .i64 n2] (prot [p5.1] σ)).bind fun q10 => castStr q10.1 fun s11 => bif !decide (s9 = s11) then (some (.ret, [.v (.int .i64 n2), .v (.int .i64 (-1))], unprot [p5.1] σ q10.2)) else ((vidx 3 a1 n3).bind fun p12 => (rdc (unprot [p5.1] σ q10.2) p12.1 (p12.2 + 1) 1).bind fun l13 => uncons l13 fun c14 l15 => isNil l15 <| (hcall G k n_laws_heldIntS [c14, .int .i64 (IntKind.wrap .i64 (n2 + 1))] (unprot [p5.1] σ q10.2)).bind fun q16 => castInt .i64 q16.1 fun n17 => bif decide (n17 < 0) then (some (.ret, [.v (.int .i64 n17), .v (.int .i64 (-1))], q16.2)) else ((vidx 3 a1 n3).bind fun p18 => (rdc q16.2 p18.1 (p18.2 + 2) 1).bind fun l19 => uncons l19 fun c20 l21 => castInt .i64 c20 fun n22 => isNil l21 <| bif !decide (n22 = n17) then (some (.ret, [.v (.int .i64 n17), .v (.int .i64 (-1))], q16.2)) else (laws_heldFaceSigS.L0 k m [.v a1, .v (.int .i64 (IntKind.wrap .i64 (n17 + 1))), .v (.int .i64 (IntKind.wrap .i64 (n3 + 1)))] q16.2)))) else (some (.exit 0, [.v (.int .i64 n2), .bot], σ))) := by
  kernel_rfl
theorem laws_heldFaceSigS.A0_x0 (k : Nat) (n1 : Int) (t2 : T) (σ : Heap) : laws_heldFaceSigS.A0 k (.exit 0, [.v (.int .i64 n1), t2], σ) = (some (.int .i64 n1, σ)) := by
  kernel_rfl
theorem laws_heldFaceSigS.A0_ret (k : Nat) (t1 : T) (n2 : Int) (σ : Heap) : laws_heldFaceSigS.A0 k (.ret, [t1, .v (.int .i64 n2)], σ) = (some (.int .i64 n2, σ)) := by
  kernel_rfl

/-! loop.example/smithy/laws.FnExactFaceOf: function 4 -/
theorem laws_FnExactFaceOf.eq (k : Nat) (a1 : V) (a2 : V) (a3 : V) (σ : Heap) : hcall G (k + 1) n_laws_FnExactFaceOf [.agg [a1, a2, a3]] σ = ((hcall G k n_laws_szTreeMod [.agg [a1, a2, a3], .int .i64 1048576] σ).bind fun q4 => castInt .i64 q4.1 fun n5 => bif decide (n5 < 0) then (some (.bool true, q4.2)) else ((hcall G k n_laws_toTreeMod [.agg [a1, a2, a3]] q4.2).bind fun q6 => castAgg q6.1 fun l7 => uncons l7 fun c8 l9 => uncons l9 fun c10 l11 => uncons l11 fun c12 l13 => isNil l13 <| (hcall G k n_spec_FaceOf [.agg [c8, c10, c12]] q6.2).bind fun q14 => (hcall G k n_laws_toTreeMod [.agg [a1, a2, a3]] q14.2).bind fun q15 => castAgg q15.1 fun l16 => uncons l16 fun c17 l18 => uncons l18 fun c19 l20 => uncons l20 fun c21 l22 => isNil l22 <| (hcall G k n_impl_FaceOf [.agg [c17, c19, c21]] q15.2).bind fun q23 => (hcall G k n_laws_eqFaceSigS [q23.1, q14.1] q23.2).bind fun q24 => castBool q24.1 fun b25 => bif !b25 then (some (.bool false, q24.2)) else ((hcall G k n_laws_toTreeMod [.agg [a1, a2, a3]] q24.2).bind fun q26 => castAgg q26.1 fun l27 => uncons l27 fun c28 l29 => uncons l29 fun c30 l31 => uncons l31 fun c32 l33 => isNil l33 <| (hcall G k n_laws_eqTreeMod [.agg [c17, c19, c21], .agg [c28, c30, c32]] q26.2).bind fun q34 => castBool q34.1 fun b35 => bif !b35 then (some (.bool false, q34.2)) else ((hcall G k n_laws_markTreeMod [.agg [c17, c19, c21], .int .i64 1] q34.2).bind fun q36 => castInt .i64 q36.1 fun n37 => bif decide (n37 < 0) then (some (.bool false, q36.2)) else ((hcall G k n_laws_eqFaceSigS [q23.1, q14.1] q36.2).bind fun q38 => castBool q38.1 fun b39 => bif !b39 then (some (.bool false, q38.2)) else ((hcall G k n_laws_markFaceSigS [q23.1, .int .i64 1] q38.2).bind fun q40 => castInt .i64 q40.1 fun n41 => (hcall G k n_laws_heldFaceSigS [q23.1, .int .i64 1] q40.2).bind fun q42 => castInt .i64 q42.1 fun n43 => bif decide (n43 < 0) then (some (.bool false, q42.2)) else (bif !decide (n43 = n41) then (some (.bool false, q42.2)) else ((hcall G k n_laws_toTreeMod [.agg [a1, a2, a3]] q42.2).bind fun q44 => castAgg q44.1 fun l45 => uncons l45 fun c46 l47 => uncons l47 fun c48 l49 => uncons l49 fun c50 l51 => isNil l51 <| (hcall G k n_impl_FaceOf [.agg [c46, c48, c50]] q44.2).bind fun q52 => (hcall G k n_laws_eqFaceSigS [q52.1, q14.1] q52.2).bind fun q53 => castBool q53.1 fun b54 => bif !b54 then (some (.bool false, q53.2)) else ((hcall G k n_laws_heldFaceSigS [q23.1, .int .i64 1] q53.2).bind fun q55 => castInt .i64 q55.1 fun n56 => bif decide (n56 < 0) then (some (.bool false, q55.2)) else (bif !decide (n56 = n41) then (some (.bool false, q55.2)) else (some (.bool true, q55.2)))))))))))) := by
  kernel_rfl

/-! loop.example/smithy/laws.szIntS: function 131 -/
theorem laws_szIntS.eq (k : Nat) (a1 : V) (n2 : Int) (σ : Heap) : hcall G (k + 1) n_laws_szIntS [a1, .int .i64 n2] σ = ((vlen a1).bind fun k3 => bif decide (IntKind.wrap .i64 (n2 - (k3 : Int)) < 0) then (some (.int .i64 (-1), σ)) else (some (.int .i64 (IntKind.wrap .i64 (n2 - (k3 : Int))), σ))) := by
  kernel_rfl

/-! loop.example/smithy/laws.szFaceSig: function 103 -/
theorem laws_szFaceSig.eq (k : Nat) (s1 : ByteArray) (a2 : V) (n3 : Int) (n4 : Int) (σ : Heap) : hcall G (k + 1) n_laws_szFaceSig [.agg [.str s1, a2, .int .i64 n3], .int .i64 n4] σ = (bif decide (IntKind.wrap .i64 (n4 - (s1.size : Int)) < 0) then (some (.int .i64 (-1), σ)) else ((hcall G k n_laws_szIntS [a2, .int .i64 (IntKind.wrap .i64 (n4 - (s1.size : Int)))] σ).bind fun q5 => castInt .i64 q5.1 fun n6 => bif decide (n6 < 0) then (some (.int .i64 (-1), q5.2)) else (some (.int .i64 n6, q5.2)))) := by
  kernel_rfl

/-! loop.example/smithy/laws.szFaceSigS: function 64 -/
noncomputable def laws_szFaceSigS.L0 (k : Nat) : Nat → List T → Heap → Option (Ex × List T × Heap) := hloop (hx (G.env n_laws_szFaceSigS k) k 27 (subc (bodyOf Tryz.f64) [1, 1, 1, 0, 1, 0, 0]) 0) 27 (G.msk n_laws_szFaceSigS 0).1 (G.msk n_laws_szFaceSigS 0).2
noncomputable def laws_szFaceSigS.A0 (k : Nat) : Ex × List T × Heap → Option (V × Heap) := fun r => aft (G.env n_laws_szFaceSigS k) k 27 (bodyOf Tryz.f64) [1, 1, 1, 0, 1, 0] 0 (ck G.P Tryz.f64) r.1 (unpick 27 (G.msk n_laws_szFaceSigS 0).2 r.2.1) r.2.2
theorem laws_szFaceSigS.eq (k : Nat) (a1 : V) (n2 : Int) (σ : Heap) : hcall G (k + 1) n_laws_szFaceSigS [a1, .int .i64 n2] σ = ((vlen a1).bind fun k3 => bif decide (IntKind.wrap .i64 (n2 - (k3 : Int)) < 0) then (some (.int .i64 (-1), σ)) else ((laws_szFaceSigS.L0 k k [.v a1, .v (.int .i64 (IntKind.wrap .i64 (n2 - (k3 : Int)))), .v (.int .i64 0)] σ).bind (laws_szFaceSigS.A0 k))) := by
  kernel_rfl
theorem laws_szFaceSigS.L0_step (k m : Nat) (a1 : V) (n2 : Int) (n3 : Int) (σ : Heap) : laws_szFaceSigS.L0 k (m + 1) [.v a1, .v (.int .i64 n2), .v (.int .i64 n3)] σ = ((vlen a1).bind fun k4 => bif decide (n3 < (k4 : Int)) then ((vidx 3 a1 n3).bind fun p5 => (rdc σ p5.1 p5.2 3).bind fun l6 => uncons l6 fun c7 l8 => castStr c7 fun s9 => uncons l8 fun c10 l11 => uncons l11 fun c12 l13 => castInt .i64 c12 fun n14 => isNil l13 <| (hcall G k n_laws_szFaceSig [.agg [.str s9, c10, .int .i64 n14], .int .i64 n2] σ).bind fun q15 => castInt .i64 q15.1 fun n16 => bif decide (n16 < 0) then (some (.ret, [.v (.int .i64 n16), .v (.int .i64 (-1))], q15.2)) else (laws_szFaceSigS.L0 k m [.v a1, .v (.int .i64 n16), .v (.int .i64 (IntKind.wrap .i64 (n3 + 1)))] q15.2)) else (some (.exit 0, [.v (.int .i64 n2), .bot], σ))) := by
  kernel_rfl
theorem laws_szFaceSigS.A0_x0 (k : Nat) (n1 : Int) (t2 : T) (σ : Heap) : laws_szFaceSigS.A0 k (.exit 0, [.v (.int .i64 n1), t2], σ) = (some (.int .i64 n1, σ)) := by
  kernel_rfl
theorem laws_szFaceSigS.A0_ret (k : Nat) (t1 : T) (n2 : Int) (σ : Heap) : laws_szFaceSigS.A0 k (.ret, [t1, .v (.int .i64 n2)], σ) = (some (.int .i64 n2, σ)) := by
  kernel_rfl

/-! loop.example/smithy/laws.szTypeFace: function 32 -/
theorem laws_szTypeFace.eq (k : Nat) (s1 : ByteArray) (a2 : V) (n3 : Int) (σ : Heap) : hcall G (k + 1) n_laws_szTypeFace [.agg [.str s1, a2], .int .i64 n3] σ = (bif decide (IntKind.wrap .i64 (n3 - (s1.size : Int)) < 0) then (some (.int .i64 (-1), σ)) else ((hcall G k n_laws_szFaceSigS [a2, .int .i64 (IntKind.wrap .i64 (n3 - (s1.size : Int)))] σ).bind fun q4 => castInt .i64 q4.1 fun n5 => bif decide (n5 < 0) then (some (.int .i64 (-1), q4.2)) else (some (.int .i64 n5, q4.2)))) := by
  kernel_rfl

/-! loop.example/smithy/laws.szTypeFaceS: function 7 -/
noncomputable def laws_szTypeFaceS.L0 (k : Nat) : Nat → List T → Heap → Option (Ex × List T × Heap) := hloop (hx (G.env n_laws_szTypeFaceS k) k 27 (subc (bodyOf Tryz.f7) [1, 1, 1, 0, 1, 0, 0]) 0) 27 (G.msk n_laws_szTypeFaceS 0).1 (G.msk n_laws_szTypeFaceS 0).2
noncomputable def laws_szTypeFaceS.A0 (k : Nat) : Ex × List T × Heap → Option (V × Heap) := fun r => aft (G.env n_laws_szTypeFaceS k) k 27 (bodyOf Tryz.f7) [1, 1, 1, 0, 1, 0] 0 (ck G.P Tryz.f7) r.1 (unpick 27 (G.msk n_laws_szTypeFaceS 0).2 r.2.1) r.2.2
theorem laws_szTypeFaceS.eq (k : Nat) (a1 : V) (n2 : Int) (σ : Heap) : hcall G (k + 1) n_laws_szTypeFaceS [a1, .int .i64 n2] σ = ((vlen a1).bind fun k3 => bif decide (IntKind.wrap .i64 (n2 - (k3 : Int)) < 0) then (some (.int .i64 (-1), σ)) else ((laws_szTypeFaceS.L0 k k [.v a1, .v (.int .i64 (IntKind.wrap .i64 (n2 - (k3 : Int)))), .v (.int .i64 0)] σ).bind (laws_szTypeFaceS.A0 k))) := by
  kernel_rfl
theorem laws_szTypeFaceS.L0_step (k m : Nat) (a1 : V) (n2 : Int) (n3 : Int) (σ : Heap) : laws_szTypeFaceS.L0 k (m + 1) [.v a1, .v (.int .i64 n2), .v (.int .i64 n3)] σ = ((vlen a1).bind fun k4 => bif decide (n3 < (k4 : Int)) then ((vidx 2 a1 n3).bind fun p5 => (rdc σ p5.1 p5.2 2).bind fun l6 => uncons l6 fun c7 l8 => castStr c7 fun s9 => uncons l8 fun c10 l11 => isNil l11 <| (hcall G k n_laws_szTypeFace [.agg [.str s9, c10], .int .i64 n2] σ).bind fun q12 => castInt .i64 q12.1 fun n13 => bif decide (n13 < 0) then (some (.ret, [.v (.int .i64 n13), .v (.int .i64 (-1))], q12.2)) else (laws_szTypeFaceS.L0 k m [.v a1, .v (.int .i64 n13), .v (.int .i64 (IntKind.wrap .i64 (n3 + 1)))] q12.2)) else (some (.exit 0, [.v (.int .i64 n2), .bot], σ))) := by
  kernel_rfl
theorem laws_szTypeFaceS.A0_x0 (k : Nat) (n1 : Int) (t2 : T) (σ : Heap) : laws_szTypeFaceS.A0 k (.exit 0, [.v (.int .i64 n1), t2], σ) = (some (.int .i64 n1, σ)) := by
  kernel_rfl
theorem laws_szTypeFaceS.A0_ret (k : Nat) (t1 : T) (n2 : Int) (σ : Heap) : laws_szTypeFaceS.A0 k (.ret, [t1, .v (.int .i64 n2)], σ) = (some (.int .i64 n2, σ)) := by
  kernel_rfl

/-! loop.example/smithy/laws.toIntS: function 136 -/
noncomputable def laws_toIntS.L0 (k : Nat) : Nat → List T → Heap → Option (Ex × List T × Heap) := hloop (hx (G.env n_laws_toIntS k) k 22 (subc (bodyOf Tryz.f136) [1, 1, 0, 1, 0, 0]) 0) 22 (G.msk n_laws_toIntS 0).1 (G.msk n_laws_toIntS 0).2
noncomputable def laws_toIntS.A0 (k : Nat) : Ex × List T × Heap → Option (V × Heap) := fun r => aft (G.env n_laws_toIntS k) k 22 (bodyOf Tryz.f136) [1, 1, 0, 1, 0] 0 (ck G.P Tryz.f136) r.1 (unpick 22 (G.msk n_laws_toIntS 0).2 r.2.1) r.2.2
theorem laws_toIntS.eq (k : Nat) (a1 : V) (σ : Heap) : hcall G (k + 1) n_laws_toIntS [a1] σ = ((vlen a1).bind fun k2 => if 0 ≤ (k2 : Int) ∧ (k2 : Int) * 8 ≤ 2 ^ 46 ∧ (k2 : Int) ≤ 2 ^ 46 then ((laws_toIntS.L0 k k [.v a1, .v (.sl σ.length 0 ((k2 : Int) : Int).toNat true), .v (.int .i64 0)] (hnew σ 1 (List.replicate ((k2 : Int) : Int).toNat [.int .i64 0]).flatten)).bind (laws_toIntS.A0 k)) else none) := by
  kernel_rfl
theorem laws_toIntS.L0_step (k m : Nat) (a1 : V) (a2 : V) (n3 : Int) (σ : Heap) : laws_toIntS.L0 k (m + 1) [.v a1, .v a2, .v (.int .i64 n3)] σ = ((vlen a1).bind fun k4 => bif decide (n3 < (k4 : Int)) then ((vidx 1 a1 n3).bind fun p5 => (rdc σ p5.1 p5.2 1).bind fun l6 => uncons l6 fun c7 l8 => castInt .i64 c7 fun n9 => isNil l8 <| (vidx 1 a2 n3).bind fun p10 => (wrc σ p10.1 p10.2 [.int .i64 n9]).bind fun h11 => laws_toIntS.L0 k m [.v a1, .v a2, .v (.int .i64 (IntKind.wrap .i64 (n3 + 1)))] h11) else (some (.exit 0, [.bot, .v a2], σ))) := by
  kernel_rfl
theorem laws_toIntS.A0_x0 (k : Nat) (t1 : T) (a2 : V) (σ : Heap) : laws_toIntS.A0 k (.exit 0, [t1, .v a2], σ) = (some (a2, σ)) := by
  kernel_rfl

/-! loop.example/smithy/laws.toFaceSig: function 109 -/
theorem laws_toFaceSig.eq (k : Nat) (s1 : ByteArray) (a2 : V) (n3 : Int) (σ : Heap) : hcall G (k + 1) n_laws_toFaceSig [.agg [.str s1, a2, .int .i64 n3]] σ = ((hcall G k n_laws_toIntS [a2] σ).bind fun q4 => one q4.1 <| some (.agg [.str s1, q4.1, .int .i64 n3], q4.2)) := by
  kernel_rfl

/-! loop.example/smithy/laws.toFaceSigS: function 78 -/
noncomputable def laws_toFaceSigS.L0 (k : Nat) : Nat → List T → Heap → Option (Ex × List T × Heap) := hloop (hx (G.env n_laws_toFaceSigS k) k 23 (subc (bodyOf Tryz.f78) [1, 1, 0, 1, 0, 0]) 0) 23 (G.msk n_laws_toFaceSigS 0).1 (G.msk n_laws_toFaceSigS 0).2
noncomputable def laws_toFaceSigS.A0 (k : Nat) : Ex × List T × Heap → Option (V × Heap) := fun r => aft (G.env n_laws_toFaceSigS k) k 23 (bodyOf Tryz.f78) [1, 1, 0, 1, 0] 0 (ck G.P Tryz.f78) r.1 (unpick 23 (G.msk n_laws_toFaceSigS 0).2 r.2.1) r.2.2
theorem laws_toFaceSigS.eq (k : Nat) (a1 : V) (σ : Heap) : hcall G (k + 1) n_laws_toFaceSigS [a1] σ = ((vlen a1).bind fun k2 => if 0 ≤ (k2 : Int) ∧ (k2 : Int) * 48 ≤ 2 ^ 46 ∧ (k2 : Int) ≤ 2 ^ 46 then ((laws_toFaceSigS.L0 k k [.v a1, .v (.sl σ.length 0 ((k2 : Int) : Int).toNat true), .v (.int .i64 0)] (hnew σ 3 (List.replicate ((k2 : Int) : Int).toNat [.str (⟨#[]⟩ : ByteArray), .nils, .int .i64 0]).flatten)).bind (laws_toFaceSigS.A0 k)) else none) := by
  kernel_rfl
theorem laws_toFaceSigS.L0_step (k m : Nat) (a1 : V) (a2 : V) (n3 : Int) (σ : Heap) : laws_toFaceSigS.L0 k (m + 1) [.v a1, .v a2, .v (.int .i64 n3)] σ = ((vlen a1).bind fun k4 => bif decide (n3 < (k4 : Int)) then ((vidx 3 a1 n3).bind fun p5 => (rdc σ p5.1 p5.2 3).bind fun l6 => uncons l6 fun c7 l8 => castStr c7 fun s9 => uncons l8 fun c10 l11 => uncons l11 fun c12 l13 => castInt .i64 c12 fun n14 => isNil l13 <| (hcall G k n_laws_toFaceSig [.agg [.str s9, c10, .int .i64 n14]] σ).bind fun q15 => castAgg q15.1 fun l16 => uncons l16 fun c17 l18 => castStr c17 fun s19 => uncons l18 fun c20 l21 => uncons l21 fun c22 l23 => castInt .i64 c22 fun n24 => isNil l23 <| (vidx 3 a2 n3).bind fun p25 => (wrc q15.2 p25.1 p25.2 [.str s19, c20, .int .i64 n24]).bind fun h26 => laws_toFaceSigS.L0 k m [.v a1, .v a2, .v (.int .i64 (IntKind.wrap .i64 (n3 + 1)))] h26) else (some (.exit 0, [.bot, .v a2], σ))) := by
  kernel_rfl
theorem laws_toFaceSigS.A0_x0 (k : Nat) (t1 : T) (a2 : V) (σ : Heap) : laws_toFaceSigS.A0 k (.exit 0, [t1, .v a2], σ) = (some (a2, σ)) := by
  kernel_rfl

/-! loop.example/smithy/laws.toTypeFace: function 40 -/
theorem laws_toTypeFace.eq (k : Nat) (s1 : ByteArray) (a2 : V) (σ : Heap) : hcall G (k + 1) n_laws_toTypeFace [.agg [.str s1, a2]] σ = ((hcall G k n_laws_toFaceSigS [a2] σ).bind fun q3 => one q3.1 <| some (.agg [.str s1, q3.1], q3.2)) := by
  kernel_rfl

/-! loop.example/smithy/laws.toTypeFaceS: function 12 -/
noncomputable def laws_toTypeFaceS.L0 (k : Nat) : Nat → List T → Heap → Option (Ex × List T × Heap) := hloop (hx (G.env n_laws_toTypeFaceS k) k 23 (subc (bodyOf Tryz.f12) [1, 1, 0, 1, 0, 0]) 0) 23 (G.msk n_laws_toTypeFaceS 0).1 (G.msk n_laws_toTypeFaceS 0).2
noncomputable def laws_toTypeFaceS.A0 (k : Nat) : Ex × List T × Heap → Option (V × Heap) := fun r => aft (G.env n_laws_toTypeFaceS k) k 23 (bodyOf Tryz.f12) [1, 1, 0, 1, 0] 0 (ck G.P Tryz.f12) r.1 (unpick 23 (G.msk n_laws_toTypeFaceS 0).2 r.2.1) r.2.2
theorem laws_toTypeFaceS.eq (k : Nat) (a1 : V) (σ : Heap) : hcall G (k + 1) n_laws_toTypeFaceS [a1] σ = ((vlen a1).bind fun k2 => if 0 ≤ (k2 : Int) ∧ (k2 : Int) * 40 ≤ 2 ^ 46 ∧ (k2 : Int) ≤ 2 ^ 46 then ((laws_toTypeFaceS.L0 k k [.v a1, .v (.sl σ.length 0 ((k2 : Int) : Int).toNat true), .v (.int .i64 0)] (hnew σ 2 (List.replicate ((k2 : Int) : Int).toNat [.str (⟨#[]⟩ : ByteArray), .nils]).flatten)).bind (laws_toTypeFaceS.A0 k)) else none) := by
  kernel_rfl
theorem laws_toTypeFaceS.L0_step (k m : Nat) (a1 : V) (a2 : V) (n3 : Int) (σ : Heap) : laws_toTypeFaceS.L0 k (m + 1) [.v a1, .v a2, .v (.int .i64 n3)] σ = ((vlen a1).bind fun k4 => bif decide (n3 < (k4 : Int)) then ((vidx 2 a1 n3).bind fun p5 => (rdc σ p5.1 p5.2 2).bind fun l6 => uncons l6 fun c7 l8 => castStr c7 fun s9 => uncons l8 fun c10 l11 => isNil l11 <| (hcall G k n_laws_toTypeFace [.agg [.str s9, c10]] σ).bind fun q12 => castAgg q12.1 fun l13 => uncons l13 fun c14 l15 => castStr c14 fun s16 => uncons l15 fun c17 l18 => isNil l18 <| (vidx 2 a2 n3).bind fun p19 => (wrc q12.2 p19.1 p19.2 [.str s16, c17]).bind fun h20 => laws_toTypeFaceS.L0 k m [.v a1, .v a2, .v (.int .i64 (IntKind.wrap .i64 (n3 + 1)))] h20) else (some (.exit 0, [.bot, .v a2], σ))) := by
  kernel_rfl
theorem laws_toTypeFaceS.A0_x0 (k : Nat) (t1 : T) (a2 : V) (σ : Heap) : laws_toTypeFaceS.A0 k (.exit 0, [t1, .v a2], σ) = (some (a2, σ)) := by
  kernel_rfl

/-! loop.example/smithy/laws.eqTypeFace: function 48 -/
theorem laws_eqTypeFace.eq (k : Nat) (s1 : ByteArray) (a2 : V) (s3 : ByteArray) (a4 : V) (σ : Heap) : hcall G (k + 1) n_laws_eqTypeFace [.agg [.str s1, a2], .agg [.str s3, a4]] σ = (bif !decide (s1 = s3) then (some (.bool false, σ)) else ((hcall G k n_laws_eqFaceSigS [a2, a4] σ).bind fun q5 => castBool q5.1 fun b6 => bif !b6 then (some (.bool false, q5.2)) else (some (.bool true, q5.2)))) := by
  kernel_rfl

/-! loop.example/smithy/laws.eqTypeFaceS: function 17 -/
noncomputable def laws_eqTypeFaceS.L0 (k : Nat) : Nat → List T → Heap → Option (Ex × List T × Heap) := hloop (hx (G.env n_laws_eqTypeFaceS k) k 27 (subc (bodyOf Tryz.f17) [1, 1, 0, 1, 0, 0]) 0) 27 (G.msk n_laws_eqTypeFaceS 0).1 (G.msk n_laws_eqTypeFaceS 0).2
noncomputable def laws_eqTypeFaceS.A0 (k : Nat) : Ex × List T × Heap → Option (V × Heap) := fun r => aft (G.env n_laws_eqTypeFaceS k) k 27 (bodyOf Tryz.f17) [1, 1, 0, 1, 0] 0 (ck G.P Tryz.f17) r.1 (unpick 27 (G.msk n_laws_eqTypeFaceS 0).2 r.2.1) r.2.2
theorem laws_eqTypeFaceS.eq (k : Nat) (a1 : V) (a2 : V) (σ : Heap) : hcall G (k + 1) n_laws_eqTypeFaceS [a1, a2] σ = ((vlen a1).bind fun k3 => (vlen a2).bind fun k4 => bif !decide ((k3 : Int) = (k4 : Int)) then (some (.bool false, σ)) else ((laws_eqTypeFaceS.L0 k k [.v a1, .v a2, .v (.int .i64 0)] σ).bind (laws_eqTypeFaceS.A0 k))) := by
  kernel_rfl
theorem laws_eqTypeFaceS.L0_step (k m : Nat) (a1 : V) (a2 : V) (n3 : Int) (σ : Heap) : laws_eqTypeFaceS.L0 k (m + 1) [.v a1, .v a2, .v (.int .i64 n3)] σ = ((vlen a1).bind fun k4 => bif decide (n3 < (k4 : Int)) then ((vidx 2 a1 n3).bind fun p5 => (rdc σ p5.1 p5.2 2).bind fun l6 => uncons l6 fun c7 l8 => castStr c7 fun s9 => uncons l8 fun c10 l11 => isNil l11 <| (vidx 2 a2 n3).bind fun p12 => (rdc σ p12.1 p12.2 2).bind fun l13 => uncons l13 fun c14 l15 => castStr c14 fun s16 => uncons l15 fun c17 l18 => isNil l18 <| (hcall G k n_laws_eqTypeFace [.agg [.str s9, c10], .agg [.str s16, c17]] σ).bind fun q19 => castBool q19.1 fun b20 => bif !b20 then (some (.ret, [.v (.bool false)], q19.2)) else (laws_eqTypeFaceS.L0 k m [.v a1, .v a2, .v (.int .i64 (IntKind.wrap .i64 (n3 + 1)))] q19.2)) else (some (.exit 0, [.bot], σ))) := by
  kernel_rfl
theorem laws_eqTypeFaceS.A0_x0 (k : Nat) (t1 : T) (σ : Heap) : laws_eqTypeFaceS.A0 k (.exit 0, [t1], σ) = (some (.bool true, σ)) := by
  kernel_rfl
theorem laws_eqTypeFaceS.A0_ret (k : Nat) (b1 : Bool) (σ : Heap) : laws_eqTypeFaceS.A0 k (.ret, [.v (.bool b1)], σ) = (some (.bool b1, σ)) := by
  kernel_rfl
end Go.Y
