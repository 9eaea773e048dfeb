/- The functions' equations. -/
import Derived.Test.YtpkfajjkkmnmcaaDoorEG
namespace Go.R
open Go.HM Go.Proofs
set_option linter.unusedVariables false
set_option maxRecDepth 1000000
set_option maxHeartbeats 4000000

/-! loop.example/smithy/laws.heldFaceSigS: function 8 -/
noncomputable def laws_heldFaceSigS.L0 (k : Nat) : Nat → List T → Heap → Option (Ex × List T × Heap) := hloop (hx (G.env n_laws_heldFaceSigS k) k 41 (subc (bodyOf Tryd.f8) [1, 0, 1, 0, 0]) 0) 41 (G.msk n_laws_heldFaceSigS 0).1 (G.msk n_laws_heldFaceSigS 0).2
noncomputable def laws_heldFaceSigS.A0 (k : Nat) : Ex × List T × Heap → Option (V × Heap) := fun r => aft (G.env n_laws_heldFaceSigS k) k 41 (bodyOf Tryd.f8) [1, 0, 1, 0] 0 (ck G.P Tryd.f8) r.1 (unpick 41 (G.msk n_laws_heldFaceSigS 0).2 r.2.1) r.2.2
theorem laws_heldFaceSigS.eq (k : Nat) (a1 : V) (n2 : Int) (σ : Heap) : hcall G (k + 1) n_laws_heldFaceSigS [a1, .int .i64 n2] σ = ((laws_heldFaceSigS.L0 k k [.v a1, .v (.int .i64 n2), .v (.int .i64 0)] σ).bind (laws_heldFaceSigS.A0 k)) := by
  kernel_rfl
theorem laws_heldFaceSigS.L0_step (k m : Nat) (a1 : V) (n2 : Int) (n3 : Int) (σ : Heap) : laws_heldFaceSigS.L0 k (m + 1) [.v a1, .v (.int .i64 n2), .v (.int .i64 n3)] σ = ((vlen a1).bind fun k4 => bif decide (n3 < (k4 : Int)) then ((vidx 3 a1 n3).bind fun p5 => (rdc σ p5.1 (p5.2 + 0) 1).bind fun l6 => uncons l6 fun c7 l8 => castStr c7 fun s9 => isNil l8 <| (hcall G k n_laws_markText [.int .i64 n2] (prot [p5.1] σ)).bind fun q10 => castStr q10.1 fun s11 => bif !decide (s9 = s11) then (some (.ret, [.v (.int .i64 n2), .v (.int .i64 (-1))], unprot [p5.1] σ q10.2)) else ((vidx 3 a1 n3).bind fun p12 => (rdc (unprot [p5.1] σ q10.2) p12.1 (p12.2 + 1) 1).bind fun l13 => uncons l13 fun c14 l15 => isNil l15 <| (hcall G k n_laws_heldIntS [c14, .int .i64 (IntKind.wrap .i64 (n2 + 1))] (unprot [p5.1] σ q10.2)).bind fun q16 => castInt .i64 q16.1 fun n17 => bif decide (n17 < 0) then (some (.ret, [.v (.int .i64 n17), .v (.int .i64 (-1))], q16.2)) else ((vidx 3 a1 n3).bind fun p18 => (rdc q16.2 p18.1 (p18.2 + 2) 1).bind fun l19 => uncons l19 fun c20 l21 => castInt .i64 c20 fun n22 => isNil l21 <| bif !decide (n22 = n17) then (some (.ret, [.v (.int .i64 n17), .v (.int .i64 (-1))], q16.2)) else (laws_heldFaceSigS.L0 k m [.v a1, .v (.int .i64 (IntKind.wrap .i64 (n17 + 1))), .v (.int .i64 (IntKind.wrap .i64 (n3 + 1)))] q16.2)))) else (some (.exit 0, [.v (.int .i64 n2), .bot], σ))) := by
  kernel_rfl
theorem laws_heldFaceSigS.A0_x0 (k : Nat) (n1 : Int) (t2 : T) (σ : Heap) : laws_heldFaceSigS.A0 k (.exit 0, [.v (.int .i64 n1), t2], σ) = (some (.int .i64 n1, σ)) := by
  kernel_rfl
theorem laws_heldFaceSigS.A0_ret (k : Nat) (t1 : T) (n2 : Int) (σ : Heap) : laws_heldFaceSigS.A0 k (.ret, [t1, .v (.int .i64 n2)], σ) = (some (.int .i64 n2, σ)) := by
  kernel_rfl

/-! loop.example/smithy/laws.FnExactFaceRead: function 3 -/
theorem laws_FnExactFaceRead.eq (k : Nat) (s1 : ByteArray) (σ : Heap) : hcall G (k + 1) n_laws_FnExactFaceRead [.str s1] σ = (bif decide (1048576 < (s1.size : Int)) then (some (.bool true, σ)) else ((hcall G k n_spec_FaceRead [.str s1] σ).bind fun q2 => castTuple q2.1 fun l3 => uncons l3 fun c4 l5 => uncons l5 fun c6 l7 => castBool c6 fun b8 => isNil l7 <| (hcall G k n_impl_FaceRead [.str s1] q2.2).bind fun q9 => castTuple q9.1 fun l10 => uncons l10 fun c11 l12 => uncons l12 fun c13 l14 => castBool c13 fun b15 => isNil l14 <| (hcall G k n_laws_eqFaceSigS [c11, c4] q9.2).bind fun q16 => castBool q16.1 fun b17 => bif !b17 then (some (.bool false, q16.2)) else (bif !(b15 == b8) then (some (.bool false, q16.2)) else ((hcall G k n_laws_markFaceSigS [c11, .int .i64 1] q16.2).bind fun q18 => castInt .i64 q18.1 fun n19 => (hcall G k n_laws_heldFaceSigS [c11, .int .i64 1] q18.2).bind fun q20 => castInt .i64 q20.1 fun n21 => bif decide (n21 < 0) then (some (.bool false, q20.2)) else (bif !decide (n21 = n19) then (some (.bool false, q20.2)) else ((hcall G k n_impl_FaceRead [.str s1] q20.2).bind fun q22 => castTuple q22.1 fun l23 => uncons l23 fun c24 l25 => uncons l25 fun c26 l27 => castBool c26 fun b28 => isNil l27 <| (hcall G k n_laws_eqFaceSigS [c24, c4] q22.2).bind fun q29 => castBool q29.1 fun b30 => bif !b30 then (some (.bool false, q29.2)) else (bif !(b28 == b8) then (some (.bool false, q29.2)) else ((hcall G k n_laws_heldFaceSigS [c11, .int .i64 1] q29.2).bind fun q31 => castInt .i64 q31.1 fun n32 => bif decide (n32 < 0) then (some (.bool false, q31.2)) else (bif !decide (n32 = n19) then (some (.bool false, q31.2)) else (some (.bool true, q31.2))))))))))) := by
  kernel_rfl
end Go.R
