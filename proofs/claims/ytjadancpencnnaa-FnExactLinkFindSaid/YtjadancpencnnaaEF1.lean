/- The functions' equations. -/
import Derived.Test.YtjadancpencnnaaEG
namespace Go.A
open Go.HM Go.Proofs
set_option linter.unusedVariables false
set_option maxRecDepth 1000000
set_option maxHeartbeats 4000000

/-! loop.example/smithy/laws.eqGraphNode: function 55 -/
theorem laws_eqGraphNode.eq (k : Nat) (s1 : ByteArray) (a2 : V) (s3 : ByteArray) (a4 : V) (σ : Heap) : hcall G (k + 1) n_laws_eqGraphNode [.agg [.str s1, a2], .agg [.str s3, a4]] σ = (bif !decide (s1 = s3) then (some (.bool false, σ)) else ((hcall G k n_laws_eqStringS [a2, a4] σ).bind fun q5 => castBool q5.1 fun b6 => bif !b6 then (some (.bool false, q5.2)) else (some (.bool true, q5.2)))) := by
  kernel_rfl

/-! loop.example/smithy/laws.eqGraphNodeS: function 19 -/
noncomputable def laws_eqGraphNodeS.L0 (k : Nat) : Nat → List T → Heap → Option (Ex × List T × Heap) := hloop (hx (G.env n_laws_eqGraphNodeS k) k 27 (subc (bodyOf Try.f19) [1, 1, 0, 1, 0, 0]) 0) 27 (G.msk n_laws_eqGraphNodeS 0).1 (G.msk n_laws_eqGraphNodeS 0).2
noncomputable def laws_eqGraphNodeS.A0 (k : Nat) : Ex × List T × Heap → Option (V × Heap) := fun r => aft (G.env n_laws_eqGraphNodeS k) k 27 (bodyOf Try.f19) [1, 1, 0, 1, 0] 0 (ck G.P Try.f19) r.1 (unpick 27 (G.msk n_laws_eqGraphNodeS 0).2 r.2.1) r.2.2
theorem laws_eqGraphNodeS.eq (k : Nat) (a1 : V) (a2 : V) (σ : Heap) : hcall G (k + 1) n_laws_eqGraphNodeS [a1, a2] σ = ((vlen a1).bind fun k3 => (vlen a2).bind fun k4 => bif !decide ((k3 : Int) = (k4 : Int)) then (some (.bool false, σ)) else ((laws_eqGraphNodeS.L0 k k [.v a1, .v a2, .v (.int .i64 0)] σ).bind (laws_eqGraphNodeS.A0 k))) := by
  kernel_rfl
theorem laws_eqGraphNodeS.L0_step (k m : Nat) (a1 : V) (a2 : V) (n3 : Int) (σ : Heap) : laws_eqGraphNodeS.L0 k (m + 1) [.v a1, .v a2, .v (.int .i64 n3)] σ = ((vlen a1).bind fun k4 => bif decide (n3 < (k4 : Int)) then ((vidx 2 a1 n3).bind fun p5 => (rdc σ p5.1 p5.2 2).bind fun l6 => uncons l6 fun c7 l8 => castStr c7 fun s9 => uncons l8 fun c10 l11 => isNil l11 <| (vidx 2 a2 n3).bind fun p12 => (rdc σ p12.1 p12.2 2).bind fun l13 => uncons l13 fun c14 l15 => castStr c14 fun s16 => uncons l15 fun c17 l18 => isNil l18 <| (hcall G k n_laws_eqGraphNode [.agg [.str s9, c10], .agg [.str s16, c17]] σ).bind fun q19 => castBool q19.1 fun b20 => bif !b20 then (some (.ret, [.v (.bool false)], q19.2)) else (laws_eqGraphNodeS.L0 k m [.v a1, .v a2, .v (.int .i64 (IntKind.wrap .i64 (n3 + 1)))] q19.2)) else (some (.exit 0, [.bot], σ))) := by
  kernel_rfl
theorem laws_eqGraphNodeS.A0_x0 (k : Nat) (t1 : T) (σ : Heap) : laws_eqGraphNodeS.A0 k (.exit 0, [t1], σ) = (some (.bool true, σ)) := by
  kernel_rfl
theorem laws_eqGraphNodeS.A0_ret (k : Nat) (b1 : Bool) (σ : Heap) : laws_eqGraphNodeS.A0 k (.ret, [.v (.bool b1)], σ) = (some (.bool b1, σ)) := by
  kernel_rfl
end Go.A
