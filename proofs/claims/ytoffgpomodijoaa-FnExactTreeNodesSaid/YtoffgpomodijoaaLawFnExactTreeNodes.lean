/- The row of the law FnExactTreeNodes: called with whatever arguments can be read, it returns true, and each argument reads afterwards as it read before. -/
import Derived.Test.YtoffgpomodijoaaRows
import Derived.Test.YtoffgpomodijoaaFFnExactTreeNodes
import Derived.Test.YtoffgpomodijoaaPureFnExactTreeNodes
import Derived.WalkKit
import Derived.ProofKit
import Derived.OpenShut
import Derived.ShutString
import Derived.ChangeOld
import Derived.Below
import Derived.SizedLaws
namespace Go.Proofs.Ytoffgpomodijoaa.fnExactTreeNodes
open Go.ChangeShapes Go.WideShapes Go.ChangeAt Go.RowKit Go.Proofs.YtoffgpomodijoaaW.PrintWords Go.Proofs.Ytoffgpomodijoaa.Open Go.Proofs.Ytoffgpomodijoaa.Q
open Go.ChangeMaps (open_string shut_string)
set_option linter.unusedVariables false
theorem own : ownKnob Try.prog.godebug = none := by kernel_rfl
theorem laidOut : laidOutB Try.prog = true := by kernel_rfl
set_option maxRecDepth 100000 in
set_option maxHeartbeats 2000000 in
theorem lifted (os : Os) (started : os.Started) (H : Type) (enc : TypeId × Value → H) :
    ReturnsInHanded {} Try.checked os 8 .any (Rows.fnExactTreeNodesSpec.pre6 enc Try.prog Try.f8 Rows.fnExactTreeNodesRow.domain false) (Rows.fnExactTreeNodesSpec.post enc Try.prog Try.f8 false true false false) := by
  refine returnsInHanded_of_change_sized (C := Try.checked) own started (by kernel_rfl) Try.func8
    (ChangeSpec.witness6 (enc := enc) (C := Try.checked) false ⟨#[], #[.agg #[.int .i64 0, .int .i64 0, .string ByteArray.empty, .string ByteArray.empty, .slice none 0 0]], []⟩ 8 (by kernel_rfl) (by kernel_rfl) (by kernel_rfl) (by kernel_rfl)) ?_
  intro W base args ds gs before hval0 hW hcnd hsz0 _
  have hval : ∀ (j : Nat) t v, Try.f8.params[j]? = some t → args[j]? = some v → Value.okWide Try.prog W .any base t v := hval0
  have hW' := hW
  obtain ⟨p, q, hA0, hV, rfl, hfz, hnd⟩ := hW
  have hA : DataW.TrodAll enc Try.prog W 0 (fun _ => true) true Try.f8.params.toList args.toList ds p := hA0
  rw [Try.params8] at hA hval
  obtain ⟨v0, vs0, d0, ds0, p0, q0, hargs, rfl, rfl, h0, r0⟩ := trodAll_cons hA
  obtain ⟨rfl, rfl, rfl⟩ := trodAll_nil r0
  obtain rfl : args = #[v0] := by cases args; simp_all
  obtain ⟨rfl, rfl⟩ := trodVars_none hV
  have k0 := h0
  have lt0 : ∀ x ∈ p0, x.block < W.heap.size := by obtain ⟨m, hm⟩ := k0; exact DataW.trod_lt m _ _ _ hm
  obtain ⟨cs0, rfl, _⟩ := okWide_struct Try.underlying38 (hval 0 38 v0 rfl rfl)
  obtain ⟨fu0, hf0⟩ := h0
  obtain ⟨y0, hK0, hF0⟩ := opens38 fu0 _ _ _ fu0 _ _ (Nat.le_refl _) hf0
  obtain ⟨A0_4, c0_4, hcs0, hl0_4, hC0_4⟩ := k38_open hK0
  obtain rfl : cs0 = #[.int .i64 y0.f0, .int .i64 y0.f1, .string y0.f2, .string y0.f3, .slice A0_4 y0.f4.length c0_4] := by
    apply Array.toList_inj.mp; simpa [Value.cells] using hcs0
  clear hA0 hval0 hsz0
  obtain ⟨k, hk⟩ := Pure.FnExactTreeNodes y0 hF0
  refine (laws_FnExactTreeNodes.calls k y0.f0 y0.f1 y0.f2 y0.f3 A0_4 c0_4 y0.f4 true W hC0_4 hl0_4 hk).mono fun e W' ⟨he, bel⟩ => ?_
  subst he
  exact ⟨_, rfl, _, _, _, [], _, [], hW', trodAll_mk1 (shut_bool Try.underlying4 _), (trodAll_cons_mk (Below.trod laidOut (by kernel_rfl) (of_decide_eq_true (by kernel_rfl)) k0 bel lt0) trodAll_mk0), rfl, bel.frame _, fun h => by cases h⟩
theorem over : Rows.fnExactTreeNodesRow.holds Try.pinned (OpenSpec.ofChange Rows.fnExactTreeNodesSpec) :=
  OpenClaim.holds_of_wide 8 Try.f8 rfl rfl rfl rfl rfl rfl rfl ⟨rfl, rfl, rfl, rfl, rfl⟩ rfl rfl rfl rfl rfl (by kernel_rfl) Try.func8 (by kernel_rfl)
    (of_decide_eq_true (by kernel_rfl)) (by unfold Func.isWrapper; first | (rw [if_pos (by decide +kernel)]; kernel_rfl) | (rw [if_neg (by decide +kernel)]; exact ⟨rfl, rfl⟩))
    (fun os started H enc _ => lifted os started H enc)
theorem proved : Rows.FnExactTreeNodesSaid := over
#print axioms proved
end Go.Proofs.Ytoffgpomodijoaa.fnExactTreeNodes
namespace Go.Proofs.Ytoffgpomodijoaa
/-- The row, under a short name, for the claim. -/
theorem fnExactTreeNodes_holds : Rows.FnExactTreeNodesSaid := fnExactTreeNodes.proved
end Go.Proofs.Ytoffgpomodijoaa
