/- The row of the law FnExactFaceText: called with whatever arguments can be read, it returns true, and each argument reads afterwards as it read before. -/
import Derived.Test.YtjadancpencnnaaDoorRows
import Derived.Test.YtjadancpencnnaaDoorOFnExactFaceText
import Derived.Test.YtjadancpencnnaaDoorK
import Derived.Test.YtjadancpencnnaaDoorLawFaceText
import Derived.WalkKit
import Derived.ProofKit
import Derived.OpenShut
import Derived.ShutString
import Derived.ChangeOld
import Derived.Below
import Derived.SizedLaws
import Derived.Test.YtjadancpencnnaaDoorHMDoor
import Derived.Test.YtjadancpencnnaaDoorTie
import Derived.Test.YtjadancpencnnaaDoorCards
import Derived.LaidMore
import Derived.OpenVars
import Derived.LaidLaws
import Derived.SevenTiedAt
import Derived.Stop.Joined
import Derived.Stop.LaidErr
namespace Go.Proofs.YtjadancpencnnaaDoor.fnExactFaceText
open Go.ChangeShapes Go.WideShapes Go.ChangeAt Go.RowKit Go.HM Go.D
open Go.ChangeMaps (open_string shut_string)
set_option linter.unusedVariables false
theorem own : ownKnob Tryd.prog.godebug = none := by kernel_rfl
theorem laidOut : laidOutB Tryd.prog = true := by kernel_rfl
theorem door_met (os : Os) (args : Array Value) : laidMetH Tryd.prog Rows.fnExactFaceTextRow.laid ((World.doorLaid Tryd.prog 72 os).forCall (fun _ _ => 0) ⟨#[], args, []⟩).memory :=
  laidMetH_of_parts3 (fuel := 8) (laidMet_of_run' 8 (by kernel_rfl) (by kernel_rfl)) (by kernel_rfl) (by kernel_rfl)
set_option maxRecDepth 100000 in
set_option maxHeartbeats 2000000 in
theorem lifted (os : Os) (started : os.Started) (H : Type) (enc : TypeId × Value → H) :
    ReturnsInHanded {} Tryd.checked os 5 .any (fun w args => (Rows.fnExactFaceTextSpec.pre enc Tryd.prog Tryd.f5 [] false w args ∧ laidMetH Tryd.prog Rows.fnExactFaceTextRow.laid w) ∧ sizedMet enc Tryd.prog Tryd.f5 (OpenSpec.ofChange Rows.fnExactFaceTextSpec) false w args) (Rows.fnExactFaceTextSpec.post enc Tryd.prog Tryd.f5 false true false false) := by
  refine returnsInHanded_of_change_and (C := Tryd.checked) (X := fun w _ => laidMetH Tryd.prog Rows.fnExactFaceTextRow.laid w) (fun _ _ _ hh h => h.of_heap hh) own started (by kernel_rfl) Tryd.func5
    (ChangeSpec.witness_shaped (enc := enc) (C := Tryd.checked) (os := os) (X := fun w _ => laidMetH Tryd.prog Rows.fnExactFaceTextRow.laid w) false (World.doorLaid Tryd.prog 72 os) #[.slice none 0 0] 8 rfl (World.shaped_of_RefB (by kernel_rfl) (by kernel_rfl)) (by kernel_rfl) (by kernel_rfl) (by kernel_rfl) (door_met os _)) ?_
  intro W base args ds gs before hval0 hW hcnd hsz0 hL _
  have hval : ∀ (j : Nat) t v, Tryd.f5.params[j]? = some t → args[j]? = some v → Value.okWide Tryd.prog W .any base t v := hval0
  have hW' := hW
  obtain ⟨p, q, hA0, hV, rfl, hfz, hnd⟩ := hW
  have hA : DataW.TrodAll enc Tryd.prog W 0 (fun _ => true) true Tryd.f5.params.toList args.toList ds p := hA0
  rw [Tryd.params5] at hA hval
  obtain ⟨v0, vs0, d0, ds0, p0, q0, hargs, rfl, rfl, h0, r0⟩ := trodAll_cons hA
  obtain ⟨rfl, rfl, rfl⟩ := trodAll_nil r0
  obtain rfl : args = #[v0] := by cases args; simp_all
  obtain ⟨gv0, rfl⟩ := trodVars_1 hV
  have hL0 := hL
  rw [MakeChecks.laidMetH_plain _ _ _ (by kernel_rfl)] at hL0
  have hLM : laidMet Tryd.prog [("loop.example/smithy/impl.typeWords", Rows.laid_loop_example_smithy_impl_typeWords)] W := hL0
  obtain ⟨lps, hLV0, _, _⟩ := hL0
  have hLV : DataW.LaidVars Tryd.prog W [("loop.example/smithy/impl.typeWords", Rows.laid_loop_example_smithy_impl_typeWords)] lps := hLV0
  obtain ⟨vg0, vt0, vc0, vf0, vp0, vq0, hg0, ht0, hv0, hd0, _, _⟩ := hLV
  let gsz : Nat → Nat × Nat := fun g => if g = 0 then (1, 3) else (0, 0)
  obtain rfl : vg0 = 0 := Option.some.inj (hg0.symm.trans (show Tryd.prog.globalNamed "loop.example/smithy/impl.typeWords" = some 0 by kernel_rfl))
  obtain rfl : vt0 = 61 := Option.some.inj (ht0.symm.trans (show (Tryd.prog.globals[0]?).map (·.type) = some 61 by kernel_rfl))
  have sv0 := (Seen.nil W gsz).glob (g := 0) (esz := 1) (size := 3) (by simp [sig0]) rfl (laid_strs [[105, 110, 116], [98, 111, 111, 108], [114, 111, 119]] hg0 hv0 Tryd.underlying61 Tryd.underlying9 (by kernel_rfl) (by kernel_rfl) hd0) rfl
  have k0 := h0
  have lt0 : ∀ x ∈ p0, x.block < W.heap.size := by obtain ⟨m, hm⟩ := k0; exact DataW.trod_lt m _ _ _ hm
  obtain ⟨a0, len0, cap0, rfl⟩ := okWide_slice Tryd.underlying27 (hval 0 27 v0 rfl rfl)
  have g0 := k0
  obtain ⟨fu0, hf0⟩ := g0
  obtain ⟨y0, fit0, show0⟩ := ((Lays.slice' Tryd.underlying27 (by kernel_rfl) (by decide) FaceSig.grows (lays65 _)) : Lays enc Tryd.prog W 27 (SlR 3 FaceSig.Rep) (fitL FaceSig.Fit) fu0) _ _ fu0 [.slice a0 len0 cap0] _ (Nat.le_refl _) hf0
  clear hA0 hval0 hsz0
  obtain ⟨μ0, σ0, xs0, sn0, le0, lh0, rc0, R0⟩ := show0 _ _ sv0
  have vars0 : VarsFnExactFaceText σ0 := VarsFnExactFaceText.le lh0 ⟨rfl⟩
  obtain ⟨w0, rfl, R0⟩ := R0
  obtain ⟨σ', run⟩ := FnExactFaceText_law vars0 fit0 R0
  refine (law_of gok sn0 run #[.slice a0 len0 cap0] (rels_one (rel_single rc0) rels_nil)).mono fun e W' ⟨y, he, ⟨μ', hy⟩, bel⟩ => ?_
  obtain rfl : y = .bool true := by cases hy; rfl
  subst he
  exact ⟨_, rfl, _, _, _, [], _, _, hW', trodAll_mk1 (shut_bool Tryd.underlying4 _), (trodAll_cons_mk (Below.trod laidOut (by kernel_rfl) (of_decide_eq_true (by kernel_rfl)) k0 bel lt0) trodAll_mk0), Below.trodVars laidOut bel (by kernel_rfl) hV, bel.frame _, fun h => by cases h⟩
theorem over : Rows.fnExactFaceTextRow.holds Tryd.pinned (OpenSpec.ofChange Rows.fnExactFaceTextSpec) :=
  OpenClaim.holds_of_wide 5 Tryd.f5 rfl rfl rfl rfl rfl rfl rfl ⟨rfl, rfl, rfl, rfl, rfl⟩ rfl rfl rfl rfl rfl (by kernel_rfl) Tryd.func5 (by kernel_rfl)
    (of_decide_eq_true (by kernel_rfl)) (by unfold Func.isWrapper; first | (rw [if_pos (by decide +kernel)]; kernel_rfl) | (rw [if_neg (by decide +kernel)]; exact ⟨rfl, rfl⟩))
    (fun os started H enc _ => lifted os started H enc)
theorem proved : Rows.FnExactFaceTextSaid := over
#print axioms proved
end Go.Proofs.YtjadancpencnnaaDoor.fnExactFaceText
namespace Go.Proofs.YtjadancpencnnaaDoor
/-- The row, under a short name, for the claim. -/
theorem fnExactFaceText_row : Rows.FnExactFaceTextSaid := fnExactFaceText.proved
/-- The tied card. -/
theorem fnExactFaceText_holds : Rows.FnExactFaceTextCardSaid :=
  Claim7.holds_tied_plain_at .later [] [.widerDeep] true (true, "fd5ccfe73d7ab39d3923027f684eb7c7b425977992afee4baa4c15d78e5ca416") true
    fnExactFaceText_row (fun _ h => by cases h) (by kernel_rfl) (fun _ h => by cases h) fnExactFaceText_row_tie rfl ⟨rfl, rfl⟩ (by kernel_rfl) rfl
    (fun f fn hf hfn => by
      obtain rfl : f = 5 := Option.some.inj ((show Tryd.prog.funcNamed "loop.example/smithy/laws.FnExactFaceText" = some 5 by kernel_rfl).symm.trans hf) |>.symm
      obtain rfl : fn = Tryd.f5 := (Option.some.inj (Tryd.func5.symm.trans hfn)).symm
      exact ⟨by kernel_rfl, fun j t ht => by
        rw [Tryd.params5] at ht
        have hm : t ∈ [27] := by simpa using Array.mem_of_getElem? ht
        have hall : ([27].all fun u => !Tryd.prog.wantsStandIn u) = true := by kernel_rfl
        exact (show Tryd.prog.wantsStandIn t = false by simpa using List.all_eq_true.1 hall t hm)⟩)
    (by kernel_rfl)
end Go.Proofs.YtjadancpencnnaaDoor
