/- The row of the law FnExactFaceRead: called with whatever arguments can be read, it returns true, and each argument reads afterwards as it read before. -/
import Derived.Test.YtpkfajjkkmnmcaaDoorRows
import Derived.Test.YtpkfajjkkmnmcaaDoorOFnExactFaceRead
import Derived.Test.YtpkfajjkkmnmcaaDoorK
import Derived.Test.YtpkfajjkkmnmcaaDoorMany1
import Derived.WalkKit
import Derived.ProofKit
import Derived.OpenShut
import Derived.ShutString
import Derived.ChangeOld
import Derived.Below
import Derived.SizedLaws
import Derived.Test.YtpkfajjkkmnmcaaDoorHMSplit
import Derived.Test.YtpkfajjkkmnmcaaDoorTie
import Derived.Test.YtpkfajjkkmnmcaaDoorCards
import Derived.LaidMore
import Derived.OpenVars
import Derived.LaidLaws
import Derived.SevenTiedAt
import Derived.Stop.Joined
import Derived.Stop.LaidErr
import Derived.Lay
import Derived.MakeChecks
namespace Go.Proofs.YtpkfajjkkmnmcaaDoor.fnExactFaceRead
open Go.ChangeShapes Go.WideShapes Go.ChangeAt Go.RowKit Go.HM Go.R
open Go.ChangeMaps (open_string shut_string)
set_option linter.unusedVariables false
theorem own : ownKnob Tryd.prog.godebug = none := by kernel_rfl
theorem laidOut : laidOutB Tryd.prog = true := by kernel_rfl
theorem door_met (os : Os) (args : Array Value) : laidMetH Tryd.prog Rows.fnExactFaceReadRow.laid ((World.laidAll Tryd.prog os Rows.fnExactFaceReadRow.laid).forCall (fun _ _ => 0) ⟨#[], args, []⟩).memory := by
  rw [MakeChecks.laidMetH_plain _ _ _ (by kernel_rfl)]
  exact laidMet_laidAll _ (by kernel_rfl) (by kernel_rfl)
set_option maxRecDepth 100000 in
set_option maxHeartbeats 2000000 in
theorem lifted (os : Os) (started : os.Started) (H : Type) (enc : TypeId × Value → H) :
    ReturnsInHanded {} Tryd.checked os 3 .any (fun w args => (Rows.fnExactFaceReadSpec.pre enc Tryd.prog Tryd.f3 [] false w args ∧ laidMetH Tryd.prog Rows.fnExactFaceReadRow.laid w) ∧ sizedMet enc Tryd.prog Tryd.f3 (OpenSpec.ofChange Rows.fnExactFaceReadSpec) false w args) (Rows.fnExactFaceReadSpec.post enc Tryd.prog Tryd.f3 false true false false) := by
  refine handed_shaped (C := Tryd.checked) (X := fun w _ => laidMetH Tryd.prog Rows.fnExactFaceReadRow.laid w) (fun _ _ _ hh h => h.of_heap hh) own started (by kernel_rfl) Tryd.func3
    (ChangeSpec.witness_shaped (enc := enc) (C := Tryd.checked) (os := os) (X := fun w _ => laidMetH Tryd.prog Rows.fnExactFaceReadRow.laid w) false (World.laidAll Tryd.prog os Rows.fnExactFaceReadRow.laid) #[.string ByteArray.empty] 8 (World.laidAll_os _ _ _) (World.shaped_of_ZipB (by kernel_rfl) (by kernel_rfl)) (by kernel_rfl) (by kernel_rfl) (by kernel_rfl) (door_met os _)) ?_
  intro W base args ds gs before hval0 hW hcnd hsz0 hL hshape _
  have hval : ∀ (j : Nat) t v, Tryd.f3.params[j]? = some t → args[j]? = some v → Value.okWide Tryd.prog W .any base t v := hval0
  have hW' := hW
  obtain ⟨p, q, hA0, hV, rfl, hfz, hnd⟩ := hW
  have hA : DataW.TrodAll enc Tryd.prog W 0 (fun _ => true) true Tryd.f3.params.toList args.toList ds p := hA0
  rw [Tryd.params3] at hA hval
  obtain ⟨v0, vs0, d0, ds0, p0, q0, hargs, rfl, rfl, h0, r0⟩ := trodAll_cons hA
  obtain ⟨rfl, rfl, rfl⟩ := trodAll_nil r0
  obtain rfl : args = #[v0] := by cases args; simp_all
  obtain ⟨gv0, rfl⟩ := trodVars_1 hV
  have hL0 := hL
  rw [MakeChecks.laidMetH_plain _ _ _ (by kernel_rfl)] at hL0
  have hLM : laidMet Tryd.prog [("unicode/utf8.acceptRanges", Rows.laid_unicode_utf8_acceptRanges), ("loop.example/smithy/impl.typeWords", Rows.laid_loop_example_smithy_impl_typeWords), ("unicode/utf8.first", Rows.laid_unicode_utf8_first)] W := hL0
  obtain ⟨lps, hLV0, _, _⟩ := hL0
  have hLV : DataW.LaidVars Tryd.prog W [("unicode/utf8.acceptRanges", Rows.laid_unicode_utf8_acceptRanges), ("loop.example/smithy/impl.typeWords", Rows.laid_loop_example_smithy_impl_typeWords), ("unicode/utf8.first", Rows.laid_unicode_utf8_first)] lps := hLV0
  obtain ⟨vg0, vt0, vc0, vf0, vp0, vq0, hg0, ht0, hv0, hd0, ⟨vg1, vt1, vc1, vf1, vp1, vq1, hg1, ht1, hv1, hd1, ⟨vg2, vt2, vc2, vf2, vp2, vq2, hg2, ht2, hv2, hd2, _, _⟩, _⟩, _⟩ := hLV
  let gsz : Nat → Nat × Nat := fun g => if g = 0 then (1, 3) else if g = 1 then (1, 1) else (0, 0)
  obtain rfl : vg1 = 0 := Option.some.inj (hg1.symm.trans (show Tryd.prog.globalNamed "loop.example/smithy/impl.typeWords" = some 0 by kernel_rfl))
  obtain rfl : vt1 = 50 := Option.some.inj (ht1.symm.trans (show (Tryd.prog.globals[0]?).map (·.type) = some 50 by kernel_rfl))
  have sv0 := (Seen.nil W gsz).glob (g := 0) (esz := 1) (size := 3) (by simp [sig0]) rfl (laid_strs [[105, 110, 116], [98, 111, 111, 108], [114, 111, 119]] hg1 hv1 Tryd.underlying50 Tryd.underlying9 (by kernel_rfl) (by kernel_rfl) hd1) rfl
  obtain ⟨mx, hmx⟩ := int_at (g := 1) (t := 3) (zero := #[.int .i64 0]) hshape (of_decide_eq_true (by kernel_rfl)) (by kernel_rfl) (by kernel_rfl) (by kernel_rfl) (by kernel_rfl) Tryd.underlying3
  have svm := sv0.glob (g := 1) (esz := 1) (size := 1) (by simp [sig0]) rfl (hmx _) rfl
  have k0 := h0
  have lt0 : ∀ x ∈ p0, x.block < W.heap.size := by obtain ⟨m, hm⟩ := k0; exact DataW.trod_lt m _ _ _ hm
  obtain ⟨a0, rfl, _⟩ := open_string Tryd.underlying9 (hval 0 9 v0 rfl rfl) h0
  have g0 := k0
  obtain ⟨fu0, hf0⟩ := g0
  obtain ⟨y0, fit0, show0⟩ := ((Lays.string Tryd.underlying9) : Lays enc Tryd.prog W 9 StrR fitT fu0) _ _ fu0 [.string a0] _ (Nat.le_refl _) hf0
  clear hA0 hval0 hsz0
  obtain ⟨μ0, σ0, xs0, sn0, le0, lh0, rc0, R0⟩ := show0 _ _ svm
  have vars0 : VarsFnExactFaceRead σ0 := VarsFnExactFaceRead.le lh0 ⟨rfl, ⟨_, rfl⟩⟩
  replace R0 : _ = _ := R0
  subst R0
  obtain ⟨σ', run⟩ := FnExactFaceRead_law vars0 fit0
  refine (law_of gok sn0 run #[.string a0] (rels_one (rel_single rc0) rels_nil)).mono fun e W' ⟨y, he, ⟨μ', hy⟩, bel⟩ => ?_
  obtain rfl : y = .bool true := by cases hy; rfl
  subst he
  exact ⟨_, rfl, _, _, _, [], _, _, hW', trodAll_mk1 (shut_bool Tryd.underlying4 _), (trodAll_cons_mk (Below.trod laidOut (by kernel_rfl) (of_decide_eq_true (by kernel_rfl)) k0 bel lt0) trodAll_mk0), Below.trodVars laidOut bel (by kernel_rfl) hV, bel.frame _, fun h => by cases h⟩
theorem over : Rows.fnExactFaceReadRow.holds Tryd.pinned (OpenSpec.ofChange Rows.fnExactFaceReadSpec) :=
  OpenClaim.holds_of_wide 3 Tryd.f3 rfl rfl rfl rfl rfl rfl rfl ⟨rfl, rfl, rfl, rfl, rfl⟩ rfl rfl rfl rfl rfl (by kernel_rfl) Tryd.func3 (by kernel_rfl)
    (of_decide_eq_true (by kernel_rfl)) (by unfold Func.isWrapper; first | (rw [if_pos (by decide +kernel)]; kernel_rfl) | (rw [if_neg (by decide +kernel)]; exact ⟨rfl, rfl⟩))
    (fun os started H enc _ => lifted os started H enc)
theorem proved : Rows.FnExactFaceReadSaid := over
#print axioms proved
end Go.Proofs.YtpkfajjkkmnmcaaDoor.fnExactFaceRead
namespace Go.Proofs.YtpkfajjkkmnmcaaDoor
/-- The row, under a short name, for the claim. -/
theorem fnExactFaceRead_row : Rows.FnExactFaceReadSaid := fnExactFaceRead.proved
/-- The tied card. -/
theorem fnExactFaceRead_holds : Rows.FnExactFaceReadCardSaid :=
  Claim7.holds_tied_plain_at .later [] [.data, .widerDeep, .pinned] true (true, "16ad7a0302c2841c3fad7ec6dd4f87c971a59f23dabfbd01f21489af0c936890") false
    fnExactFaceRead_row (fun _ h => by cases h) (by kernel_rfl) (fun _ h => by cases h) fnExactFaceRead_row_tie rfl ⟨rfl, rfl⟩ (by kernel_rfl) rfl
    (fun f fn hf hfn => by
      obtain rfl : f = 3 := Option.some.inj ((show Tryd.prog.funcNamed "loop.example/smithy/laws.FnExactFaceRead" = some 3 by kernel_rfl).symm.trans hf) |>.symm
      obtain rfl : fn = Tryd.f3 := (Option.some.inj (Tryd.func3.symm.trans hfn)).symm
      exact ⟨by kernel_rfl, fun j t ht => by
        rw [Tryd.params3] at ht
        have hm : t ∈ [9] := by simpa using Array.mem_of_getElem? ht
        have hall : ([9].all fun u => !Tryd.prog.wantsStandIn u) = true := by kernel_rfl
        exact (show Tryd.prog.wantsStandIn t = false by simpa using List.all_eq_true.1 hall t hm)⟩)
    (by kernel_rfl)
end Go.Proofs.YtpkfajjkkmnmcaaDoor
