/- The row of the law FnExactTreePrint: called with whatever arguments can be read, it returns true, and each argument reads afterwards as it read before. -/
import Derived.Test.YtjadancpencnnaaDoorRows
import Derived.Test.YtjadancpencnnaaDoorOFnExactTreePrint
import Derived.Test.YtjadancpencnnaaDoorK
import Derived.Test.YtjadancpencnnaaDoorMany1
import Derived.WalkKit
import Derived.ProofKit
import Derived.OpenShut
import Derived.ShutString
import Derived.ChangeOld
import Derived.Below
import Derived.SizedLaws
import Derived.Test.YtjadancpencnnaaDoorHMDoor
import Derived.Test.YtjadancpencnnaaDoorTie
import Derived.Test.YtjadancpencnnaaDoorCards
import Derived.LaidMore
import Derived.OpenVars
import Derived.LaidLaws
import Derived.SevenTiedAt
import Derived.Stop.Joined
import Derived.Stop.LaidErr
namespace Go.Proofs.YtjadancpencnnaaDoor.fnExactTreePrint
open Go.ChangeShapes Go.WideShapes Go.ChangeAt Go.RowKit Go.HM Go.D
open Go.ChangeMaps (open_string shut_string)
set_option linter.unusedVariables false
theorem own : ownKnob Tryd.prog.godebug = none := by kernel_rfl
theorem laidOut : laidOutB Tryd.prog = true := by kernel_rfl
theorem door_met (os : Os) (args : Array Value) : laidMetH Tryd.prog Rows.fnExactTreePrintRow.laid ((World.doorLaid Tryd.prog 72 os).forCall (fun _ _ => 0) ⟨#[], args, []⟩).memory :=
  laidMetH_of_parts3 (fuel := 8) (laidMet_of_run' 8 (by kernel_rfl) (by kernel_rfl)) (by kernel_rfl) (by kernel_rfl)
set_option maxRecDepth 100000 in
set_option maxHeartbeats 2000000 in
theorem lifted (os : Os) (started : os.Started) (H : Type) (enc : TypeId × Value → H) :
    ReturnsInHanded {} Tryd.checked os 6 .any (fun w args => (Rows.fnExactTreePrintSpec.pre enc Tryd.prog Tryd.f6 [] false w args ∧ laidMetH Tryd.prog Rows.fnExactTreePrintRow.laid w) ∧ sizedMet enc Tryd.prog Tryd.f6 (OpenSpec.ofChange Rows.fnExactTreePrintSpec) false w args) (Rows.fnExactTreePrintSpec.post enc Tryd.prog Tryd.f6 false true false false) := by
  refine returnsInHanded_of_change_and (C := Tryd.checked) (X := fun w _ => laidMetH Tryd.prog Rows.fnExactTreePrintRow.laid w) (fun _ _ _ hh h => h.of_heap hh) own started (by kernel_rfl) Tryd.func6
    (ChangeSpec.witness_shaped (enc := enc) (C := Tryd.checked) (os := os) (X := fun w _ => laidMetH Tryd.prog Rows.fnExactTreePrintRow.laid w) false (World.doorLaid Tryd.prog 72 os) #[.agg #[.slice none 0 0, .slice none 0 0, .slice none 0 0]] 8 rfl (World.shaped_of_RefB (by kernel_rfl) (by kernel_rfl)) (by kernel_rfl) (by kernel_rfl) (by kernel_rfl) (door_met os _)) ?_
  intro W base args ds gs before hval0 hW hcnd hsz0 hL _
  have hval : ∀ (j : Nat) t v, Tryd.f6.params[j]? = some t → args[j]? = some v → Value.okWide Tryd.prog W .any base t v := hval0
  have hW' := hW
  obtain ⟨p, q, hA0, hV, rfl, hfz, hnd⟩ := hW
  have hA : DataW.TrodAll enc Tryd.prog W 0 (fun _ => true) true Tryd.f6.params.toList args.toList ds p := hA0
  rw [Tryd.params6] at hA hval
  obtain ⟨v0, vs0, d0, ds0, p0, q0, hargs, rfl, rfl, h0, r0⟩ := trodAll_cons hA
  obtain ⟨rfl, rfl, rfl⟩ := trodAll_nil r0
  obtain rfl : args = #[v0] := by cases args; simp_all
  obtain ⟨gv0, rfl⟩ := trodVars_1 hV
  have hL0 := hL
  rw [MakeChecks.laidMetH_plain _ _ _ (by kernel_rfl)] at hL0
  have hLM : laidMet Tryd.prog [("math/bits.deBruijn32tab", Rows.laid_math_bits_deBruijn32tab), ("math/bits.deBruijn64tab", Rows.laid_math_bits_deBruijn64tab), ("internal/strconv.uint64pow10", Rows.laid_internal_strconv_uint64pow10), ("loop.example/smithy/impl.typeWords", Rows.laid_loop_example_smithy_impl_typeWords)] W := hL0
  obtain ⟨lps, hLV0, _, _⟩ := hL0
  have hLV : DataW.LaidVars Tryd.prog W [("math/bits.deBruijn32tab", Rows.laid_math_bits_deBruijn32tab), ("math/bits.deBruijn64tab", Rows.laid_math_bits_deBruijn64tab), ("internal/strconv.uint64pow10", Rows.laid_internal_strconv_uint64pow10), ("loop.example/smithy/impl.typeWords", Rows.laid_loop_example_smithy_impl_typeWords)] lps := hLV0
  obtain ⟨vg0, vt0, vc0, vf0, vp0, vq0, hg0, ht0, hv0, hd0, ⟨vg1, vt1, vc1, vf1, vp1, vq1, hg1, ht1, hv1, hd1, ⟨vg2, vt2, vc2, vf2, vp2, vq2, hg2, ht2, hv2, hd2, ⟨vg3, vt3, vc3, vf3, vp3, vq3, hg3, ht3, hv3, hd3, _, _⟩, _⟩, _⟩, _⟩ := hLV
  let gsz : Nat → Nat × Nat := fun g => if g = 6 then (1, 32) else if g = 7 then (1, 64) else if g = 4 then (1, 20) else if g = 0 then (1, 3) else (0, 0)
  obtain rfl : vg0 = 6 := Option.some.inj (hg0.symm.trans (show Tryd.prog.globalNamed "math/bits.deBruijn32tab" = some 6 by kernel_rfl))
  obtain rfl : vt0 = 230 := Option.some.inj (ht0.symm.trans (show (Tryd.prog.globals[6]?).map (·.type) = some 230 by kernel_rfl))
  have sv0 := (Seen.nil W gsz).glob (g := 6) (esz := 1) (size := 32) (by simp [sig0]) rfl (laid_ints (k := .u8) [0, 1, 28, 2, 29, 14, 24, 3, 30, 22, 20, 15, 25, 17, 4, 8, 31, 27, 13, 23, 21, 19, 16, 7, 26, 12, 18, 6, 11, 5, 10, 9] hg0 hv0 Tryd.underlying230 Tryd.underlying5 (by kernel_rfl) (by kernel_rfl) hd0) rfl
  obtain rfl : vg1 = 7 := Option.some.inj (hg1.symm.trans (show Tryd.prog.globalNamed "math/bits.deBruijn64tab" = some 7 by kernel_rfl))
  obtain rfl : vt1 = 231 := Option.some.inj (ht1.symm.trans (show (Tryd.prog.globals[7]?).map (·.type) = some 231 by kernel_rfl))
  have sv1 := sv0.glob (g := 7) (esz := 1) (size := 64) (by simp [sig0]) rfl (laid_ints (k := .u8) [0, 1, 56, 2, 57, 49, 28, 3, 61, 58, 42, 50, 38, 29, 17, 4, 62, 47, 59, 36, 45, 43, 51, 22, 53, 39, 33, 30, 24, 18, 12, 5, 63, 55, 48, 27, 60, 41, 37, 16, 46, 35, 44, 21, 52, 32, 23, 11, 54, 26, 40, 15, 34, 20, 31, 10, 25, 14, 19, 9, 13, 8, 7, 6] hg1 hv1 Tryd.underlying231 Tryd.underlying5 (by kernel_rfl) (by kernel_rfl) hd1) rfl
  obtain rfl : vg2 = 4 := Option.some.inj (hg2.symm.trans (show Tryd.prog.globalNamed "internal/strconv.uint64pow10" = some 4 by kernel_rfl))
  obtain rfl : vt2 = 225 := Option.some.inj (ht2.symm.trans (show (Tryd.prog.globals[4]?).map (·.type) = some 225 by kernel_rfl))
  have sv2 := sv1.glob (g := 4) (esz := 1) (size := 20) (by simp [sig0]) rfl (laid_ints (k := .u64) [1, 10, 100, 1000, 10000, 100000, 1000000, 10000000, 100000000, 1000000000, 10000000000, 100000000000, 1000000000000, 10000000000000, 100000000000000, 1000000000000000, 10000000000000000, 100000000000000000, 1000000000000000000, 10000000000000000000] hg2 hv2 Tryd.underlying225 Tryd.underlying204 (by kernel_rfl) (by kernel_rfl) hd2) rfl
  obtain rfl : vg3 = 0 := Option.some.inj (hg3.symm.trans (show Tryd.prog.globalNamed "loop.example/smithy/impl.typeWords" = some 0 by kernel_rfl))
  obtain rfl : vt3 = 61 := Option.some.inj (ht3.symm.trans (show (Tryd.prog.globals[0]?).map (·.type) = some 61 by kernel_rfl))
  have sv3 := sv2.glob (g := 0) (esz := 1) (size := 3) (by simp [sig0]) rfl (laid_strs [[105, 110, 116], [98, 111, 111, 108], [114, 111, 119]] hg3 hv3 Tryd.underlying61 Tryd.underlying9 (by kernel_rfl) (by kernel_rfl) hd3) rfl
  have k0 := h0
  have lt0 : ∀ x ∈ p0, x.block < W.heap.size := by obtain ⟨m, hm⟩ := k0; exact DataW.trod_lt m _ _ _ hm
  obtain ⟨cs0, rfl, _⟩ := okWide_struct Tryd.underlying38 (hval 0 38 v0 rfl rfl)
  have g0 := k0
  obtain ⟨fu0, hf0⟩ := g0
  obtain ⟨y0, fit0, show0⟩ := (lays38 fu0 : Lays enc Tryd.prog W 38 TreeMod.Rep TreeMod.Fit fu0) _ _ fu0 cs0.toList _ (Nat.le_refl _) hf0
  clear hA0 hval0 hsz0
  obtain ⟨μ0, σ0, xs0, sn0, le0, lh0, rc0, R0⟩ := show0 _ _ sv3
  have vars0 : VarsFnExactTreePrint σ0 := VarsFnExactTreePrint.le lh0 ⟨rfl, rfl, rfl, rfl⟩
  obtain ⟨σ', run⟩ := FnExactTreePrint_law vars0 fit0 R0
  refine (law_of gok sn0 run #[.agg cs0] (rels_one (RelC.agg rc0) rels_nil)).mono fun e W' ⟨y, he, ⟨μ', hy⟩, bel⟩ => ?_
  obtain rfl : y = .bool true := by cases hy; rfl
  subst he
  exact ⟨_, rfl, _, _, _, [], _, _, hW', trodAll_mk1 (shut_bool Tryd.underlying4 _), (trodAll_cons_mk (Below.trod laidOut (by kernel_rfl) (of_decide_eq_true (by kernel_rfl)) k0 bel lt0) trodAll_mk0), Below.trodVars laidOut bel (by kernel_rfl) hV, bel.frame _, fun h => by cases h⟩
theorem over : Rows.fnExactTreePrintRow.holds Tryd.pinned (OpenSpec.ofChange Rows.fnExactTreePrintSpec) :=
  OpenClaim.holds_of_wide 6 Tryd.f6 rfl rfl rfl rfl rfl rfl rfl ⟨rfl, rfl, rfl, rfl, rfl⟩ rfl rfl rfl rfl rfl (by kernel_rfl) Tryd.func6 (by kernel_rfl)
    (of_decide_eq_true (by kernel_rfl)) (by unfold Func.isWrapper; first | (rw [if_pos (by decide +kernel)]; kernel_rfl) | (rw [if_neg (by decide +kernel)]; exact ⟨rfl, rfl⟩))
    (fun os started H enc _ => lifted os started H enc)
theorem proved : Rows.FnExactTreePrintSaid := over
#print axioms proved
end Go.Proofs.YtjadancpencnnaaDoor.fnExactTreePrint
namespace Go.Proofs.YtjadancpencnnaaDoor
/-- The row, under a short name, for the claim. -/
theorem fnExactTreePrint_row : Rows.FnExactTreePrintSaid := fnExactTreePrint.proved
/-- The tied card. -/
theorem fnExactTreePrint_holds : Rows.FnExactTreePrintCardSaid :=
  Claim7.holds_tied_plain_at .later [] [.data, .data, .data, .widerDeep] true (true, "fd5ccfe73d7ab39d3923027f684eb7c7b425977992afee4baa4c15d78e5ca416") true
    fnExactTreePrint_row (fun _ h => by cases h) (by kernel_rfl) (fun _ h => by cases h) fnExactTreePrint_row_tie rfl ⟨rfl, rfl⟩ (by kernel_rfl) rfl
    (fun f fn hf hfn => by
      obtain rfl : f = 6 := Option.some.inj ((show Tryd.prog.funcNamed "loop.example/smithy/laws.FnExactTreePrint" = some 6 by kernel_rfl).symm.trans hf) |>.symm
      obtain rfl : fn = Tryd.f6 := (Option.some.inj (Tryd.func6.symm.trans hfn)).symm
      exact ⟨by kernel_rfl, fun j t ht => by
        rw [Tryd.params6] at ht
        have hm : t ∈ [38] := by simpa using Array.mem_of_getElem? ht
        have hall : ([38].all fun u => !Tryd.prog.wantsStandIn u) = true := by kernel_rfl
        exact (show Tryd.prog.wantsStandIn t = false by simpa using List.all_eq_true.1 hall t hm)⟩)
    (by kernel_rfl)
end Go.Proofs.YtjadancpencnnaaDoor
