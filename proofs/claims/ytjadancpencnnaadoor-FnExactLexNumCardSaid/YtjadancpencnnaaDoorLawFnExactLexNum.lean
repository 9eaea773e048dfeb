/- The row of the law FnExactLexNum: called with whatever arguments can be read, it returns true, and each argument reads afterwards as it read before. -/
import Derived.Test.YtjadancpencnnaaDoorRows
import Derived.Test.YtjadancpencnnaaDoorOFnExactLexNum
import Derived.Test.YtjadancpencnnaaDoorK
import Derived.Test.YtjadancpencnnaaDoorLawLexNum
import Derived.WalkKit
import Derived.ProofKit
import Derived.OpenShut
import Derived.ShutString
import Derived.ChangeOld
import Derived.Below
import Derived.SizedLaws
import Derived.Test.YtjadancpencnnaaDoorHMDoor
import Derived.Test.YtjadancpencnnaaDoorTie
import Derived.Test.YtjadancpencnnaaDoorCards
import Derived.LaidMore
import Derived.OpenVars
import Derived.LaidLaws
import Derived.SevenTiedAt
import Derived.Stop.Joined
import Derived.Stop.LaidErr
namespace Go.Proofs.YtjadancpencnnaaDoor.fnExactLexNum
open Go.ChangeShapes Go.WideShapes Go.ChangeAt Go.RowKit Go.HM Go.D
open Go.ChangeMaps (open_string shut_string)
set_option linter.unusedVariables false
theorem own : ownKnob Tryd.prog.godebug = none := by kernel_rfl
theorem laidOut : laidOutB Tryd.prog = true := by kernel_rfl
theorem door_met (os : Os) (args : Array Value) : laidMetH Tryd.prog Rows.fnExactLexNumRow.laid ((World.doorLaid Tryd.prog 72 os).forCall (fun _ _ => 0) ⟨#[], args, []⟩).memory :=
  laidMetH_of_parts3 (fuel := 8) (laidMet_of_run' 8 (by kernel_rfl) (by kernel_rfl)) (by kernel_rfl) (by kernel_rfl)
set_option maxRecDepth 100000 in
set_option maxHeartbeats 2000000 in
theorem lifted (os : Os) (started : os.Started) (H : Type) (enc : TypeId × Value → H) :
    ReturnsInHanded {} Tryd.checked os 4 .any (fun w args => (Rows.fnExactLexNumSpec.pre enc Tryd.prog Tryd.f4 [] false w args ∧ laidMetH Tryd.prog Rows.fnExactLexNumRow.laid w) ∧ sizedMet enc Tryd.prog Tryd.f4 (OpenSpec.ofChange Rows.fnExactLexNumSpec) false w args) (Rows.fnExactLexNumSpec.post enc Tryd.prog Tryd.f4 false true false false) := by
  refine returnsInHanded_of_change_and (C := Tryd.checked) (X := fun w _ => laidMetH Tryd.prog Rows.fnExactLexNumRow.laid w) (fun _ _ _ hh h => h.of_heap hh) own started (by kernel_rfl) Tryd.func4
    (ChangeSpec.witness_shaped (enc := enc) (C := Tryd.checked) (os := os) (X := fun w _ => laidMetH Tryd.prog Rows.fnExactLexNumRow.laid w) false (World.doorLaid Tryd.prog 72 os) #[.string ByteArray.empty] 8 rfl (World.shaped_of_RefB (by kernel_rfl) (by kernel_rfl)) (by kernel_rfl) (by kernel_rfl) (by kernel_rfl) (door_met os _)) ?_
  intro W base args ds gs before hval0 hW hcnd hsz0 hL _
  have hval : ∀ (j : Nat) t v, Tryd.f4.params[j]? = some t → args[j]? = some v → Value.okWide Tryd.prog W .any base t v := hval0
  have hW' := hW
  obtain ⟨p, q, hA0, hV, rfl, hfz, hnd⟩ := hW
  have hA : DataW.TrodAll enc Tryd.prog W 0 (fun _ => true) true Tryd.f4.params.toList args.toList ds p := hA0
  rw [Tryd.params4] at hA hval
  obtain ⟨v0, vs0, d0, ds0, p0, q0, hargs, rfl, rfl, h0, r0⟩ := trodAll_cons hA
  obtain ⟨rfl, rfl, rfl⟩ := trodAll_nil r0
  obtain rfl : args = #[v0] := by cases args; simp_all
  obtain ⟨rfl, rfl⟩ := trodVars_none hV
  have hL0 := hL
  rw [MakeChecks.laidMetH_plain _ _ _ (by kernel_rfl)] at hL0
  have hLM : laidMet Tryd.prog [("math/bits.deBruijn32tab", Rows.laid_math_bits_deBruijn32tab), ("math/bits.deBruijn64tab", Rows.laid_math_bits_deBruijn64tab), ("internal/strconv.uint64pow10", Rows.laid_internal_strconv_uint64pow10), ("strconv.ErrRange", Rows.laid_strconv_ErrRange), ("strconv.ErrSyntax", Rows.laid_strconv_ErrSyntax)] W := hL0
  obtain ⟨lps, hLV0, _, _⟩ := hL0
  have hLV : DataW.LaidVars Tryd.prog W [("math/bits.deBruijn32tab", Rows.laid_math_bits_deBruijn32tab), ("math/bits.deBruijn64tab", Rows.laid_math_bits_deBruijn64tab), ("internal/strconv.uint64pow10", Rows.laid_internal_strconv_uint64pow10), ("strconv.ErrRange", Rows.laid_strconv_ErrRange), ("strconv.ErrSyntax", Rows.laid_strconv_ErrSyntax)] lps := hLV0
  obtain ⟨vg0, vt0, vc0, vf0, vp0, vq0, hg0, ht0, hv0, hd0, ⟨vg1, vt1, vc1, vf1, vp1, vq1, hg1, ht1, hv1, hd1, ⟨vg2, vt2, vc2, vf2, vp2, vq2, hg2, ht2, hv2, hd2, ⟨vg3, vt3, vc3, vf3, vp3, vq3, hg3, ht3, hv3, hd3, ⟨vg4, vt4, vc4, vf4, vp4, vq4, hg4, ht4, hv4, hd4, _, _⟩, _⟩, _⟩, _⟩, _⟩ := hLV
  let gsz : Nat → Nat × Nat := fun g => if g = 6 then (1, 32) else if g = 7 then (1, 64) else if g = 4 then (1, 20) else if g = 3 then (1, 1) else if g = 2 then (1, 1) else (0, 0)
  have star : "*" ++ "errors.errorString" = "*errors.errorString" := by decide
  have rowE : ∀ u, Tryd.prog.typeName? 3 u = some "*errors.errorString" → u = 220 := fun u h => typeName_ptr_named (nm := "errors.errorString") (by rw [star]; kernel_rfl) (by kernel_rfl) (by decide) u (by rw [star]; exact h)
  obtain rfl : vg0 = 6 := Option.some.inj (hg0.symm.trans (show Tryd.prog.globalNamed "math/bits.deBruijn32tab" = some 6 by kernel_rfl))
  obtain rfl : vt0 = 230 := Option.some.inj (ht0.symm.trans (show (Tryd.prog.globals[6]?).map (·.type) = some 230 by kernel_rfl))
  have sv0 := (Seen.nil W gsz).glob (g := 6) (esz := 1) (size := 32) (by simp [sig0]) rfl (laid_ints (k := .u8) [0, 1, 28, 2, 29, 14, 24, 3, 30, 22, 20, 15, 25, 17, 4, 8, 31, 27, 13, 23, 21, 19, 16, 7, 26, 12, 18, 6, 11, 5, 10, 9] hg0 hv0 Tryd.underlying230 Tryd.underlying5 (by kernel_rfl) (by kernel_rfl) hd0) rfl
  obtain rfl : vg1 = 7 := Option.some.inj (hg1.symm.trans (show Tryd.prog.globalNamed "math/bits.deBruijn64tab" = some 7 by kernel_rfl))
  obtain rfl : vt1 = 231 := Option.some.inj (ht1.symm.trans (show (Tryd.prog.globals[7]?).map (·.type) = some 231 by kernel_rfl))
  have sv1 := sv0.glob (g := 7) (esz := 1) (size := 64) (by simp [sig0]) rfl (laid_ints (k := .u8) [0, 1, 56, 2, 57, 49, 28, 3, 61, 58, 42, 50, 38, 29, 17, 4, 62, 47, 59, 36, 45, 43, 51, 22, 53, 39, 33, 30, 24, 18, 12, 5, 63, 55, 48, 27, 60, 41, 37, 16, 46, 35, 44, 21, 52, 32, 23, 11, 54, 26, 40, 15, 34, 20, 31, 10, 25, 14, 19, 9, 13, 8, 7, 6] hg1 hv1 Tryd.underlying231 Tryd.underlying5 (by kernel_rfl) (by kernel_rfl) hd1) rfl
  obtain rfl : vg2 = 4 := Option.some.inj (hg2.symm.trans (show Tryd.prog.globalNamed "internal/strconv.uint64pow10" = some 4 by kernel_rfl))
  obtain rfl : vt2 = 225 := Option.some.inj (ht2.symm.trans (show (Tryd.prog.globals[4]?).map (·.type) = some 225 by kernel_rfl))
  have sv2 := sv1.glob (g := 4) (esz := 1) (size := 20) (by simp [sig0]) rfl (laid_ints (k := .u64) [1, 10, 100, 1000, 10000, 100000, 1000000, 10000000, 100000000, 1000000000, 10000000000, 100000000000, 1000000000000, 10000000000000, 100000000000000, 1000000000000000, 10000000000000000, 100000000000000000, 1000000000000000000, 10000000000000000000] hg2 hv2 Tryd.underlying225 Tryd.underlying204 (by kernel_rfl) (by kernel_rfl) hd2) rfl
  obtain ⟨ea3, es3, ev3, ec3, _, _⟩ := laid_sentinel hLM.tail.tail.tail (g := 3) (by kernel_rfl) (by kernel_rfl) Tryd.underlying75 rowE Tryd.underlying220 Tryd.underlying222 rfl rfl Tryd.underlying9 (by kernel_rfl) (by kernel_rfl)
  obtain ⟨mu3, le_e3, sv3⟩ := sv2.sentinel (g := 3) (by simp [sig0]) rfl (show Tryd.prog.globalNamed "strconv.ErrRange" = some 3 by kernel_rfl) ev3 ec3
  obtain ⟨ea4, es4, ev4, ec4, _, _⟩ := laid_sentinel hLM.tail.tail.tail.tail (g := 2) (by kernel_rfl) (by kernel_rfl) Tryd.underlying75 rowE Tryd.underlying220 Tryd.underlying222 rfl rfl Tryd.underlying9 (by kernel_rfl) (by kernel_rfl)
  obtain ⟨mu4, le_e4, sv4⟩ := sv3.sentinel (g := 2) (by simp [sig0]) (le_e3 _ _ rfl) (show Tryd.prog.globalNamed "strconv.ErrSyntax" = some 2 by kernel_rfl) ev4 ec4
  have k0 := h0
  have lt0 : ∀ x ∈ p0, x.block < W.heap.size := by obtain ⟨m, hm⟩ := k0; exact DataW.trod_lt m _ _ _ hm
  obtain ⟨a0, rfl, _⟩ := open_string Tryd.underlying9 (hval 0 9 v0 rfl rfl) h0
  have g0 := k0
  obtain ⟨fu0, hf0⟩ := g0
  obtain ⟨y0, fit0, show0⟩ := ((Lays.string Tryd.underlying9) : Lays enc Tryd.prog W 9 StrR fitT fu0) _ _ fu0 [.string a0] _ (Nat.le_refl _) hf0
  clear hA0 hval0 hsz0
  obtain ⟨μ0, σ0, xs0, sn0, le0, lh0, rc0, R0⟩ := show0 _ _ sv4
  have vars0 : VarsFnExactLexNum σ0 := VarsFnExactLexNum.le lh0 ⟨rfl, rfl, rfl, ⟨_, _, rfl⟩, ⟨_, _, rfl⟩⟩
  replace R0 : _ = _ := R0
  subst R0
  obtain ⟨σ', run⟩ := FnExactLexNum_law vars0 fit0
  refine (law_of gok sn0 run #[.string a0] (rels_one (rel_single rc0) rels_nil)).mono fun e W' ⟨y, he, ⟨μ', hy⟩, bel⟩ => ?_
  obtain rfl : y = .bool true := by cases hy; rfl
  subst he
  exact ⟨_, rfl, _, _, _, [], _, [], hW', trodAll_mk1 (shut_bool Tryd.underlying4 _), (trodAll_cons_mk (Below.trod laidOut (by kernel_rfl) (of_decide_eq_true (by kernel_rfl)) k0 bel lt0) trodAll_mk0), rfl, bel.frame _, fun h => by cases h⟩
theorem over : Rows.fnExactLexNumRow.holds Tryd.pinned (OpenSpec.ofChange Rows.fnExactLexNumSpec) :=
  OpenClaim.holds_of_wide 4 Tryd.f4 rfl rfl rfl rfl rfl rfl rfl ⟨rfl, rfl, rfl, rfl, rfl⟩ rfl rfl rfl rfl rfl (by kernel_rfl) Tryd.func4 (by kernel_rfl)
    (of_decide_eq_true (by kernel_rfl)) (by unfold Func.isWrapper; first | (rw [if_pos (by decide +kernel)]; kernel_rfl) | (rw [if_neg (by decide +kernel)]; exact ⟨rfl, rfl⟩))
    (fun os started H enc _ => lifted os started H enc)
theorem proved : Rows.FnExactLexNumSaid := over
#print axioms proved
end Go.Proofs.YtjadancpencnnaaDoor.fnExactLexNum
namespace Go.Proofs.YtjadancpencnnaaDoor
/-- The row, under a short name, for the claim. -/
theorem fnExactLexNum_row : Rows.FnExactLexNumSaid := fnExactLexNum.proved
/-- The tied card. -/
theorem fnExactLexNum_holds : Rows.FnExactLexNumCardSaid :=
  Claim7.holds_tied_plain_at .later [] [.data, .data, .data, .sentinel, .sentinel] true (true, "fd5ccfe73d7ab39d3923027f684eb7c7b425977992afee4baa4c15d78e5ca416") true
    fnExactLexNum_row (fun _ h => by cases h) (by kernel_rfl) (fun _ h => by cases h) fnExactLexNum_row_tie rfl ⟨rfl, rfl⟩ (by kernel_rfl) rfl
    (fun f fn hf hfn => by
      obtain rfl : f = 4 := Option.some.inj ((show Tryd.prog.funcNamed "loop.example/smithy/laws.FnExactLexNum" = some 4 by kernel_rfl).symm.trans hf) |>.symm
      obtain rfl : fn = Tryd.f4 := (Option.some.inj (Tryd.func4.symm.trans hfn)).symm
      exact ⟨by kernel_rfl, fun j t ht => by
        rw [Tryd.params4] at ht
        have hm : t ∈ [9] := by simpa using Array.mem_of_getElem? ht
        have hall : ([9].all fun u => !Tryd.prog.wantsStandIn u) = true := by kernel_rfl
        exact (show Tryd.prog.wantsStandIn t = false by simpa using List.all_eq_true.1 hall t hm)⟩)
    (by kernel_rfl)
end Go.Proofs.YtjadancpencnnaaDoor
