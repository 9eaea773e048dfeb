/- The row of the law FnLexName: called with whatever arguments can be read, it returns true, and each argument reads afterwards as it read before. -/
import Derived.Test.YtbkbdpdfcannfaaDoorRows
import Derived.Test.YtbkbdpdfcannfaaDoorOFnLexName
import Derived.Test.YtbkbdpdfcannfaaDoorK
import Derived.Test.YtbkbdpdfcannfaaDoorWName
import Derived.WalkKit
import Derived.ProofKit
import Derived.OpenShut
import Derived.ShutString
import Derived.ChangeOld
import Derived.Below
import Derived.SizedLaws
import Derived.Test.YtbkbdpdfcannfaaDoorHMDoor
import Derived.Test.YtbkbdpdfcannfaaDoorTie
import Derived.Test.YtbkbdpdfcannfaaDoorCards
import Derived.LaidMore
import Derived.OpenVars
import Derived.LaidLaws
import Derived.SevenTiedAt
import Derived.Stop.Joined
import Derived.Stop.LaidErr
namespace Go.Proofs.YtbkbdpdfcannfaaDoor.fnLexName
open Go.ChangeShapes Go.WideShapes Go.ChangeAt Go.RowKit Go.HM Go.L
open Go.ChangeMaps (open_string shut_string)
set_option linter.unusedVariables false
theorem own : ownKnob Tryd.prog.godebug = none := by kernel_rfl
theorem laidOut : laidOutB Tryd.prog = true := by kernel_rfl
theorem door_met (os : Os) (args : Array Value) : laidMetH Tryd.prog Rows.fnLexNameRow.laid ((World.doorLaid Tryd.prog 62 os).forCall (fun _ _ => 0) ⟨#[], args, []⟩).memory :=
  laidMetH_of_parts3 (fuel := 8) (laidMet_of_run' 8 (by kernel_rfl) (by kernel_rfl)) (by kernel_rfl) (by kernel_rfl)
set_option maxRecDepth 100000 in
set_option maxHeartbeats 2000000 in
theorem lifted (os : Os) (started : os.Started) (H : Type) (enc : TypeId × Value → H) :
    ReturnsInHanded {} Tryd.checked os 3 .any (fun w args => (Rows.fnLexNameSpec.pre enc Tryd.prog Tryd.f3 [] false w args ∧ laidMetH Tryd.prog Rows.fnLexNameRow.laid w) ∧ sizedMet enc Tryd.prog Tryd.f3 (OpenSpec.ofChange Rows.fnLexNameSpec) false w args) (Rows.fnLexNameSpec.post enc Tryd.prog Tryd.f3 false true false false) := by
  refine returnsInHanded_of_change_and (C := Tryd.checked) (X := fun w _ => laidMetH Tryd.prog Rows.fnLexNameRow.laid w) (fun _ _ _ hh h => h.of_heap hh) own started (by kernel_rfl) Tryd.func3
    (ChangeSpec.witness_shaped (enc := enc) (C := Tryd.checked) (os := os) (X := fun w _ => laidMetH Tryd.prog Rows.fnLexNameRow.laid w) false (World.doorLaid Tryd.prog 62 os) #[.slice none 0 0, .slice none 0 0] 8 rfl (World.shaped_of_RefB (by kernel_rfl) (by kernel_rfl)) (by kernel_rfl) (by kernel_rfl) (by kernel_rfl) (door_met os _)) ?_
  intro W base args ds gs before hval0 hW hcnd hsz0 hL _
  have hval : ∀ (j : Nat) t v, Tryd.f3.params[j]? = some t → args[j]? = some v → Value.okWide Tryd.prog W .any base t v := hval0
  have hW' := hW
  obtain ⟨p, q, hA0, hV, rfl, hfz, hnd⟩ := hW
  have hA : DataW.TrodAll enc Tryd.prog W 0 (fun _ => true) true Tryd.f3.params.toList args.toList ds p := hA0
  rw [Tryd.params3] at hA hval
  obtain ⟨v0, vs0, d0, ds0, p0, q0, hargs, rfl, rfl, h0, r0⟩ := trodAll_cons hA
  obtain ⟨v1, vs1, d1, ds1, p1, q1, rfl, rfl, rfl, h1, r1⟩ := trodAll_cons r0
  obtain ⟨rfl, rfl, rfl⟩ := trodAll_nil r1
  obtain rfl : args = #[v0, v1] := by cases args; simp_all
  obtain ⟨rfl, rfl⟩ := trodVars_none hV
  have hL0 := hL
  rw [MakeChecks.laidMetH_plain _ _ _ (by kernel_rfl)] at hL0
  have hLM : laidMet Tryd.prog [("math/bits.deBruijn32tab", Rows.laid_math_bits_deBruijn32tab), ("math/bits.deBruijn64tab", Rows.laid_math_bits_deBruijn64tab), ("internal/strconv.uint64pow10", Rows.laid_internal_strconv_uint64pow10), ("strconv.ErrRange", Rows.laid_strconv_ErrRange), ("strconv.ErrSyntax", Rows.laid_strconv_ErrSyntax)] W := hL0
  obtain ⟨lps, hLV0, _, _⟩ := hL0
  have hLV : DataW.LaidVars Tryd.prog W [("math/bits.deBruijn32tab", Rows.laid_math_bits_deBruijn32tab), ("math/bits.deBruijn64tab", Rows.laid_math_bits_deBruijn64tab), ("internal/strconv.uint64pow10", Rows.laid_internal_strconv_uint64pow10), ("strconv.ErrRange", Rows.laid_strconv_ErrRange), ("strconv.ErrSyntax", Rows.laid_strconv_ErrSyntax)] lps := hLV0
  obtain ⟨vg0, vt0, vc0, vf0, vp0, vq0, hg0, ht0, hv0, hd0, ⟨vg1, vt1, vc1, vf1, vp1, vq1, hg1, ht1, hv1, hd1, ⟨vg2, vt2, vc2, vf2, vp2, vq2, hg2, ht2, hv2, hd2, ⟨vg3, vt3, vc3, vf3, vp3, vq3, hg3, ht3, hv3, hd3, ⟨vg4, vt4, vc4, vf4, vp4, vq4, hg4, ht4, hv4, hd4, _, _⟩, _⟩, _⟩, _⟩, _⟩ := hLV
  let gsz : Nat → Nat × Nat := fun g => if g = 4 then (1, 32) else if g = 5 then (1, 64) else if g = 3 then (1, 20) else if g = 2 then (1, 1) else if g = 1 then (1, 1) else (0, 0)
  have star : "*" ++ "errors.errorString" = "*errors.errorString" := by decide
  have rowE : ∀ u, Tryd.prog.typeName? 3 u = some "*errors.errorString" → u = 75 := fun u h => typeName_ptr_named (nm := "errors.errorString") (by rw [star]; kernel_rfl) (by kernel_rfl) (by decide) u (by rw [star]; exact h)
  obtain rfl : vg0 = 4 := Option.some.inj (hg0.symm.trans (show Tryd.prog.globalNamed "math/bits.deBruijn32tab" = some 4 by kernel_rfl))
  obtain rfl : vt0 = 83 := Option.some.inj (ht0.symm.trans (show (Tryd.prog.globals[4]?).map (·.type) = some 83 by kernel_rfl))
  have sv0 := (Seen.nil W gsz).glob (g := 4) (esz := 1) (size := 32) (by simp [sig0]) rfl (laid_ints (k := .u8) [0, 1, 28, 2, 29, 14, 24, 3, 30, 22, 20, 15, 25, 17, 4, 8, 31, 27, 13, 23, 21, 19, 16, 7, 26, 12, 18, 6, 11, 5, 10, 9] hg0 hv0 Tryd.underlying83 Tryd.underlying5 (by kernel_rfl) (by kernel_rfl) hd0) rfl
  obtain rfl : vg1 = 5 := Option.some.inj (hg1.symm.trans (show Tryd.prog.globalNamed "math/bits.deBruijn64tab" = some 5 by kernel_rfl))
  obtain rfl : vt1 = 84 := Option.some.inj (ht1.symm.trans (show (Tryd.prog.globals[5]?).map (·.type) = some 84 by kernel_rfl))
  have sv1 := sv0.glob (g := 5) (esz := 1) (size := 64) (by simp [sig0]) rfl (laid_ints (k := .u8) [0, 1, 56, 2, 57, 49, 28, 3, 61, 58, 42, 50, 38, 29, 17, 4, 62, 47, 59, 36, 45, 43, 51, 22, 53, 39, 33, 30, 24, 18, 12, 5, 63, 55, 48, 27, 60, 41, 37, 16, 46, 35, 44, 21, 52, 32, 23, 11, 54, 26, 40, 15, 34, 20, 31, 10, 25, 14, 19, 9, 13, 8, 7, 6] hg1 hv1 Tryd.underlying84 Tryd.underlying5 (by kernel_rfl) (by kernel_rfl) hd1) rfl
  obtain rfl : vg2 = 3 := Option.some.inj (hg2.symm.trans (show Tryd.prog.globalNamed "internal/strconv.uint64pow10" = some 3 by kernel_rfl))
  obtain rfl : vt2 = 79 := Option.some.inj (ht2.symm.trans (show (Tryd.prog.globals[3]?).map (·.type) = some 79 by kernel_rfl))
  have sv2 := sv1.glob (g := 3) (esz := 1) (size := 20) (by simp [sig0]) rfl (laid_ints (k := .u64) [1, 10, 100, 1000, 10000, 100000, 1000000, 10000000, 100000000, 1000000000, 10000000000, 100000000000, 1000000000000, 10000000000000, 100000000000000, 1000000000000000, 10000000000000000, 100000000000000000, 1000000000000000000, 10000000000000000000] hg2 hv2 Tryd.underlying79 Tryd.underlying61 (by kernel_rfl) (by kernel_rfl) hd2) rfl
  obtain ⟨ea3, es3, ev3, ec3, _, _⟩ := laid_sentinel hLM.tail.tail.tail (g := 2) (by kernel_rfl) (by kernel_rfl) Tryd.underlying43 rowE Tryd.underlying75 Tryd.underlying77 rfl rfl Tryd.underlying9 (by kernel_rfl) (by kernel_rfl)
  obtain ⟨mu3, le_e3, sv3⟩ := sv2.sentinel (g := 2) (by simp [sig0]) rfl (show Tryd.prog.globalNamed "strconv.ErrRange" = some 2 by kernel_rfl) ev3 ec3
  obtain ⟨ea4, es4, ev4, ec4, _, _⟩ := laid_sentinel hLM.tail.tail.tail.tail (g := 1) (by kernel_rfl) (by kernel_rfl) Tryd.underlying43 rowE Tryd.underlying75 Tryd.underlying77 rfl rfl Tryd.underlying9 (by kernel_rfl) (by kernel_rfl)
  obtain ⟨mu4, le_e4, sv4⟩ := sv3.sentinel (g := 1) (by simp [sig0]) (le_e3 _ _ rfl) (show Tryd.prog.globalNamed "strconv.ErrSyntax" = some 1 by kernel_rfl) ev4 ec4
  have k0 := h0
  have lt0 : ∀ x ∈ p0, x.block < W.heap.size := by obtain ⟨m, hm⟩ := k0; exact DataW.trod_lt m _ _ _ hm
  obtain ⟨a0, len0, cap0, rfl⟩ := okWide_slice Tryd.underlying22 (hval 0 22 v0 rfl rfl)
  have g0 := k0
  obtain ⟨fu0, hf0⟩ := g0
  obtain ⟨y0, fit0, show0⟩ := ((Lays.slice' Tryd.underlying22 (by kernel_rfl) (by decide) grows_u8 (Lays.u8 Tryd.underlying5)) : Lays enc Tryd.prog W 22 (SlR 1 U8R) (fitL fitU8) fu0) _ _ fu0 [.slice a0 len0 cap0] _ (Nat.le_refl _) hf0
  have k1 := h1
  have lt1 : ∀ x ∈ p1, x.block < W.heap.size := by obtain ⟨m, hm⟩ := k1; exact DataW.trod_lt m _ _ _ hm
  obtain ⟨a1, len1, cap1, rfl⟩ := okWide_slice Tryd.underlying22 (hval 1 22 v1 rfl rfl)
  have g1 := k1
  obtain ⟨fu1, hf1⟩ := g1
  obtain ⟨y1, fit1, show1⟩ := ((Lays.slice' Tryd.underlying22 (by kernel_rfl) (by decide) grows_u8 (Lays.u8 Tryd.underlying5)) : Lays enc Tryd.prog W 22 (SlR 1 U8R) (fitL fitU8) fu1) _ _ fu1 [.slice a1 len1 cap1] _ (Nat.le_refl _) hf1
  clear hA0 hval0 hsz0
  obtain ⟨μ0, σ0, xs0, sn0, le0, lh0, rc0, R0⟩ := show0 _ _ sv4
  have vars0 : VarsFnLexName σ0 := VarsFnLexName.le lh0 ⟨rfl, rfl, rfl, ⟨_, _, rfl⟩, ⟨_, _, rfl⟩⟩
  obtain ⟨μ1, σ1, xs1, sn1, le1, lh1, rc1, R1⟩ := show1 _ _ sn0
  replace vars0 := vars0.le lh1
  replace R0 := (Grows.sl grows_u8) _ _ _ _ lh1 R0
  replace rc0 := rc0.mono le1
  obtain ⟨w0, rfl, R0⟩ := R0
  obtain ⟨w1, rfl, R1⟩ := R1
  obtain ⟨σ', run⟩ := FnLexName_law vars0 fit0 R0 fit1 R1
  refine (law_of gok sn1 run #[.slice a0 len0 cap0, .slice a1 len1 cap1] (rels_one (rel_single rc0) (rels_one (rel_single rc1) rels_nil))).mono fun e W' ⟨y, he, ⟨μ', hy⟩, bel⟩ => ?_
  obtain rfl : y = .bool true := by cases hy; rfl
  subst he
  exact ⟨_, rfl, _, _, _, [], _, [], hW', trodAll_mk1 (shut_bool Tryd.underlying4 _), (trodAll_cons_mk (Below.trod laidOut (by kernel_rfl) (of_decide_eq_true (by kernel_rfl)) k0 bel lt0) (trodAll_cons_mk (Below.trod laidOut (by kernel_rfl) (of_decide_eq_true (by kernel_rfl)) k1 bel lt1) trodAll_mk0)), rfl, bel.frame _, fun h => by cases h⟩
theorem over : Rows.fnLexNameRow.holds Tryd.pinned (OpenSpec.ofChange Rows.fnLexNameSpec) :=
  OpenClaim.holds_of_wide 3 Tryd.f3 rfl rfl rfl rfl rfl rfl rfl ⟨rfl, rfl, rfl, rfl, rfl⟩ rfl rfl rfl rfl rfl (by kernel_rfl) Tryd.func3 (by kernel_rfl)
    (of_decide_eq_true (by kernel_rfl)) (by unfold Func.isWrapper; first | (rw [if_pos (by decide +kernel)]; kernel_rfl) | (rw [if_neg (by decide +kernel)]; exact ⟨rfl, rfl⟩))
    (fun os started H enc _ => lifted os started H enc)
theorem proved : Rows.FnLexNameSaid := over
#print axioms proved
end Go.Proofs.YtbkbdpdfcannfaaDoor.fnLexName
namespace Go.Proofs.YtbkbdpdfcannfaaDoor
/-- The row, under a short name, for the claim. -/
theorem fnLexName_row : Rows.FnLexNameSaid := fnLexName.proved
/-- The tied card. -/
theorem fnLexName_holds : Rows.FnLexNameCardSaid :=
  Claim7.holds_tied_plain_at .later [] [.data, .data, .data, .sentinel, .sentinel] true (true, "7e8b3777002f5d6e90e45adc0599b5d5f30fc62fdbae225df55143448a063b8f") true
    fnLexName_row (fun _ h => by cases h) (by kernel_rfl) (fun _ h => by cases h) fnLexName_row_tie rfl ⟨rfl, rfl⟩ (by kernel_rfl) rfl
    (fun f fn hf hfn => by
      obtain rfl : f = 3 := Option.some.inj ((show Tryd.prog.funcNamed "loop.example/smithy/laws.FnLexName" = some 3 by kernel_rfl).symm.trans hf) |>.symm
      obtain rfl : fn = Tryd.f3 := (Option.some.inj (Tryd.func3.symm.trans hfn)).symm
      exact ⟨by kernel_rfl, fun j t ht => by
        rw [Tryd.params3] at ht
        have hm : t ∈ [22, 22] := by simpa using Array.mem_of_getElem? ht
        have hall : ([22, 22].all fun u => !Tryd.prog.wantsStandIn u) = true := by kernel_rfl
        exact (show Tryd.prog.wantsStandIn t = false by simpa using List.all_eq_true.1 hall t hm)⟩)
    (by kernel_rfl)
end Go.Proofs.YtbkbdpdfcannfaaDoor
