/- The row of the law FnExactLinkRead: called with whatever arguments can be read, it returns true, and each argument reads afterwards as it read before. -/
import Derived.Test.YtiefmflpmmgoaaaGreatDoorRows
import Derived.Test.YtiefmflpmmgoaaaGreatDoorOFnExactLinkRead
import Derived.Test.YtiefmflpmmgoaaaGreatDoorK
import Derived.Test.YtiefmflpmmgoaaaGreatDoorMany2
import Derived.WalkKit
import Derived.ProofKit
import Derived.OpenShut
import Derived.ShutString
import Derived.ChangeOld
import Derived.Below
import Derived.SizedLaws
import Derived.Test.YtiefmflpmmgoaaaGreatDoorHMSplit
import Derived.Test.YtiefmflpmmgoaaaGreatDoorTie
import Derived.Test.YtiefmflpmmgoaaaGreatDoorCards
import Derived.LaidMore
import Derived.OpenVars
import Derived.LaidLaws
import Derived.SevenTiedAt
import Derived.Stop.Joined
import Derived.Stop.LaidErr
import Derived.Lay
import Derived.MakeChecks
namespace Go.Proofs.YtiefmflpmmgoaaaGreatDoor.fnExactLinkRead
open Go.ChangeShapes Go.WideShapes Go.ChangeAt Go.RowKit Go.HM Go.F
open Go.ChangeMaps (open_string shut_string)
set_option linter.unusedVariables false
theorem own : ownKnob Tryz.prog.godebug = none := by kernel_rfl
theorem laidOut : laidOutB Tryz.prog = true := by kernel_rfl
theorem door_met (os : Os) (args : Array Value) : laidMetH Tryz.prog Rows.fnExactLinkReadRow.laid ((World.laidAll Tryz.prog os Rows.fnExactLinkReadRow.laid).forCall (fun _ _ => 0) ⟨#[], args, []⟩).memory := by
  rw [MakeChecks.laidMetH_plain _ _ _ (by kernel_rfl)]
  exact laidMet_laidAll _ (by kernel_rfl) (by kernel_rfl)
set_option maxRecDepth 100000 in
set_option maxHeartbeats 2000000 in
theorem lifted (os : Os) (started : os.Started) (H : Type) (enc : TypeId × Value → H) :
    ReturnsInHanded {} Tryz.checked os 3 .any (fun w args => (Rows.fnExactLinkReadSpec.pre enc Tryz.prog Tryz.f3 [] false w args ∧ laidMetH Tryz.prog Rows.fnExactLinkReadRow.laid w) ∧ sizedMet enc Tryz.prog Tryz.f3 (OpenSpec.ofChange Rows.fnExactLinkReadSpec) false w args) (Rows.fnExactLinkReadSpec.post enc Tryz.prog Tryz.f3 false true false false) := by
  refine handed_shaped (C := Tryz.checked) (X := fun w _ => laidMetH Tryz.prog Rows.fnExactLinkReadRow.laid w) (fun _ _ _ hh h => h.of_heap hh) own started (by kernel_rfl) Tryz.func3
    (ChangeSpec.witness_shaped (enc := enc) (C := Tryz.checked) (os := os) (X := fun w _ => laidMetH Tryz.prog Rows.fnExactLinkReadRow.laid w) false (World.laidAll Tryz.prog os Rows.fnExactLinkReadRow.laid) #[.string ByteArray.empty] 8 (World.laidAll_os _ _ _) (World.shaped_of_ZipB (by kernel_rfl) (by kernel_rfl)) (by kernel_rfl) (by kernel_rfl) (by kernel_rfl) (door_met os _)) ?_
  intro W base args ds gs before hval0 hW hcnd hsz0 hL hshape _
  have hval : ∀ (j : Nat) t v, Tryz.f3.params[j]? = some t → args[j]? = some v → Value.okWide Tryz.prog W .any base t v := hval0
  have hW' := hW
  obtain ⟨p, q, hA0, hV, rfl, hfz, hnd⟩ := hW
  have hA : DataW.TrodAll enc Tryz.prog W 0 (fun _ => true) true Tryz.f3.params.toList args.toList ds p := hA0
  rw [Tryz.params3] at hA hval
  obtain ⟨v0, vs0, d0, ds0, p0, q0, hargs, rfl, rfl, h0, r0⟩ := trodAll_cons hA
  obtain ⟨rfl, rfl, rfl⟩ := trodAll_nil r0
  obtain rfl : args = #[v0] := by cases args; simp_all
  obtain ⟨gv0, gv1, rfl⟩ := trodVars_2 hV
  have hL0 := hL
  rw [MakeChecks.laidMetH_plain _ _ _ (by kernel_rfl)] at hL0
  have hLM : laidMet Tryz.prog [("math/bits.deBruijn32tab", Rows.laid_math_bits_deBruijn32tab), ("math/bits.deBruijn64tab", Rows.laid_math_bits_deBruijn64tab), ("internal/strconv.uint64pow10", Rows.laid_internal_strconv_uint64pow10), ("unicode/utf8.acceptRanges", Rows.laid_unicode_utf8_acceptRanges), ("strconv.ErrRange", Rows.laid_strconv_ErrRange), ("strconv.ErrSyntax", Rows.laid_strconv_ErrSyntax), ("loop.example/smithy/impl.typeWords", Rows.laid_loop_example_smithy_impl_typeWords), ("loop.example/smithy/impl.opWords", Rows.laid_loop_example_smithy_impl_opWords), ("unicode/utf8.first", Rows.laid_unicode_utf8_first)] W := hL0
  obtain ⟨lps, hLV0, _, _⟩ := hL0
  have hLV : DataW.LaidVars Tryz.prog W [("math/bits.deBruijn32tab", Rows.laid_math_bits_deBruijn32tab), ("math/bits.deBruijn64tab", Rows.laid_math_bits_deBruijn64tab), ("internal/strconv.uint64pow10", Rows.laid_internal_strconv_uint64pow10), ("unicode/utf8.acceptRanges", Rows.laid_unicode_utf8_acceptRanges), ("strconv.ErrRange", Rows.laid_strconv_ErrRange), ("strconv.ErrSyntax", Rows.laid_strconv_ErrSyntax), ("loop.example/smithy/impl.typeWords", Rows.laid_loop_example_smithy_impl_typeWords), ("loop.example/smithy/impl.opWords", Rows.laid_loop_example_smithy_impl_opWords), ("unicode/utf8.first", Rows.laid_unicode_utf8_first)] lps := hLV0
  obtain ⟨vg0, vt0, vc0, vf0, vp0, vq0, hg0, ht0, hv0, hd0, ⟨vg1, vt1, vc1, vf1, vp1, vq1, hg1, ht1, hv1, hd1, ⟨vg2, vt2, vc2, vf2, vp2, vq2, hg2, ht2, hv2, hd2, ⟨vg3, vt3, vc3, vf3, vp3, vq3, hg3, ht3, hv3, hd3, ⟨vg4, vt4, vc4, vf4, vp4, vq4, hg4, ht4, hv4, hd4, ⟨vg5, vt5, vc5, vf5, vp5, vq5, hg5, ht5, hv5, hd5, ⟨vg6, vt6, vc6, vf6, vp6, vq6, hg6, ht6, hv6, hd6, ⟨vg7, vt7, vc7, vf7, vp7, vq7, hg7, ht7, hv7, hd7, ⟨vg8, vt8, vc8, vf8, vp8, vq8, hg8, ht8, hv8, hd8, _, _⟩, _⟩, _⟩, _⟩, _⟩, _⟩, _⟩, _⟩, _⟩ := hLV
  let gsz : Nat → Nat × Nat := fun g => if g = 8 then (1, 32) else if g = 9 then (1, 64) else if g = 5 then (1, 20) else if g = 4 then (1, 1) else if g = 3 then (1, 1) else if g = 1 then (1, 3) else if g = 0 then (1, 10) else if g = 2 then (1, 1) else (0, 0)
  have star : "*" ++ "errors.errorString" = "*errors.errorString" := by decide
  have rowE : ∀ u, Tryz.prog.typeName? 3 u = some "*errors.errorString" → u = 132 := fun u h => typeName_ptr_named (nm := "errors.errorString") (by rw [star]; kernel_rfl) (by kernel_rfl) (by decide) u (by rw [star]; exact h)
  obtain rfl : vg0 = 8 := Option.some.inj (hg0.symm.trans (show Tryz.prog.globalNamed "math/bits.deBruijn32tab" = some 8 by kernel_rfl))
  obtain rfl : vt0 = 145 := Option.some.inj (ht0.symm.trans (show (Tryz.prog.globals[8]?).map (·.type) = some 145 by kernel_rfl))
  have sv0 := (Seen.nil W gsz).glob (g := 8) (esz := 1) (size := 32) (by simp [sig0]) rfl (laid_ints (k := .u8) [0, 1, 28, 2, 29, 14, 24, 3, 30, 22, 20, 15, 25, 17, 4, 8, 31, 27, 13, 23, 21, 19, 16, 7, 26, 12, 18, 6, 11, 5, 10, 9] hg0 hv0 Tryz.underlying145 Tryz.underlying5 (by kernel_rfl) (by kernel_rfl) hd0) rfl
  obtain rfl : vg1 = 9 := Option.some.inj (hg1.symm.trans (show Tryz.prog.globalNamed "math/bits.deBruijn64tab" = some 9 by kernel_rfl))
  obtain rfl : vt1 = 146 := Option.some.inj (ht1.symm.trans (show (Tryz.prog.globals[9]?).map (·.type) = some 146 by kernel_rfl))
  have sv1 := sv0.glob (g := 9) (esz := 1) (size := 64) (by simp [sig0]) rfl (laid_ints (k := .u8) [0, 1, 56, 2, 57, 49, 28, 3, 61, 58, 42, 50, 38, 29, 17, 4, 62, 47, 59, 36, 45, 43, 51, 22, 53, 39, 33, 30, 24, 18, 12, 5, 63, 55, 48, 27, 60, 41, 37, 16, 46, 35, 44, 21, 52, 32, 23, 11, 54, 26, 40, 15, 34, 20, 31, 10, 25, 14, 19, 9, 13, 8, 7, 6] hg1 hv1 Tryz.underlying146 Tryz.underlying5 (by kernel_rfl) (by kernel_rfl) hd1) rfl
  obtain rfl : vg2 = 5 := Option.some.inj (hg2.symm.trans (show Tryz.prog.globalNamed "internal/strconv.uint64pow10" = some 5 by kernel_rfl))
  obtain rfl : vt2 = 136 := Option.some.inj (ht2.symm.trans (show (Tryz.prog.globals[5]?).map (·.type) = some 136 by kernel_rfl))
  have sv2 := sv1.glob (g := 5) (esz := 1) (size := 20) (by simp [sig0]) rfl (laid_ints (k := .u64) [1, 10, 100, 1000, 10000, 100000, 1000000, 10000000, 100000000, 1000000000, 10000000000, 100000000000, 1000000000000, 10000000000000, 100000000000000, 1000000000000000, 10000000000000000, 100000000000000000, 1000000000000000000, 10000000000000000000] hg2 hv2 Tryz.underlying136 Tryz.underlying114 (by kernel_rfl) (by kernel_rfl) hd2) rfl
  obtain rfl : vg6 = 1 := Option.some.inj (hg6.symm.trans (show Tryz.prog.globalNamed "loop.example/smithy/impl.typeWords" = some 1 by kernel_rfl))
  obtain rfl : vt6 = 85 := Option.some.inj (ht6.symm.trans (show (Tryz.prog.globals[1]?).map (·.type) = some 85 by kernel_rfl))
  have sv5 := sv2.glob (g := 1) (esz := 1) (size := 3) (by simp [sig0]) rfl (laid_strs [[105, 110, 116], [98, 111, 111, 108], [114, 111, 119]] hg6 hv6 Tryz.underlying85 Tryz.underlying9 (by kernel_rfl) (by kernel_rfl) hd6) rfl
  obtain rfl : vg7 = 0 := Option.some.inj (hg7.symm.trans (show Tryz.prog.globalNamed "loop.example/smithy/impl.opWords" = some 0 by kernel_rfl))
  obtain rfl : vt7 = 71 := Option.some.inj (ht7.symm.trans (show (Tryz.prog.globals[0]?).map (·.type) = some 71 by kernel_rfl))
  have sv6 := sv5.glob (g := 0) (esz := 1) (size := 10) (by simp [sig0]) rfl (laid_strs [[112, 117, 115, 104], [102, 108, 97, 103], [108, 111, 97, 100], [107, 101, 101, 112], [112, 114, 105, 109], [106, 117, 109, 112], [117, 110, 108, 101, 115, 115], [99, 97, 108, 108], [98, 97, 99, 107], [114, 111, 119]] hg7 hv7 Tryz.underlying71 Tryz.underlying9 (by kernel_rfl) (by kernel_rfl) hd7) rfl
  obtain ⟨mx, hmx⟩ := int_at (g := 2) (t := 3) (zero := #[.int .i64 0]) hshape (of_decide_eq_true (by kernel_rfl)) (by kernel_rfl) (by kernel_rfl) (by kernel_rfl) (by kernel_rfl) Tryz.underlying3
  have svm := sv6.glob (g := 2) (esz := 1) (size := 1) (by simp [sig0]) rfl (hmx _) rfl
  obtain ⟨ea4, es4, ev4, ec4, _, _⟩ := laid_sentinel hLM.tail.tail.tail.tail (g := 4) (by kernel_rfl) (by kernel_rfl) Tryz.underlying67 rowE Tryz.underlying132 Tryz.underlying134 rfl rfl Tryz.underlying9 (by kernel_rfl) (by kernel_rfl)
  obtain ⟨mu3, le_e4, sv3⟩ := svm.sentinel (g := 4) (by simp [sig0]) rfl (show Tryz.prog.globalNamed "strconv.ErrRange" = some 4 by kernel_rfl) ev4 ec4
  obtain ⟨ea5, es5, ev5, ec5, _, _⟩ := laid_sentinel hLM.tail.tail.tail.tail.tail (g := 3) (by kernel_rfl) (by kernel_rfl) Tryz.underlying67 rowE Tryz.underlying132 Tryz.underlying134 rfl rfl Tryz.underlying9 (by kernel_rfl) (by kernel_rfl)
  obtain ⟨mu4, le_e5, sv4⟩ := sv3.sentinel (g := 3) (by simp [sig0]) (le_e4 _ _ rfl) (show Tryz.prog.globalNamed "strconv.ErrSyntax" = some 3 by kernel_rfl) ev5 ec5
  have k0 := h0
  have lt0 : ∀ x ∈ p0, x.block < W.heap.size := by obtain ⟨m, hm⟩ := k0; exact DataW.trod_lt m _ _ _ hm
  obtain ⟨a0, rfl, _⟩ := open_string Tryz.underlying9 (hval 0 9 v0 rfl rfl) h0
  have g0 := k0
  obtain ⟨fu0, hf0⟩ := g0
  obtain ⟨y0, fit0, show0⟩ := ((Lays.string Tryz.underlying9) : Lays enc Tryz.prog W 9 StrR fitT fu0) _ _ fu0 [.string a0] _ (Nat.le_refl _) hf0
  clear hA0 hval0 hsz0
  obtain ⟨μ0, σ0, xs0, sn0, le0, lh0, rc0, R0⟩ := show0 _ _ sv4
  have vars0 : VarsFnExactLinkRead σ0 := VarsFnExactLinkRead.le lh0 ⟨rfl, rfl, rfl, ⟨_, _, rfl⟩, ⟨_, _, rfl⟩, rfl, rfl, ⟨_, rfl⟩⟩
  replace R0 : _ = _ := R0
  subst R0
  obtain ⟨σ', run⟩ := FnExactLinkRead_law vars0 fit0
  refine (law_of gok sn0 run #[.string a0] (rels_one (rel_single rc0) rels_nil)).mono fun e W' ⟨y, he, ⟨μ', hy⟩, bel⟩ => ?_
  obtain rfl : y = .bool true := by cases hy; rfl
  subst he
  exact ⟨_, rfl, _, _, _, [], _, _, hW', trodAll_mk1 (shut_bool Tryz.underlying4 _), (trodAll_cons_mk (Below.trod laidOut (by kernel_rfl) (of_decide_eq_true (by kernel_rfl)) k0 bel lt0) trodAll_mk0), Below.trodVars laidOut bel (by kernel_rfl) hV, bel.frame _, fun h => by cases h⟩
theorem jf0 : (Rows.fnExactLinkReadRow.wf (OpenSpec.ofChange Rows.fnExactLinkReadSpec)) = true := by kernel_rfl
theorem jf1 : (laidOutB Tryz.pinned.checked.prog) = true := by kernel_rfl
theorem jf2 : (mapsRowed Tryz.pinned.checked.prog) = true := by kernel_rfl
theorem jf3 : (Tryz.f3.params.all (Tryz.pinned.checked.prog.readableRec ·)) = true := by kernel_rfl
theorem jf4 : (namedTie Tryz.pinned.checked.prog Rows.fnExactLinkReadRow.named Rows.fnExactLinkReadSpec.vars) = true := by kernel_rfl
theorem jf5 : ((Rows.fnExactLinkReadRow.stops == [])) = true := by kernel_rfl
theorem jf6 : ((Tryz.pinned.checked.prog.stops == [])) = true := by kernel_rfl
theorem jf7 : ((Rows.fnExactLinkReadRow.knobs == [])) = true := by kernel_rfl
theorem jf8 : ((Tryz.pinned.checked.prog.stopKnobs == [])) = true := by kernel_rfl
theorem jf9 : ((Rows.fnExactLinkReadRow.inPlace == Tryz.pinned.checked.prog.inPlace 3)) = true := by kernel_rfl
theorem jf10 : ((Rows.fnExactLinkReadRow.unfollowed == Tryz.pinned.checked.prog.unfollowed 3)) = true := by kernel_rfl
theorem jf11 : ((Rows.fnExactLinkReadRow.recurses == Tryz.pinned.checked.prog.recurses 3)) = true := by kernel_rfl
theorem jf12 : ((Rows.fnExactLinkReadRow.named == Tryz.pinned.checked.prog.varsNamed 3)) = true := by kernel_rfl
theorem jf13 : ((Rows.fnExactLinkReadRow.maps == (Tryz.f3.params.toList ++ Rows.fnExactLinkReadSpec.plain.varTypes Tryz.pinned.checked.prog).any (Tryz.pinned.checked.prog.mapsRec ·))) = true := by kernel_rfl
theorem jf14 : ((Rows.fnExactLinkReadRow.ifaces == (Tryz.f3.params.toList ++ Rows.fnExactLinkReadSpec.plain.varTypes Tryz.pinned.checked.prog).any (Tryz.pinned.checked.prog.ifacesRec ·))) = true := by kernel_rfl
theorem jf15 : ((Rows.fnExactLinkReadRow.mapsOut == Tryz.pinned.checked.prog.mapsAmong Tryz.f3.resultTypes.toList)) = true := by kernel_rfl
theorem jf16 : ((Rows.fnExactLinkReadRow.loops == (Tryz.f3.params.toList ++ Rows.fnExactLinkReadSpec.plain.varTypes Tryz.pinned.checked.prog).any (Tryz.pinned.checked.prog.loopsFrom ·))) = true := by kernel_rfl
theorem jf17 : ((Rows.fnExactLinkReadRow.wideKeys == (Tryz.f3.params.toList ++ Rows.fnExactLinkReadSpec.plain.varTypes Tryz.pinned.checked.prog ++ Tryz.f3.resultTypes.toList).any (Tryz.pinned.checked.prog.wideKeysFrom ·))) = true := by kernel_rfl
theorem jf18 : (Rows.fnExactLinkReadSpec.vars.all (Tryz.pinned.checked.prog.varReadable ·)) = true := by kernel_rfl
theorem jf19 : (Tryz.f3.resultTypes.all (fun t => Tryz.pinned.checked.prog.readableRec t && decide (t < Tryz.pinned.checked.prog.types.size))) = true := by kernel_rfl
theorem jf20 : ((Rows.fnExactLinkReadRow.ifacesOut == Tryz.f3.resultTypes.toList.any (Tryz.pinned.checked.prog.ifacesRec ·))) = true := by kernel_rfl
theorem jf21 : ((Rows.fnExactLinkReadRow.loopsOut == Tryz.f3.resultTypes.toList.any (Tryz.pinned.checked.prog.loopsFrom ·))) = true := by kernel_rfl
theorem jf22 : ((Rows.fnExactLinkReadRow.plainKeys == Tryz.pinned.checked.prog.plainKeys)) = true := by kernel_rfl
theorem jf23 : (Rows.fnExactLinkReadRow.shortTexts.isNone) = true := by kernel_rfl
theorem jf24 : (Tryz.pinned.checked.prog.stopsHeard) = true := by kernel_rfl
theorem jf25 : (Tryz.pinned.checked.prog.mayEnter) = true := by kernel_rfl
theorem jf26 : ((Rows.fnExactLinkReadRow.lifted == Tryz.pinned.checked.prog.liftsFinal)) = true := by kernel_rfl
theorem jf27 : ((Tryz.pinned.checked.prog.make == some Rows.fnExactLinkReadRow.make)) = true := by kernel_rfl
theorem jf28 : ((Rows.fnExactLinkReadRow.kinds == (if Rows.fnExactLinkReadRow.domain.isEmpty then [] else Tryz.f3.params.toList.map fun t => match Tryz.pinned.checked.prog.underlying t with | some (.int k) => some k | _ => none))) = true := by kernel_rfl
theorem jf29 : ((Rows.fnExactLinkReadRow.pinned == Rows.fnExactLinkReadRow.pinnedBy)) = true := by kernel_rfl
theorem jf30 : ((Rows.fnExactLinkReadRow.veiled == (Tryz.f3.params.toList ++ Rows.fnExactLinkReadSpec.plain.varTypes Tryz.pinned.checked.prog ++ Tryz.f3.resultTypes.toList).any (Tryz.pinned.checked.prog.veiledRec ·))) = true := by kernel_rfl
theorem jf31 : (Rows.fnExactLinkReadRow.veiledFits Tryz.pinned.checked.prog Tryz.f3.params.toList (Tryz.f3.params.toList ++ Rows.fnExactLinkReadSpec.plain.varTypes Tryz.pinned.checked.prog ++ Tryz.f3.resultTypes.toList)) = true := by kernel_rfl
set_option maxRecDepth 100000 in
theorem jfAll : joinedFacts Tryz.pinned.checked.prog 3 Tryz.f3 Rows.fnExactLinkReadSpec Rows.fnExactLinkReadRow = true := by
  unfold joinedFacts
  simp only [Bool.and_eq_true]
  exact ⟨⟨⟨⟨⟨⟨⟨⟨⟨⟨⟨⟨⟨⟨⟨⟨⟨⟨⟨⟨⟨⟨⟨⟨⟨⟨⟨⟨⟨⟨⟨jf0, jf1⟩, jf2⟩, jf3⟩, jf4⟩, jf5⟩, jf6⟩, jf7⟩, jf8⟩, jf9⟩, jf10⟩, jf11⟩, jf12⟩, jf13⟩, jf14⟩, jf15⟩, jf16⟩, jf17⟩, jf18⟩, jf19⟩, jf20⟩, jf21⟩, jf22⟩, jf23⟩, jf24⟩, jf25⟩, jf26⟩, jf27⟩, jf28⟩, jf29⟩, jf30⟩, jf31⟩
theorem jfFn : Tryz.pinned.checked.prog.funcNamed Rows.fnExactLinkReadRow.func = some 3 := by kernel_rfl
theorem over : Rows.fnExactLinkReadRow.holds Tryz.pinned (OpenSpec.ofChange Rows.fnExactLinkReadSpec) :=
  OpenClaim.holds_of_wide 3 Tryz.f3 rfl rfl rfl rfl rfl rfl rfl ⟨rfl, rfl, rfl, rfl, rfl⟩ rfl rfl rfl rfl rfl jfFn Tryz.func3 jfAll
    (of_decide_eq_true (by kernel_rfl)) (by unfold Func.isWrapper; first | (rw [if_pos (by decide +kernel)]; kernel_rfl) | (rw [if_neg (by decide +kernel)]; exact ⟨rfl, rfl⟩))
    (fun os started H enc _ => lifted os started H enc)
theorem proved : Rows.FnExactLinkReadSaid := over
#print axioms proved
end Go.Proofs.YtiefmflpmmgoaaaGreatDoor.fnExactLinkRead
namespace Go.Proofs.YtiefmflpmmgoaaaGreatDoor
/-- The row, under a short name, for the claim. -/
theorem fnExactLinkRead_row : Rows.FnExactLinkReadSaid := fnExactLinkRead.proved
theorem fnExactLinkRead_cd1 : Rows.fnExactLinkReadRow.wfByText (OpenSpec.ofChange Rows.fnExactLinkReadSpec) = true := by kernel_rfl
theorem fnExactLinkRead_cd2 : Tryz.pinned.checked.prog.mainIs = some ((true, "0c657f37a4e2487f41ac622bf43d38be8aa39bd242e53e0ec1730ccc06a10927").1, (true, "0c657f37a4e2487f41ac622bf43d38be8aa39bd242e53e0ec1730ccc06a10927").2.toList) := by kernel_rfl
theorem fnExactLinkRead_cd3 : true = Tryz.pinned.checked.prog.looks [] := by kernel_rfl
theorem fnExactLinkRead_cd4 : false = Rows.fnExactLinkReadRow.goesBy Tryz.pinned.checked.prog := by kernel_rfl
theorem fnExactLinkRead_cd5 : ([9].all fun u => !Tryz.prog.wantsStandIn u) = true := by kernel_rfl
theorem fnExactLinkRead_cd6 : Tryz.prog.funcNamed "loop.example/smithy/laws.FnExactLinkRead" = some 3 := by kernel_rfl
/-- The tied card. -/
theorem fnExactLinkRead_holds : Rows.FnExactLinkReadCardSaid :=
  Claim7.holds_tied_plain_at .later [] [.data, .data, .data, .data, .sentinel, .sentinel, .widerDeep, .widerDeep, .pinned] true (true, "0c657f37a4e2487f41ac622bf43d38be8aa39bd242e53e0ec1730ccc06a10927") true
    fnExactLinkRead_row (fun _ h => by cases h) fnExactLinkRead_cd1 (fun _ h => by cases h) fnExactLinkRead_row_tie rfl ⟨rfl, rfl⟩ fnExactLinkRead_cd2 rfl
    (fun f fn hf hfn => by
      obtain rfl : f = 3 := Option.some.inj (fnExactLinkRead_cd6.symm.trans hf) |>.symm
      obtain rfl : fn = Tryz.f3 := (Option.some.inj (Tryz.func3.symm.trans hfn)).symm
      exact ⟨fnExactLinkRead_cd3, fun j t ht => by
        rw [Tryz.params3] at ht
        have hm : t ∈ [9] := by simpa using Array.mem_of_getElem? ht
        exact (show Tryz.prog.wantsStandIn t = false by simpa using List.all_eq_true.1 fnExactLinkRead_cd5 t hm)⟩)
    fnExactLinkRead_cd4
end Go.Proofs.YtiefmflpmmgoaaaGreatDoor
