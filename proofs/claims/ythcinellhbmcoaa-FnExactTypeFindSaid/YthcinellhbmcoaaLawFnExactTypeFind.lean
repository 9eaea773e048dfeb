/- The row of the law FnExactTypeFind: called with whatever arguments can be read, it returns true, and each argument reads afterwards as it read before. -/
import Derived.Test.YthcinellhbmcoaaRows
import Derived.Test.YthcinellhbmcoaaOFnExactTypeFind
import Derived.Test.YthcinellhbmcoaaK
import Derived.Test.YthcinellhbmcoaaLawTypeFind
import Derived.WalkKit
import Derived.ProofKit
import Derived.OpenShut
import Derived.ShutString
import Derived.ChangeOld
import Derived.Below
import Derived.SizedLaws
namespace Go.Proofs.Ythcinellhbmcoaa.fnExactTypeFind
open Go.ChangeShapes Go.WideShapes Go.ChangeAt Go.RowKit Go.HM Go.X
open Go.ChangeMaps (open_string shut_string)
set_option linter.unusedVariables false
theorem own : ownKnob Try.prog.godebug = none := by kernel_rfl
theorem laidOut : laidOutB Try.prog = true := by kernel_rfl
set_option maxRecDepth 100000 in
set_option maxHeartbeats 2000000 in
theorem lifted (os : Os) (started : os.Started) (H : Type) (enc : TypeId × Value → H) :
    ReturnsInHanded {} Try.checked os 6 .any (Rows.fnExactTypeFindSpec.pre6 enc Try.prog Try.f6 Rows.fnExactTypeFindRow.domain false) (Rows.fnExactTypeFindSpec.post enc Try.prog Try.f6 false true false false) := by
  refine returnsInHanded_of_change_sized (C := Try.checked) own started (by kernel_rfl) Try.func6
    (ChangeSpec.witness6 (enc := enc) (C := Try.checked) false ⟨#[], #[.agg #[.slice none 0 0, .slice none 0 0, .slice none 0 0], .slice none 0 0, .string ByteArray.empty, .string ByteArray.empty], []⟩ 8 (by kernel_rfl) (by kernel_rfl) (by kernel_rfl) (by kernel_rfl)) ?_
  intro W base args ds gs before hval0 hW hcnd hsz0 _
  have hval : ∀ (j : Nat) t v, Try.f6.params[j]? = some t → args[j]? = some v → Value.okWide Try.prog W .any base t v := hval0
  have hW' := hW
  obtain ⟨p, q, hA0, hV, rfl, hfz, hnd⟩ := hW
  have hA : DataW.TrodAll enc Try.prog W 0 (fun _ => true) true Try.f6.params.toList args.toList ds p := hA0
  rw [Try.params6] at hA hval
  obtain ⟨v0, vs0, d0, ds0, p0, q0, hargs, rfl, rfl, h0, r0⟩ := trodAll_cons hA
  obtain ⟨v1, vs1, d1, ds1, p1, q1, rfl, rfl, rfl, h1, r1⟩ := trodAll_cons r0
  obtain ⟨v2, vs2, d2, ds2, p2, q2, rfl, rfl, rfl, h2, r2⟩ := trodAll_cons r1
  obtain ⟨v3, vs3, d3, ds3, p3, q3, rfl, rfl, rfl, h3, r3⟩ := trodAll_cons r2
  obtain ⟨rfl, rfl, rfl⟩ := trodAll_nil r3
  obtain rfl : args = #[v0, v1, v2, v3] := by cases args; simp_all
  obtain ⟨rfl, rfl⟩ := trodVars_none hV
  have k0 := h0
  have lt0 : ∀ x ∈ p0, x.block < W.heap.size := by obtain ⟨m, hm⟩ := k0; exact DataW.trod_lt m _ _ _ hm
  obtain ⟨cs0, rfl, _⟩ := okWide_struct Try.underlying26 (hval 0 26 v0 rfl rfl)
  have g0 := k0
  obtain ⟨fu0, hf0⟩ := g0
  obtain ⟨y0, fit0, show0⟩ := (lays26 fu0 : Lays enc Try.prog W 26 TreeMod.Rep TreeMod.Fit fu0) _ _ fu0 cs0.toList _ (Nat.le_refl _) hf0
  have k1 := h1
  have lt1 : ∀ x ∈ p1, x.block < W.heap.size := by obtain ⟨m, hm⟩ := k1; exact DataW.trod_lt m _ _ _ hm
  obtain ⟨a1, len1, cap1, rfl⟩ := okWide_slice Try.underlying47 (hval 1 47 v1 rfl rfl)
  have g1 := k1
  obtain ⟨fu1, hf1⟩ := g1
  obtain ⟨y1, fit1, show1⟩ := ((Lays.slice' Try.underlying47 (by kernel_rfl) (by decide) TypeFace.grows (lays109 _)) : Lays enc Try.prog W 47 (SlR 2 TypeFace.Rep) (fitL TypeFace.Fit) fu1) _ _ fu1 [.slice a1 len1 cap1] _ (Nat.le_refl _) hf1
  have k2 := h2
  have lt2 : ∀ x ∈ p2, x.block < W.heap.size := by obtain ⟨m, hm⟩ := k2; exact DataW.trod_lt m _ _ _ hm
  obtain ⟨a2, rfl, _⟩ := open_string Try.underlying9 (hval 2 9 v2 rfl rfl) h2
  have g2 := k2
  obtain ⟨fu2, hf2⟩ := g2
  obtain ⟨y2, fit2, show2⟩ := ((Lays.string Try.underlying9) : Lays enc Try.prog W 9 StrR fitT fu2) _ _ fu2 [.string a2] _ (Nat.le_refl _) hf2
  have k3 := h3
  have lt3 : ∀ x ∈ p3, x.block < W.heap.size := by obtain ⟨m, hm⟩ := k3; exact DataW.trod_lt m _ _ _ hm
  obtain ⟨a3, rfl, _⟩ := open_string Try.underlying9 (hval 3 9 v3 rfl rfl) h3
  have g3 := k3
  obtain ⟨fu3, hf3⟩ := g3
  obtain ⟨y3, fit3, show3⟩ := ((Lays.string Try.underlying9) : Lays enc Try.prog W 9 StrR fitT fu3) _ _ fu3 [.string a3] _ (Nat.le_refl _) hf3
  clear hA0 hval0 hsz0
  obtain ⟨μ0, σ0, xs0, sn0, le0, lh0, rc0, R0⟩ := show0 _ _ (Seen.nil W fun _ => (0, 0))
  obtain ⟨μ1, σ1, xs1, sn1, le1, lh1, rc1, R1⟩ := show1 _ _ sn0
  replace R0 := TreeMod.grows _ _ _ _ lh1 R0
  replace rc0 := rc0.mono le1
  obtain ⟨μ2, σ2, xs2, sn2, le2, lh2, rc2, R2⟩ := show2 _ _ sn1
  replace R0 := TreeMod.grows _ _ _ _ lh2 R0
  replace rc0 := rc0.mono le2
  replace R1 := (Grows.sl TypeFace.grows) _ _ _ _ lh2 R1
  replace rc1 := rc1.mono le2
  obtain ⟨μ3, σ3, xs3, sn3, le3, lh3, rc3, R3⟩ := show3 _ _ sn2
  replace R0 := TreeMod.grows _ _ _ _ lh3 R0
  replace rc0 := rc0.mono le3
  replace R1 := (Grows.sl TypeFace.grows) _ _ _ _ lh3 R1
  replace rc1 := rc1.mono le3
  replace R2 := grows_str _ _ _ _ lh3 R2
  replace rc2 := rc2.mono le3
  obtain ⟨w1, rfl, R1⟩ := R1
  replace R2 : _ = _ := R2
  subst R2
  replace R3 : _ = _ := R3
  subst R3
  obtain ⟨σ', run⟩ := FnExactTypeFind_law fit0 R0 fit1 R1 fit2 fit3
  refine (law_of gok sn3 run #[.agg cs0, .slice a1 len1 cap1, .string a2, .string a3] (rels_one (RelC.agg rc0) (rels_one (rel_single rc1) (rels_one (rel_single rc2) (rels_one (rel_single rc3) rels_nil))))).mono fun e W' ⟨y, he, ⟨μ', hy⟩, bel⟩ => ?_
  obtain rfl : y = .bool true := by cases hy; rfl
  subst he
  exact ⟨_, rfl, _, _, _, [], _, [], hW', trodAll_mk1 (shut_bool Try.underlying4 _), (trodAll_cons_mk (Below.trod laidOut (by kernel_rfl) (of_decide_eq_true (by kernel_rfl)) k0 bel lt0) (trodAll_cons_mk (Below.trod laidOut (by kernel_rfl) (of_decide_eq_true (by kernel_rfl)) k1 bel lt1) (trodAll_cons_mk (Below.trod laidOut (by kernel_rfl) (of_decide_eq_true (by kernel_rfl)) k2 bel lt2) (trodAll_cons_mk (Below.trod laidOut (by kernel_rfl) (of_decide_eq_true (by kernel_rfl)) k3 bel lt3) trodAll_mk0)))), rfl, bel.frame _, fun h => by cases h⟩
theorem over : Rows.fnExactTypeFindRow.holds Try.pinned (OpenSpec.ofChange Rows.fnExactTypeFindSpec) :=
  OpenClaim.holds_of_wide 6 Try.f6 rfl rfl rfl rfl rfl rfl rfl ⟨rfl, rfl, rfl, rfl, rfl⟩ rfl rfl rfl rfl rfl (by kernel_rfl) Try.func6 (by kernel_rfl)
    (of_decide_eq_true (by kernel_rfl)) (by unfold Func.isWrapper; first | (rw [if_pos (by decide +kernel)]; kernel_rfl) | (rw [if_neg (by decide +kernel)]; exact ⟨rfl, rfl⟩))
    (fun os started H enc _ => lifted os started H enc)
theorem proved : Rows.FnExactTypeFindSaid := over
#print axioms proved
end Go.Proofs.Ythcinellhbmcoaa.fnExactTypeFind
namespace Go.Proofs.Ythcinellhbmcoaa
/-- The row, under a short name, for the claim. -/
theorem fnExactTypeFind_holds : Rows.FnExactTypeFindSaid := fnExactTypeFind.proved
end Go.Proofs.Ythcinellhbmcoaa
