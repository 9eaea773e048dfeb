/- The row of the law FnLex: called with whatever arguments can be read, it returns true, and each argument reads afterwards as it read before. -/
import Derived.Test.YtjadancpencnnaaRows
import Derived.Test.YtjadancpencnnaaOFnLex
import Derived.Test.YtjadancpencnnaaK
import Derived.Test.YtjadancpencnnaaWLex
import Derived.WalkKit
import Derived.ProofKit
import Derived.OpenShut
import Derived.ShutString
import Derived.ChangeOld
import Derived.Below
import Derived.SizedLaws
namespace Go.Proofs.Ytjadancpencnnaa.fnLex
open Go.ChangeShapes Go.WideShapes Go.ChangeAt Go.RowKit Go.HM Go.A
open Go.ChangeMaps (open_string shut_string)
set_option linter.unusedVariables false
theorem own : ownKnob Try.prog.godebug = none := by kernel_rfl
theorem laidOut : laidOutB Try.prog = true := by kernel_rfl
set_option maxRecDepth 100000 in
set_option maxHeartbeats 2000000 in
theorem lifted (os : Os) (started : os.Started) (H : Type) (enc : TypeId × Value → H) :
    ReturnsInHanded {} Try.checked os 9 .any (Rows.fnLexSpec.pre6 enc Try.prog Try.f9 Rows.fnLexRow.domain false) (Rows.fnLexSpec.post enc Try.prog Try.f9 false true false false) := by
  refine returnsInHanded_of_change_sized (C := Try.checked) own started (by kernel_rfl) Try.func9
    (ChangeSpec.witness6 (enc := enc) (C := Try.checked) false ⟨#[], #[.slice none 0 0, .slice none 0 0], []⟩ 8 (by kernel_rfl) (by kernel_rfl) (by kernel_rfl) (by kernel_rfl)) ?_
  intro W base args ds gs before hval0 hW hcnd hsz0 _
  have hval : ∀ (j : Nat) t v, Try.f9.params[j]? = some t → args[j]? = some v → Value.okWide Try.prog W .any base t v := hval0
  have hW' := hW
  obtain ⟨p, q, hA0, hV, rfl, hfz, hnd⟩ := hW
  have hA : DataW.TrodAll enc Try.prog W 0 (fun _ => true) true Try.f9.params.toList args.toList ds p := hA0
  rw [Try.params9] at hA hval
  obtain ⟨v0, vs0, d0, ds0, p0, q0, hargs, rfl, rfl, h0, r0⟩ := trodAll_cons hA
  obtain ⟨v1, vs1, d1, ds1, p1, q1, rfl, rfl, rfl, h1, r1⟩ := trodAll_cons r0
  obtain ⟨rfl, rfl, rfl⟩ := trodAll_nil r1
  obtain rfl : args = #[v0, v1] := by cases args; simp_all
  obtain ⟨rfl, rfl⟩ := trodVars_none hV
  have k0 := h0
  have lt0 : ∀ x ∈ p0, x.block < W.heap.size := by obtain ⟨m, hm⟩ := k0; exact DataW.trod_lt m _ _ _ hm
  obtain ⟨a0, len0, cap0, rfl⟩ := okWide_slice Try.underlying51 (hval 0 51 v0 rfl rfl)
  have g0 := k0
  obtain ⟨fu0, hf0⟩ := g0
  obtain ⟨y0, fit0, show0⟩ := ((Lays.slice' Try.underlying51 (by kernel_rfl) (by decide) grows_u8 (Lays.u8 Try.underlying5)) : Lays enc Try.prog W 51 (SlR 1 U8R) (fitL fitU8) fu0) _ _ fu0 [.slice a0 len0 cap0] _ (Nat.le_refl _) hf0
  have k1 := h1
  have lt1 : ∀ x ∈ p1, x.block < W.heap.size := by obtain ⟨m, hm⟩ := k1; exact DataW.trod_lt m _ _ _ hm
  obtain ⟨a1, len1, cap1, rfl⟩ := okWide_slice Try.underlying51 (hval 1 51 v1 rfl rfl)
  have g1 := k1
  obtain ⟨fu1, hf1⟩ := g1
  obtain ⟨y1, fit1, show1⟩ := ((Lays.slice' Try.underlying51 (by kernel_rfl) (by decide) grows_u8 (Lays.u8 Try.underlying5)) : Lays enc Try.prog W 51 (SlR 1 U8R) (fitL fitU8) fu1) _ _ fu1 [.slice a1 len1 cap1] _ (Nat.le_refl _) hf1
  clear hA0 hval0 hsz0
  obtain ⟨μ0, σ0, xs0, sn0, le0, lh0, rc0, R0⟩ := show0 _ _ (Seen.nil W fun _ => (0, 0))
  obtain ⟨μ1, σ1, xs1, sn1, le1, lh1, rc1, R1⟩ := show1 _ _ sn0
  replace R0 := (Grows.sl grows_u8) _ _ _ _ lh1 R0
  replace rc0 := rc0.mono le1
  obtain ⟨w0, rfl, R0⟩ := R0
  obtain ⟨w1, rfl, R1⟩ := R1
  obtain ⟨σ', run⟩ := FnLex_law fit0 R0 fit1 R1
  refine (law_of gok sn1 run #[.slice a0 len0 cap0, .slice a1 len1 cap1] (rels_one (rel_single rc0) (rels_one (rel_single rc1) rels_nil))).mono fun e W' ⟨y, he, ⟨μ', hy⟩, bel⟩ => ?_
  obtain rfl : y = .bool true := by cases hy; rfl
  subst he
  exact ⟨_, rfl, _, _, _, [], _, [], hW', trodAll_mk1 (shut_bool Try.underlying4 _), (trodAll_cons_mk (Below.trod laidOut (by kernel_rfl) (of_decide_eq_true (by kernel_rfl)) k0 bel lt0) (trodAll_cons_mk (Below.trod laidOut (by kernel_rfl) (of_decide_eq_true (by kernel_rfl)) k1 bel lt1) trodAll_mk0)), rfl, bel.frame _, fun h => by cases h⟩
theorem over : Rows.fnLexRow.holds Try.pinned (OpenSpec.ofChange Rows.fnLexSpec) :=
  OpenClaim.holds_of_wide 9 Try.f9 rfl rfl rfl rfl rfl rfl rfl ⟨rfl, rfl, rfl, rfl, rfl⟩ rfl rfl rfl rfl rfl (by kernel_rfl) Try.func9 (by kernel_rfl)
    (of_decide_eq_true (by kernel_rfl)) (by unfold Func.isWrapper; first | (rw [if_pos (by decide +kernel)]; kernel_rfl) | (rw [if_neg (by decide +kernel)]; exact ⟨rfl, rfl⟩))
    (fun os started H enc _ => lifted os started H enc)
theorem proved : Rows.FnLexSaid := over
#print axioms proved
end Go.Proofs.Ytjadancpencnnaa.fnLex
namespace Go.Proofs.Ytjadancpencnnaa
/-- The row, under a short name, for the claim. -/
theorem fnLex_holds : Rows.FnLexSaid := fnLex.proved
end Go.Proofs.Ytjadancpencnnaa
