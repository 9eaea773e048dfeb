/- What the law on FaceText computes. -/
import Derived.Test.YtjadancpencnnaaDoorFaceV
import Derived.Test.YtjadancpencnnaaDoorC
import Derived.Test.YtjadancpencnnaaDoorOFnExactFaceText
set_option linter.unusedVariables false
set_option linter.unusedSimpArgs false
namespace Go.D
open Go.HM Go.Proofs
theorem FnExactFaceText_law {σ : Heap} (hv : VarsFnExactFaceText σ) {y0 : List FaceSig} (f0 : fitL FaceSig.Fit y0) {w0 : V} (r0 : RepS 3 (FaceSig.Rep σ) σ w0 y0) : ∃ σ', Runs G n_laws_FnExactFaceText [w0] σ (.bool true) σ' := by
  refine Ends.true (Ends.mk ?_)
  refine W.to (fun k _ => laws_FnExactFaceText.eq k _ _) ?_
  refine W.run (szFaceSigS_runs f0.1 r0 (fun x hx cs b hr h0 h1 => szFaceSig_runs x (f0.2 x hx) hr h0 h1) (b := 1048576) (by omega) (by omega)) ?_
  try simp only [q_bind_some, castInt_int, q_castBool, q_castStr, q_castPtr, q_castFn, q_castAgg, q_castTuple, q_uncons, q_isNil, q_sl, q_nils, q_emp, q_ptr, q_nilp, q_fn, q_cond_true, q_cond_false, Bool.not_true, Bool.not_false, decide_true, decide_false, List.cons_append, List.nil_append]
  refine W.ite (fun _ => W.ret rfl) fun hs => ?_
  have ht : y0.length + totS FaceSig.total y0 ≤ 1048576 := by have := sub_cases 1048576 (y0.length + totS FaceSig.total y0); omega
  have hF : ∀ x, x ∈ y0 → x.name.size ≤ 1099511627776 := fun x hx => by
    have h1 := totS_mem FaceSig.total hx
    have h2 := FaceSig.total_eq x
    omega
  have to : ∀ {σ' : Heap}, Lh σ σ' → _ := fun {σ'} hl => toFaceSigS_runs (σ := σ') ht (r0.mono hl fun cs x _ h => FaceSig.Rep.le hl h) (fun x hx ht σ cs hr => toFaceSig_runs x ht hr)
  obtain ⟨v1, σ1, c1, l1, r1⟩ := to (Lh.refl σ)
  replace r1 := r1.mono (Lh.wipe _ _) fun cs x _ h => FaceSig.Rep.le (Lh.wipe _ _) h
  refine W.run c1 ?_
  refine W.give (specFaceText_gives hF r1) fun σ2 l2 => ?_
  have l02 := l1.trans l2
  try simp only [q_bind_some, castInt_int, q_castBool, q_castStr, q_castPtr, q_castFn, q_castAgg, q_castTuple, q_uncons, q_isNil, q_sl, q_nils, q_emp, q_ptr, q_nilp, q_fn, q_cond_true, q_cond_false, Bool.not_true, Bool.not_false, decide_true, decide_false, List.cons_append, List.nil_append]
  obtain ⟨v3, σ3, c3, l3, r3⟩ := to l02
  replace r3 := r3.mono (Lh.wipe _ _) fun cs x _ h => FaceSig.Rep.le (Lh.wipe _ _) h
  refine W.run c3 ?_
  refine W.give (implFaceText_gives (hv.le (l02.trans l3)).v0 (by omega) hF r3) fun σ4 l4 => ?_
  have l04 := l02.trans (l3.trans l4)
  try simp only [q_bind_some, castInt_int, q_castBool, q_castStr, q_castPtr, q_castFn, q_castAgg, q_castTuple, q_uncons, q_isNil, q_sl, q_nils, q_emp, q_ptr, q_nilp, q_fn, q_cond_true, q_cond_false, Bool.not_true, Bool.not_false, decide_true, decide_false, List.cons_append, List.nil_append]
  obtain ⟨v5, σ5, c5, l5, r5⟩ := to l04
  replace r5 := r5.mono (Lh.wipe _ _) fun cs x _ h => FaceSig.Rep.le (Lh.wipe _ _) h
  refine W.run c5 ?_
  obtain ⟨b, c6, hb⟩ := eqFaceSigS_runs f0.1 (r3.mono (l4.trans l5) fun cs x _ h => FaceSig.Rep.le (l4.trans l5) h) r5 (fun x hx y cs cs' hr hr' => eqFaceSig_runs x y (f0.2 x hx) hr hr')
  obtain rfl := hb.2 rfl
  refine W.run c6 ?_
  try simp only [q_bind_some, castInt_int, q_castBool, q_castStr, q_castPtr, q_castFn, q_castAgg, q_castTuple, q_uncons, q_isNil, q_sl, q_nils, q_emp, q_ptr, q_nilp, q_fn, q_cond_true, q_cond_false, Bool.not_true, Bool.not_false, decide_true, decide_false, List.cons_append, List.nil_append]
  exact W.ret rfl
end Go.D
