/- What the law on LinkCheck computes. -/
import Derived.Test.YtjadancpencnnaaLink3
import Derived.Test.YtjadancpencnnaaHMOpen
set_option linter.unusedVariables false
set_option linter.unusedSimpArgs false
namespace Go.A
open Go.HM Go.Proofs
theorem FnExactLinkCheck_law {σ : Heap} {y0 : List LinkPart} (f0 : fitL LinkPart.Fit y0) {w0 : V} (r0 : RepS 3 (LinkPart.Rep σ) σ w0 y0) : ∃ σ', Runs G n_laws_FnExactLinkCheck [w0] σ (.bool true) σ' := by
  refine Ends.true (Ends.mk ?_)
  refine W.to (fun k _ => laws_FnExactLinkCheck.eq k _ _) ?_
  refine W.run (szLinkPartS_runs f0.1 r0 (fun x hx cs b hr h0 h1 => szLinkPart_runs x (f0.2 x hx) hr h0 h1) (b := 1048576) (by omega) (by omega)) ?_
  try simp only [q_bind_some, castInt_int, q_castBool, q_castStr, q_castPtr, q_castFn, q_castAgg, q_castTuple, q_uncons, q_isNil, q_sl, q_nils, q_emp, q_ptr, q_nilp, q_fn, q_cond_true, q_cond_false, Bool.not_true, Bool.not_false, decide_true, decide_false, List.cons_append, List.nil_append]
  refine W.ite (fun _ => W.ret rfl) fun hs => ?_
  have ht : y0.length + totS LinkPart.total y0 ≤ 1048576 := by have := sub_cases 1048576 (y0.length + totS LinkPart.total y0); omega
  have to : ∀ {σ' : Heap}, Lh σ σ' → _ := fun {σ'} hl => toLinkPartS_runs (σ := σ') ht (r0.mono hl fun cs x _ h => LinkPart.Rep.le hl h) (fun x hx ht σ cs hr => toLinkPart_runs x ht hr)
  obtain ⟨v1, σ1, c1, l1, r1⟩ := to (Lh.refl σ)
  replace r1 := r1.mono (Lh.wipe _ _) fun cs x _ h => LinkPart.Rep.le (Lh.wipe _ _) h
  refine W.run c1 ?_
  refine W.give (specLinkCheck_gives ht f0.2 r1) fun σ2 l2 => ?_
  have l02 := l1.trans l2
  try simp only [q_bind_some, castInt_int, q_castBool, q_castStr, q_castPtr, q_castFn, q_castAgg, q_castTuple, q_uncons, q_isNil, q_sl, q_nils, q_emp, q_ptr, q_nilp, q_fn, q_cond_true, q_cond_false, Bool.not_true, Bool.not_false, decide_true, decide_false, List.cons_append, List.nil_append, FV]
  obtain ⟨v3, σ3, c3, l3, r3⟩ := to l02
  replace r3 := r3.mono (Lh.wipe _ _) fun cs x _ h => LinkPart.Rep.le (Lh.wipe _ _) h
  refine W.run c3 ?_
  refine W.give (implLinkCheck_gives ht f0.2 r3) fun σ4 l4 => ?_
  have l04 := l02.trans (l3.trans l4)
  try simp only [q_bind_some, castInt_int, q_castBool, q_castStr, q_castPtr, q_castFn, q_castAgg, q_castTuple, q_uncons, q_isNil, q_sl, q_nils, q_emp, q_ptr, q_nilp, q_fn, q_cond_true, q_cond_false, Bool.not_true, Bool.not_false, decide_true, decide_false, List.cons_append, List.nil_append, FV]
  have ce : ∀ (a b c : Int) (σ : Heap), Runs G n_laws_eqLinkFault [.agg [.int .i64 a, .int .i64 b, .int .i64 c], .agg [.int .i64 a, .int .i64 b, .int .i64 c]] σ (.bool true) σ := fun a b c σ => by
    refine Runs.of (W.to (fun k _ => laws_eqLinkFault.eq k _ _ _ _ _ _ _) ?_)
    try simp only [q_bind_some, castInt_int, q_castBool, q_castStr, q_castPtr, q_castFn, q_castAgg, q_castTuple, q_uncons, q_isNil, q_sl, q_nils, q_emp, q_ptr, q_nilp, q_fn, q_cond_true, q_cond_false, Bool.not_true, Bool.not_false, decide_true, decide_false, List.cons_append, List.nil_append]
    exact W.ret ⟨rfl, rfl⟩
  refine W.run (ce _ _ _ σ4) ?_
  try simp only [q_bind_some, castInt_int, q_castBool, q_castStr, q_castPtr, q_castFn, q_castAgg, q_castTuple, q_uncons, q_isNil, q_sl, q_nils, q_emp, q_ptr, q_nilp, q_fn, q_cond_true, q_cond_false, Bool.not_true, Bool.not_false, decide_true, decide_false, List.cons_append, List.nil_append]
  obtain ⟨v5, σ5, c5, l5, r5⟩ := to l04
  replace r5 := r5.mono (Lh.wipe _ _) fun cs x _ h => LinkPart.Rep.le (Lh.wipe _ _) h
  refine W.run c5 ?_
  obtain ⟨b, c6, hb⟩ := eqLinkPartS_runs f0.1 (r3.mono (l4.trans l5) fun cs x _ h => LinkPart.Rep.le (l4.trans l5) h) r5 (fun x hx y cs cs' hr hr' => eqLinkPart_runs x y (f0.2 x hx) hr hr')
  obtain rfl := hb.2 rfl
  refine W.run c6 ?_
  try simp only [q_bind_some, castInt_int, q_castBool, q_castStr, q_castPtr, q_castFn, q_castAgg, q_castTuple, q_uncons, q_isNil, q_sl, q_nils, q_emp, q_ptr, q_nilp, q_fn, q_cond_true, q_cond_false, Bool.not_true, Bool.not_false, decide_true, decide_false, List.cons_append, List.nil_append]
  exact W.ret rfl
end Go.A
