/- What the law on LinkFind computes. -/
import Derived.Test.YtjadancpencnnaaLink1
import Derived.Test.YtjadancpencnnaaHMOpen
set_option linter.unusedVariables false
set_option linter.unusedSimpArgs false
namespace Go.A
open Go.HM Go.Proofs
theorem FnExactLinkFind_law {σ : Heap} {y0 : List LinkPart} (f0 : fitL LinkPart.Fit y0) {w0 : V} (r0 : RepS 3 (LinkPart.Rep σ) σ w0 y0) {y1 : ByteArray} (f1 : fitT y1) {y2 : ByteArray} (f2 : fitT y2) :
    ∃ σ', Runs G n_laws_FnExactLinkFind [w0, .str y1, .str y2] σ (.bool true) σ' := by
  refine Ends.true (Ends.mk ?_)
  refine W.to (fun k _ => laws_FnExactLinkFind.eq k _ _ _ _) ?_
  refine W.ite (fun _ => W.ret rfl) fun _ => W.ite (fun _ => W.ret rfl) fun _ => ?_
  refine W.run (szLinkPartS_runs f0.1 r0 (fun x hx cs b hr h0 h1 => szLinkPart_runs x (f0.2 x hx) hr h0 h1) (b := 1048576) (by omega) (by omega)) ?_
  simp only [Option.bind_some, Option.bind_assoc, castInt_int, castBool_bool, castStr_str, castPtr_ptr, castFn_fn, castAgg_agg, castTuple_tuple, uncons_cons, isNil_nil, one_sl, one_nils, one_emp, one_ptr, one_nilp, one_fn, cond_true, cond_false, Bool.not_true, Bool.not_false, decide_true, decide_false, castInt_bind, castBool_bind, castStr_bind, castPtr_bind, castFn_bind, castAgg_bind, castTuple_bind, uncons_bind, isNil_bind, one_bind, cond_bind, ite_bind_, List.cons_append, List.nil_append]
  refine W.ite (fun _ => W.ret rfl) fun hs => ?_
  have ht : y0.length + totS LinkPart.total y0 ≤ 1048576 := by have := sub_cases 1048576 (y0.length + totS LinkPart.total y0); omega
  have to : ∀ {σ' : Heap}, Lh σ σ' → _ := fun {σ'} hl => toLinkPartS_runs (σ := σ') ht (r0.mono hl fun cs x _ h => LinkPart.Rep.le hl h) (fun x hx ht σ cs hr => toLinkPart_runs x ht hr)
  obtain ⟨v1, σ1, c1, l1, r1⟩ := to (Lh.refl σ)
  replace r1 := r1.mono (Lh.wipe _ _) fun cs x _ h => LinkPart.Rep.le (Lh.wipe _ _) h
  refine W.run c1 ?_
  refine W.run (specLinkFind_runs ht r1 y1 y2) ?_
  simp only [Option.bind_some, Option.bind_assoc, castInt_int, castBool_bool, castStr_str, castPtr_ptr, castFn_fn, castAgg_agg, castTuple_tuple, uncons_cons, isNil_nil, one_sl, one_nils, one_emp, one_ptr, one_nilp, one_fn, cond_true, cond_false, Bool.not_true, Bool.not_false, decide_true, decide_false, castInt_bind, castBool_bind, castStr_bind, castPtr_bind, castFn_bind, castAgg_bind, castTuple_bind, uncons_bind, isNil_bind, one_bind, cond_bind, ite_bind_, List.cons_append, List.nil_append]
  obtain ⟨v2, σ2, c2, l2, r2⟩ := to l1
  replace r2 := r2.mono (Lh.wipe _ _) fun cs x _ h => LinkPart.Rep.le (Lh.wipe _ _) h
  refine W.run c2 ?_
  refine W.give (implLinkFind_gives ht r2 y1 y2) fun σ3 l3 => ?_
  simp only [Option.bind_some, Option.bind_assoc, castInt_int, castBool_bool, castStr_str, castPtr_ptr, castFn_fn, castAgg_agg, castTuple_tuple, uncons_cons, isNil_nil, one_sl, one_nils, one_emp, one_ptr, one_nilp, one_fn, cond_true, cond_false, Bool.not_true, Bool.not_false, decide_true, decide_false, castInt_bind, castBool_bind, castStr_bind, castPtr_bind, castFn_bind, castAgg_bind, castTuple_bind, uncons_bind, isNil_bind, one_bind, cond_bind, ite_bind_, List.cons_append, List.nil_append, beq_self_eq_true]
  obtain ⟨v4, σ4, c4, l4, r4⟩ := to (l1.trans (l2.trans l3))
  replace r4 := r4.mono (Lh.wipe _ _) fun cs x _ h => LinkPart.Rep.le (Lh.wipe _ _) h
  refine W.run c4 ?_
  obtain ⟨b, c5, hb⟩ := eqLinkPartS_runs f0.1 (r2.mono (l3.trans l4) fun cs x _ h => LinkPart.Rep.le (l3.trans l4) h) r4 (fun x hx y cs cs' hr hr' => eqLinkPart_runs x y (f0.2 x hx) hr hr')
  obtain rfl := hb.2 rfl
  refine W.run c5 ?_
  simp only [Option.bind_some, Option.bind_assoc, castInt_int, castBool_bool, castStr_str, castPtr_ptr, castFn_fn, castAgg_agg, castTuple_tuple, uncons_cons, isNil_nil, one_sl, one_nils, one_emp, one_ptr, one_nilp, one_fn, cond_true, cond_false, Bool.not_true, Bool.not_false, decide_true, decide_false, castInt_bind, castBool_bind, castStr_bind, castPtr_bind, castFn_bind, castAgg_bind, castTuple_bind, uncons_bind, isNil_bind, one_bind, cond_bind, ite_bind_, List.cons_append, List.nil_append]
  exact W.ret rfl
end Go.A
