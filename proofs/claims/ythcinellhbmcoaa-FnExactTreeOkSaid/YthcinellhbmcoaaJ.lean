/- What the law on TreeOk computes. -/
import Derived.Test.YthcinellhbmcoaaL
import Derived.Test.YthcinellhbmcoaaC
set_option linter.unusedVariables false
set_option linter.unusedSimpArgs false
namespace Go.X3
open Go.HM Go.Proofs
theorem FnExactTreeOk_law {σ : Heap} {y0 : TreeMod} (f0 : TreeMod.Fit y0) {xs0 : List V} (r0 : TreeMod.Rep σ xs0 y0) : ∃ σ', Runs G n_laws_FnExactTreeOk [.agg xs0] σ (.bool true) σ' := by
  refine Ends.true (Ends.mk ?_)
  have c0 := szTreeMod_runs y0 f0 r0 (b := 1048576) (by omega) (by omega)
  have q0 := r0
  cases q0 with
  | mk p0 p1 p2 =>
  refine W.to (fun k _ => laws_FnExactTreeOk.eq k _ _ _ _) ?_
  refine W.run c0 ?_
  simp only [Option.bind_some, Option.bind_assoc, castInt_int, castBool_bool, castStr_str, castPtr_ptr, castFn_fn, castAgg_agg, castTuple_tuple, uncons_cons, isNil_nil, one_sl, one_nils, one_emp, one_ptr, one_nilp, one_fn, cond_true, cond_false, Bool.not_true, Bool.not_false, decide_true, decide_false, castInt_bind, castBool_bind, castStr_bind, castPtr_bind, castFn_bind, castAgg_bind, castTuple_bind, uncons_bind, isNil_bind, one_bind, cond_bind, ite_bind_, List.cons_append, List.nil_append]
  refine W.ite (fun _ => W.ret rfl) fun hs => ?_
  have ht : y0.total ≤ 1048576 := by have := sub_cases 1048576 y0.total; omega
  obtain ⟨cs1, σ1, c1, l1, r1⟩ := toTreeMod_runs y0 ht r0
  replace r1 := r1.le (Lh.wipe _ _)
  have q1 := r1
  cases q1 with
  | mk p0 p1 p2 =>
  refine W.run c1 ?_
  simp only [Option.bind_some, Option.bind_assoc, castInt_int, castBool_bool, castStr_str, castPtr_ptr, castFn_fn, castAgg_agg, castTuple_tuple, uncons_cons, isNil_nil, one_sl, one_nils, one_emp, one_ptr, one_nilp, one_fn, cond_true, cond_false, Bool.not_true, Bool.not_false, decide_true, decide_false, castInt_bind, castBool_bind, castStr_bind, castPtr_bind, castFn_bind, castAgg_bind, castTuple_bind, uncons_bind, isNil_bind, one_bind, cond_bind, ite_bind_, List.cons_append, List.nil_append]
  refine W.give (specTreeOk_gives f0 ht r1) fun σ2 l2 => ?_
  simp only [Option.bind_some, Option.bind_assoc, castInt_int, castBool_bool, castStr_str, castPtr_ptr, castFn_fn, castAgg_agg, castTuple_tuple, uncons_cons, isNil_nil, one_sl, one_nils, one_emp, one_ptr, one_nilp, one_fn, cond_true, cond_false, Bool.not_true, Bool.not_false, decide_true, decide_false, castInt_bind, castBool_bind, castStr_bind, castPtr_bind, castFn_bind, castAgg_bind, castTuple_bind, uncons_bind, isNil_bind, one_bind, cond_bind, ite_bind_, List.cons_append, List.nil_append]
  obtain ⟨cs3, σ3, c3, l3, r3⟩ := toTreeMod_runs y0 ht (r0.le (l1.trans l2))
  replace r3 := r3.le (Lh.wipe _ _)
  have q1 := r3
  cases q1 with
  | mk p0 p1 p2 =>
  refine W.run c3 ?_
  simp only [Option.bind_some, Option.bind_assoc, castInt_int, castBool_bool, castStr_str, castPtr_ptr, castFn_fn, castAgg_agg, castTuple_tuple, uncons_cons, isNil_nil, one_sl, one_nils, one_emp, one_ptr, one_nilp, one_fn, cond_true, cond_false, Bool.not_true, Bool.not_false, decide_true, decide_false, castInt_bind, castBool_bind, castStr_bind, castPtr_bind, castFn_bind, castAgg_bind, castTuple_bind, uncons_bind, isNil_bind, one_bind, cond_bind, ite_bind_, List.cons_append, List.nil_append]
  refine W.give (implTreeOk_gives f0 ht r3) fun σ4 l4 => ?_
  simp only [Option.bind_some, Option.bind_assoc, castInt_int, castBool_bool, castStr_str, castPtr_ptr, castFn_fn, castAgg_agg, castTuple_tuple, uncons_cons, isNil_nil, one_sl, one_nils, one_emp, one_ptr, one_nilp, one_fn, cond_true, cond_false, Bool.not_true, Bool.not_false, decide_true, decide_false, castInt_bind, castBool_bind, castStr_bind, castPtr_bind, castFn_bind, castAgg_bind, castTuple_bind, uncons_bind, isNil_bind, one_bind, cond_bind, ite_bind_, List.cons_append, List.nil_append, beq_self_eq_true]
  obtain ⟨cs5, σ5, c5, l5, r5⟩ := toTreeMod_runs y0 ht (r0.le (l1.trans (l2.trans (l3.trans l4))))
  replace r5 := r5.le (Lh.wipe _ _)
  have q1 := r5
  cases q1 with
  | mk p0 p1 p2 =>
  refine W.run c5 ?_
  simp only [Option.bind_some, Option.bind_assoc, castInt_int, castBool_bool, castStr_str, castPtr_ptr, castFn_fn, castAgg_agg, castTuple_tuple, uncons_cons, isNil_nil, one_sl, one_nils, one_emp, one_ptr, one_nilp, one_fn, cond_true, cond_false, Bool.not_true, Bool.not_false, decide_true, decide_false, castInt_bind, castBool_bind, castStr_bind, castPtr_bind, castFn_bind, castAgg_bind, castTuple_bind, uncons_bind, isNil_bind, one_bind, cond_bind, ite_bind_, List.cons_append, List.nil_append]
  obtain ⟨b, c6, hb⟩ := eqTreeMod_runs y0 y0 f0 (r3.le (l4.trans l5)) r5
  obtain rfl := hb.2 rfl
  refine W.run c6 ?_
  simp only [Option.bind_some, Option.bind_assoc, castInt_int, castBool_bool, castStr_str, castPtr_ptr, castFn_fn, castAgg_agg, castTuple_tuple, uncons_cons, isNil_nil, one_sl, one_nils, one_emp, one_ptr, one_nilp, one_fn, cond_true, cond_false, Bool.not_true, Bool.not_false, decide_true, decide_false, castInt_bind, castBool_bind, castStr_bind, castPtr_bind, castFn_bind, castAgg_bind, castTuple_bind, uncons_bind, isNil_bind, one_bind, cond_bind, ite_bind_, List.cons_append, List.nil_append]
  exact W.ret rfl
end Go.X3
