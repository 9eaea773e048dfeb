/- What the law on ObjText computes. -/
import Derived.Test.YtjadancpencnnaaDoorOTextD
import Derived.Test.YtjadancpencnnaaDoorOFnExactObjText
set_option linter.unusedVariables false
set_option linter.unusedSimpArgs false
namespace Go.D
open Go.HM Go.Proofs
theorem FnExactObjText_law {σ : Heap} (hv : VarsFnExactObjText σ) {y0 : CodeObj} (f0 : CodeObj.Fit y0) {xs0 : List V} (r0 : CodeObj.Rep σ xs0 y0) : ∃ σ', Runs G n_laws_FnExactObjText [.agg xs0] σ (.bool true) σ' := by
  refine Ends.true (Ends.mk ?_)
  have c0 := szCodeObj_runs y0 f0 r0 (b := 1048576) (by omega) (by omega)
  have q0 := r0
  cases q0 with
  | mk p0 p1 =>
  refine W.to (fun k _ => laws_FnExactObjText.eq k _ _ _) ?_
  refine W.run c0 ?_
  try simp only [q_bind_some, castInt_int, q_castBool, q_castStr, q_castPtr, q_castFn, q_castAgg, q_castTuple, q_uncons, q_isNil, q_sl, q_nils, q_emp, q_ptr, q_nilp, q_fn, q_cond_true, q_cond_false, Bool.not_true, Bool.not_false, decide_true, decide_false, List.cons_append, List.nil_append]
  refine W.ite (fun _ => W.ret rfl) fun hs => ?_
  have ht : y0.total ≤ 1048576 := by have := sub_cases 1048576 y0.total; omega
  obtain ⟨cs1, σ1, c1, l1, r1⟩ := toCodeObj_runs y0 ht r0
  replace r1 := r1.le (Lh.wipe _ _)
  have q1 := r1
  cases q1 with
  | mk p0 p1 =>
  refine W.run c1 ?_
  try simp only [q_bind_some, castInt_int, q_castBool, q_castStr, q_castPtr, q_castFn, q_castAgg, q_castTuple, q_uncons, q_isNil, q_sl, q_nils, q_emp, q_ptr, q_nilp, q_fn, q_cond_true, q_cond_false, Bool.not_true, Bool.not_false, decide_true, decide_false, List.cons_append, List.nil_append]
  refine W.give (specObjText_gives f0 ht r1) fun σ2 l2 => ?_
  try simp only [q_bind_some, castInt_int, q_castBool, q_castStr, q_castPtr, q_castFn, q_castAgg, q_castTuple, q_uncons, q_isNil, q_sl, q_nils, q_emp, q_ptr, q_nilp, q_fn, q_cond_true, q_cond_false, Bool.not_true, Bool.not_false, decide_true, decide_false, List.cons_append, List.nil_append]
  have l02 := l1.trans l2
  obtain ⟨cs3, σ3, c3, l3, r3⟩ := toCodeObj_runs y0 ht (r0.le l02)
  replace r3 := r3.le (Lh.wipe _ _)
  have q1 := r3
  cases q1 with
  | mk p0 p1 =>
  refine W.run c3 ?_
  try simp only [q_bind_some, castInt_int, q_castBool, q_castStr, q_castPtr, q_castFn, q_castAgg, q_castTuple, q_uncons, q_isNil, q_sl, q_nils, q_emp, q_ptr, q_nilp, q_fn, q_cond_true, q_cond_false, Bool.not_true, Bool.not_false, decide_true, decide_false, List.cons_append, List.nil_append]
  have hv3 := hv.le (l02.trans l3)
  refine W.give (implObjText_gives hv3.v3 hv3.v4 hv3.v2 f0 ht r3) fun σ4 l4 => ?_
  have l04 := l02.trans (l3.trans l4)
  try simp only [q_bind_some, castInt_int, q_castBool, q_castStr, q_castPtr, q_castFn, q_castAgg, q_castTuple, q_uncons, q_isNil, q_sl, q_nils, q_emp, q_ptr, q_nilp, q_fn, q_cond_true, q_cond_false, Bool.not_true, Bool.not_false, decide_true, decide_false, List.cons_append, List.nil_append]
  obtain ⟨cs5, σ5, c5, l5, r5⟩ := toCodeObj_runs y0 ht (r0.le l04)
  replace r5 := r5.le (Lh.wipe _ _)
  have q1 := r5
  cases q1 with
  | mk p0 p1 =>
  refine W.run c5 ?_
  try simp only [q_bind_some, castInt_int, q_castBool, q_castStr, q_castPtr, q_castFn, q_castAgg, q_castTuple, q_uncons, q_isNil, q_sl, q_nils, q_emp, q_ptr, q_nilp, q_fn, q_cond_true, q_cond_false, Bool.not_true, Bool.not_false, decide_true, decide_false, List.cons_append, List.nil_append]
  obtain ⟨b, c6, hb⟩ := eqCodeObj_runs y0 y0 f0 (r3.le (l4.trans l5)) r5
  obtain rfl := hb.2 rfl
  refine W.run c6 ?_
  try simp only [q_bind_some, castInt_int, q_castBool, q_castStr, q_castPtr, q_castFn, q_castAgg, q_castTuple, q_uncons, q_isNil, q_sl, q_nils, q_emp, q_ptr, q_nilp, q_fn, q_cond_true, q_cond_false, Bool.not_true, Bool.not_false, decide_true, decide_false, List.cons_append, List.nil_append]
  exact W.ret rfl
end Go.D
