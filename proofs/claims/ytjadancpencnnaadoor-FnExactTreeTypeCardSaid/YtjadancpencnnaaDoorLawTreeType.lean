/- What the law on TreeType computes. -/
import Derived.Test.YtjadancpencnnaaDoorTypes
import Derived.Test.YtjadancpencnnaaDoorOFnExactTreeType
set_option linter.unusedVariables false
set_option linter.unusedSimpArgs false
namespace Go.D
open Go.HM Go.Proofs
theorem FnExactTreeType_law {σ : Heap} (hv : VarsFnExactTreeType σ) {y0 : Int} (f0 : fitI y0) : ∃ σ', Runs G n_laws_FnExactTreeType [.int .i64 y0] σ (.bool true) σ' := by
  refine Ends.true (Ends.mk ?_)
  refine W.to (fun k _ => laws_FnExactTreeType.eq k _ _) ?_
  refine W.give (specTreeType_gives _ _) fun σ1 l1 => ?_
  try simp only [q_bind_some, castInt_int, q_castBool, q_castStr, q_castPtr, q_castFn, q_castAgg, q_castTuple, q_uncons, q_isNil, q_sl, q_nils, q_emp, q_ptr, q_nilp, q_fn, q_cond_true, q_cond_false, Bool.not_true, Bool.not_false, decide_true, decide_false, List.cons_append, List.nil_append]
  refine W.run (implTreeType_runs _ _ (hv.le l1).v0) ?_
  try simp only [q_bind_some, castInt_int, q_castBool, q_castStr, q_castPtr, q_castFn, q_castAgg, q_castTuple, q_uncons, q_isNil, q_sl, q_nils, q_emp, q_ptr, q_nilp, q_fn, q_cond_true, q_cond_false, Bool.not_true, Bool.not_false, decide_true, decide_false, List.cons_append, List.nil_append]
  exact W.ret rfl
end Go.D
