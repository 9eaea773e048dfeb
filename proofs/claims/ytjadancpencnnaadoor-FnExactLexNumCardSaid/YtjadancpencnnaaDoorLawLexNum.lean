/- What the law on LexNum computes. -/
import Derived.Test.YtjadancpencnnaaDoorLexNum2
import Derived.Test.YtjadancpencnnaaDoorOFnExactLexNum
set_option linter.unusedVariables false
set_option linter.unusedSimpArgs false
namespace Go.D
open Go.HM Go.Proofs
theorem FnExactLexNum_law {σ : Heap} (hv : VarsFnExactLexNum σ) {y0 : ByteArray} (f0 : fitT y0) : ∃ σ', Runs G n_laws_FnExactLexNum [.str y0] σ (.bool true) σ' := by
  refine Ends.true (Ends.mk ?_)
  refine W.to (fun k _ => laws_FnExactLexNum.eq k _ _) ?_
  by_cases hs : (1048576 : Int) < (y0.size : Int)
  · try simp only [q_bind_some, castInt_int, q_castBool, q_castStr, q_castPtr, q_castFn, q_castAgg, q_castTuple, q_uncons, q_isNil, q_sl, q_nils, q_emp, q_ptr, q_nilp, q_fn, q_cond_true, q_cond_false, Bool.not_true, Bool.not_false, decide_true, decide_false, List.cons_append, List.nil_append, hs]
    exact W.ret rfl
  have hn : NumV σ := ⟨hv.v2, hv.v4, hv.v3⟩
  try simp only [q_bind_some, castInt_int, q_castBool, q_castStr, q_castPtr, q_castFn, q_castAgg, q_castTuple, q_uncons, q_isNil, q_sl, q_nils, q_emp, q_ptr, q_nilp, q_fn, q_cond_true, q_cond_false, Bool.not_true, Bool.not_false, decide_true, decide_false, List.cons_append, List.nil_append, hs]
  refine W.give (specLexNum_gives σ (by omega)) fun σ1 l1 => ?_
  try simp only [q_bind_some, castInt_int, q_castBool, q_castStr, q_castPtr, q_castFn, q_castAgg, q_castTuple, q_uncons, q_isNil, q_sl, q_nils, q_emp, q_ptr, q_nilp, q_fn, q_cond_true, q_cond_false, Bool.not_true, Bool.not_false, decide_true, decide_false, List.cons_append, List.nil_append]
  refine W.give (implLexNum_gives (hn.le l1) (by omega)) fun σ2 l2 => ?_
  rw [num_eq]
  generalize numI y0.data.toList = r
  obtain ⟨n, b⟩ := r
  have hbb : (b == b) = true := by cases b <;> rfl
  try simp only [q_bind_some, castInt_int, q_castBool, q_castStr, q_castPtr, q_castFn, q_castAgg, q_castTuple, q_uncons, q_isNil, q_sl, q_nils, q_emp, q_ptr, q_nilp, q_fn, q_cond_true, q_cond_false, Bool.not_true, Bool.not_false, decide_true, decide_false, List.cons_append, List.nil_append, hbb]
  exact W.ret rfl
end Go.D
