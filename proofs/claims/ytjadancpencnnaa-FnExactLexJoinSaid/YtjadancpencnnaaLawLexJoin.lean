/- What the law on LexJoin computes. -/
import Derived.Test.YtjadancpencnnaaJoin
import Derived.Test.YtjadancpencnnaaHMOpen
set_option linter.unusedVariables false
set_option linter.unusedSimpArgs false
namespace Go.A
open Go.HM Go.Proofs
theorem FnExactLexJoin_law {σ : Heap} {y0 : List ByteArray} (f0 : fitL fitT y0) {w0 : V} (r0 : RepS 1 StrRep σ w0 y0) :
    ∃ σ', Runs G n_laws_FnExactLexJoin [w0] σ (.bool true) σ' := by
  refine HM.Ends.true (HM.Ends.mk ?_)
  refine W.to (fun k _ => laws_FnExactLexJoin.eq k _ _) ?_
  refine W.run (szStringS_runs f0.1 r0 f0.2 (b := 1048576) (by omega) (by omega)) ?_
  try simp only [q_bind_some, Option.bind_assoc, castInt_int, q_castBool, q_castStr, q_castPtr, q_castFn, q_castAgg, q_castTuple, q_uncons, q_isNil, q_sl, q_nils, q_emp, q_ptr, q_nilp, q_fn, q_cond_true, q_cond_false, Bool.not_true, Bool.not_false, decide_true, decide_false, castInt_bind, castBool_bind, castStr_bind, castPtr_bind, castFn_bind, castAgg_bind, castTuple_bind, uncons_bind, isNil_bind, one_bind, cond_bind, ite_bind_, List.cons_append, List.nil_append]
  refine W.ite (fun _ => W.ret rfl) fun hs => ?_
  have ht : y0.length + totS ByteArray.size y0 ≤ 1048576 := by have := sub_cases 1048576 (y0.length + totS ByteArray.size y0); omega
  obtain ⟨v1, σ1, c1, l1, r1⟩ := toStringS_runs ht r0
  replace r1 := r1.le (Lh.wipe _ _)
  refine W.run c1 ?_
  refine W.run (specLexJoin_runs (by omega) r1) ?_
  try simp only [q_bind_some, Option.bind_assoc, castInt_int, q_castBool, q_castStr, q_castPtr, q_castFn, q_castAgg, q_castTuple, q_uncons, q_isNil, q_sl, q_nils, q_emp, q_ptr, q_nilp, q_fn, q_cond_true, q_cond_false, Bool.not_true, Bool.not_false, decide_true, decide_false, castInt_bind, castBool_bind, castStr_bind, castPtr_bind, castFn_bind, castAgg_bind, castTuple_bind, uncons_bind, isNil_bind, one_bind, cond_bind, ite_bind_, List.cons_append, List.nil_append]
  obtain ⟨v2, σ2, c2, l2, r2⟩ := toStringS_runs ht (r0.le l1)
  replace r2 := r2.le (Lh.wipe _ _)
  refine W.run c2 ?_
  refine W.give (implLexJoin_gives (by omega) r2) fun σ3 l3 => ?_
  try simp only [q_bind_some, Option.bind_assoc, castInt_int, q_castBool, q_castStr, q_castPtr, q_castFn, q_castAgg, q_castTuple, q_uncons, q_isNil, q_sl, q_nils, q_emp, q_ptr, q_nilp, q_fn, q_cond_true, q_cond_false, Bool.not_true, Bool.not_false, decide_true, decide_false, castInt_bind, castBool_bind, castStr_bind, castPtr_bind, castFn_bind, castAgg_bind, castTuple_bind, uncons_bind, isNil_bind, one_bind, cond_bind, ite_bind_, List.cons_append, List.nil_append]
  obtain ⟨v4, σ4, c4, l4, r4⟩ := toStringS_runs ht (r0.le (l1.trans (l2.trans l3)))
  replace r4 := r4.le (Lh.wipe _ _)
  refine W.run c4 ?_
  obtain ⟨b, c5, hb⟩ := eqStringS_runs (by omega) (r2.le (l3.trans l4)) r4
  obtain rfl := hb.2 rfl
  refine W.run c5 ?_
  try simp only [q_bind_some, Option.bind_assoc, castInt_int, q_castBool, q_castStr, q_castPtr, q_castFn, q_castAgg, q_castTuple, q_uncons, q_isNil, q_sl, q_nils, q_emp, q_ptr, q_nilp, q_fn, q_cond_true, q_cond_false, Bool.not_true, Bool.not_false, decide_true, decide_false, castInt_bind, castBool_bind, castStr_bind, castPtr_bind, castFn_bind, castAgg_bind, castTuple_bind, uncons_bind, isNil_bind, one_bind, cond_bind, ite_bind_, List.cons_append, List.nil_append]
  exact W.ret rfl
end Go.A
