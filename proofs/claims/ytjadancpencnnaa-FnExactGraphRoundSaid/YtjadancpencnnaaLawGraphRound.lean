/- What the law on GraphRound computes. -/
import Derived.Test.YtjadancpencnnaaRound
import Derived.Test.YtjadancpencnnaaHMOpen
set_option linter.unusedVariables false
set_option linter.unusedSimpArgs false
namespace Go.A
open Go.HM Go.Proofs
theorem FnExactGraphRound_law {σ : Heap} {y0 : List GraphNode} (f0 : fitL GraphNode.Fit y0) {w0 : V} (r0 : RepS 2 (GraphNode.Rep σ) σ w0 y0) :
    ∃ σ', Runs G n_laws_FnExactGraphRound [w0] σ (.bool true) σ' := by
  refine Ends.true (Ends.mk ?_)
  refine W.to (fun k _ => laws_FnExactGraphRound.eq k _ _) ?_
  refine W.run (szGraphNodeS_runs f0.1 r0 (fun x hx cs b hr h0 h1 => szGraphNode_runs x (f0.2 x hx) hr h0 h1) (b := 1048576) (by omega) (by omega)) ?_
  try simp only [q_bind_some, Option.bind_assoc, castInt_int, q_castBool, q_castStr, q_castPtr, q_castFn, q_castAgg, q_castTuple, q_uncons, q_isNil, q_sl, q_nils, q_emp, q_ptr, q_nilp, q_fn, q_cond_true, q_cond_false, Bool.not_true, Bool.not_false, decide_true, decide_false, castInt_bind, castBool_bind, castStr_bind, castPtr_bind, castFn_bind, castAgg_bind, castTuple_bind, uncons_bind, isNil_bind, one_bind, cond_bind, ite_bind_, List.cons_append, List.nil_append]
  refine W.ite (fun _ => W.ret rfl) fun hs => ?_
  have ht : y0.length + totS GraphNode.total y0 ≤ 1048576 := by have := sub_cases 1048576 (y0.length + totS GraphNode.total y0); omega
  have hmk := mkG_le y0
  have hol := rndOf_len y0
  have to : ∀ {σ' : Heap}, Lh σ σ' → _ := fun {σ'} hl => toGraphNodeS_runs (σ := σ') ht (r0.mono hl fun cs x _ h => GraphNode.Rep.le hl h) (fun x hx ht σ cs hr => toGraphNode_runs x ht hr)
  have eqN : ∀ {σ' : Heap} {v v' : V}, RepS 2 (GraphNode.Rep σ') σ' v y0 → RepS 2 (GraphNode.Rep σ') σ' v' y0 → Runs G n_laws_eqGraphNodeS [v, v'] σ' (.bool true) σ' := fun h h' => by
    obtain ⟨b, c, hb⟩ := eqGraphNodeS_runs f0.1 h h' (fun x hx y cs cs' hr hr' => eqGraphNode_runs x y (f0.2 x hx) hr hr')
    obtain rfl := hb.2 rfl
    exact c
  have eqT : ∀ {σ' : Heap} {b b' : Nat} {v v' : V}, Own b σ' v (rndOf y0) → Own b' σ' v' (rndOf y0) → Runs G n_laws_eqStringS [v, v'] σ' (.bool true) σ' := fun h h' => by
    obtain ⟨b, c, hb⟩ := eqStringS_runs (by omega) h.rep h'.rep
    obtain rfl := hb.2 rfl
    exact c
  obtain ⟨v1, σ1, c1, l1, r1⟩ := to (Lh.refl σ)
  replace r1 := r1.mono (Lh.wipe _ _) fun cs x _ h => GraphNode.Rep.le (Lh.wipe _ _) h
  refine W.run c1 ?_
  obtain ⟨u5, σ5, c5, l5, o5⟩ := specGraphRound_own ht r1
  refine W.run c5 ?_
  obtain ⟨v6, σ6, c6, l6, rw6⟩ := to (l1.trans l5)
  have r6 := rw6.mono (Lh.wipe _ _) fun cs x _ h => GraphNode.Rep.le (Lh.wipe _ _) h
  refine W.run c6 ?_
  obtain ⟨u7, σ7, c7, l7, o7⟩ := implGraphRound_own ht r6
  refine W.run c7 ?_
  refine W.run (eqT o7 (o5.le (l6.trans l7))) ?_
  try simp only [q_bind_some, Option.bind_assoc, castInt_int, q_castBool, q_castStr, q_castPtr, q_castFn, q_castAgg, q_castTuple, q_uncons, q_isNil, q_sl, q_nils, q_emp, q_ptr, q_nilp, q_fn, q_cond_true, q_cond_false, Bool.not_true, Bool.not_false, decide_true, decide_false, castInt_bind, castBool_bind, castStr_bind, castPtr_bind, castFn_bind, castAgg_bind, castTuple_bind, uncons_bind, isNil_bind, one_bind, cond_bind, ite_bind_, List.cons_append, List.nil_append]
  obtain ⟨v10, σ10, c10, l10, r10⟩ := to (l1.trans (l5.trans (l6.trans l7)))
  replace r10 := r10.mono (Lh.wipe _ _) fun cs x _ h => GraphNode.Rep.le (Lh.wipe _ _) h
  refine W.run c10 ?_
  have l610 := l7.trans l10
  refine W.run (eqN (r6.mono l610 fun cs x _ h => GraphNode.Rep.le l610 h) r10) ?_
  try simp only [q_bind_some, Option.bind_assoc, castInt_int, q_castBool, q_castStr, q_castPtr, q_castFn, q_castAgg, q_castTuple, q_uncons, q_isNil, q_sl, q_nils, q_emp, q_ptr, q_nilp, q_fn, q_cond_true, q_cond_false, Bool.not_true, Bool.not_false, decide_true, decide_false, castInt_bind, castBool_bind, castStr_bind, castPtr_bind, castFn_bind, castAgg_bind, castTuple_bind, uncons_bind, isNil_bind, one_bind, cond_bind, ite_bind_, List.cons_append, List.nil_append]
  have lw := Lh.ofWipe (lo := σ5.length) l610 (Nat.le_refl _)
  obtain ⟨σ13, c13, s13⟩ := markGraphNodeS_ends (n := 1) (rw6.mono lw fun cs x _ h => GraphNode.Rep.sh (GraphNode.Rep.le lw h)) (Nat.le_refl _) (by omega)
  refine W.run c13 ?_
  have h13 : ¬ (((1 + totS mkG y0 : Nat) : Int) < 0) := by omega
  try simp only [q_bind_some, Option.bind_assoc, castInt_int, q_castBool, q_castStr, q_castPtr, q_castFn, q_castAgg, q_castTuple, q_uncons, q_isNil, q_sl, q_nils, q_emp, q_ptr, q_nilp, q_fn, q_cond_true, q_cond_false, Bool.not_true, Bool.not_false, decide_true, decide_false, castInt_bind, castBool_bind, castStr_bind, castPtr_bind, castFn_bind, castAgg_bind, castTuple_bind, uncons_bind, isNil_bind, one_bind, cond_bind, ite_bind_, List.cons_append, List.nil_append, h13]
  have n5 := l5.len
  have n6 := l6.len
  have n1 := l1.len
  have l5_13 : Lh σ5 σ13 := s13.lh (l6.trans l610) (Nat.le_refl _)
  have o7b : Own σ6.length σ13 u7 (rndOf y0) := (o7.le l10).keep fun j hj => s13.out j (.inr hj)
  refine W.run (eqT o7b (o5.le l5_13)) ?_
  try simp only [q_bind_some, Option.bind_assoc, castInt_int, q_castBool, q_castStr, q_castPtr, q_castFn, q_castAgg, q_castTuple, q_uncons, q_isNil, q_sl, q_nils, q_emp, q_ptr, q_nilp, q_fn, q_cond_true, q_cond_false, Bool.not_true, Bool.not_false, decide_true, decide_false, castInt_bind, castBool_bind, castStr_bind, castPtr_bind, castFn_bind, castAgg_bind, castTuple_bind, uncons_bind, isNil_bind, one_bind, cond_bind, ite_bind_, List.cons_append, List.nil_append]
  obtain ⟨σ17, c17, o17, n17, k17⟩ := o7b.mark (n := 1) (Nat.le_refl _) (by omega)
  refine W.run c17 ?_
  try simp only [q_bind_some, Option.bind_assoc, castInt_int, q_castBool, q_castStr, q_castPtr, q_castFn, q_castAgg, q_castTuple, q_uncons, q_isNil, q_sl, q_nils, q_emp, q_ptr, q_nilp, q_fn, q_cond_true, q_cond_false, Bool.not_true, Bool.not_false, decide_true, decide_false, castInt_bind, castBool_bind, castStr_bind, castPtr_bind, castFn_bind, castAgg_bind, castTuple_bind, uncons_bind, isNil_bind, one_bind, cond_bind, ite_bind_, List.cons_append, List.nil_append]
  refine W.run (held_runs (n := 1) (k := (rndOf y0).length) o17.rep (Nat.le_refl _) (by omega)) ?_
  have h17 : ¬ (((1 + (rndOf y0).length : Nat) : Int) < 0) := by omega
  try simp only [q_bind_some, Option.bind_assoc, castInt_int, q_castBool, q_castStr, q_castPtr, q_castFn, q_castAgg, q_castTuple, q_uncons, q_isNil, q_sl, q_nils, q_emp, q_ptr, q_nilp, q_fn, q_cond_true, q_cond_false, Bool.not_true, Bool.not_false, decide_true, decide_false, castInt_bind, castBool_bind, castStr_bind, castPtr_bind, castFn_bind, castAgg_bind, castTuple_bind, uncons_bind, isNil_bind, one_bind, cond_bind, ite_bind_, List.cons_append, List.nil_append, h17]
  have l5_17 : Lh σ5 σ17 := k17 _ l5_13 (by omega)
  obtain ⟨v21, σ21, c21, l21, r21⟩ := to (l1.trans (l5.trans l5_17))
  replace r21 := r21.mono (Lh.wipe _ _) fun cs x _ h => GraphNode.Rep.le (Lh.wipe _ _) h
  refine W.run c21 ?_
  obtain ⟨u22, σ22, c22, l22, o22⟩ := implGraphRound_own ht r21
  refine W.run c22 ?_
  refine W.run (eqT o22 (o5.le (l5_17.trans (l21.trans l22)))) ?_
  try simp only [q_bind_some, Option.bind_assoc, castInt_int, q_castBool, q_castStr, q_castPtr, q_castFn, q_castAgg, q_castTuple, q_uncons, q_isNil, q_sl, q_nils, q_emp, q_ptr, q_nilp, q_fn, q_cond_true, q_cond_false, Bool.not_true, Bool.not_false, decide_true, decide_false, castInt_bind, castBool_bind, castStr_bind, castPtr_bind, castFn_bind, castAgg_bind, castTuple_bind, uncons_bind, isNil_bind, one_bind, cond_bind, ite_bind_, List.cons_append, List.nil_append]
  refine W.run (held_runs (n := 1) (k := (rndOf y0).length) (o17.le (l21.trans l22)).rep (Nat.le_refl _) (by omega)) ?_
  try simp only [q_bind_some, Option.bind_assoc, castInt_int, q_castBool, q_castStr, q_castPtr, q_castFn, q_castAgg, q_castTuple, q_uncons, q_isNil, q_sl, q_nils, q_emp, q_ptr, q_nilp, q_fn, q_cond_true, q_cond_false, Bool.not_true, Bool.not_false, decide_true, decide_false, castInt_bind, castBool_bind, castStr_bind, castPtr_bind, castFn_bind, castAgg_bind, castTuple_bind, uncons_bind, isNil_bind, one_bind, cond_bind, ite_bind_, List.cons_append, List.nil_append, h17]
  exact W.ret rfl
end Go.A
