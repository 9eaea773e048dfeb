/- What the law on GraphBehind computes. -/
import Derived.Test.YtjadancpencnnaaRound
import Derived.Test.YtjadancpencnnaaHMOpen
set_option linter.unusedVariables false
set_option linter.unusedSimpArgs false
namespace Go.A
open Go.HM Go.Proofs
theorem lh_above {lo hi a b : Nat} {σ σ' : Heap} (s : Sm a b σ σ') (h : b ≤ lo) : Lh (win lo hi σ) (win lo hi σ') := ⟨by rw [win_length, win_length, s.len]; exact Nat.le_refl _, fun j row hj => by
  obtain ⟨h1, h2, h3⟩ := win_get.1 hj
  exact win_get.2 ⟨h1, by rw [s.out j (.inr (by omega))]; exact h2, h3⟩⟩
theorem FnExactGraphBehind_law {σ : Heap} {y0 : List GraphNode} (f0 : fitL GraphNode.Fit y0) {w0 : V} (r0 : RepS 2 (GraphNode.Rep σ) σ w0 y0) {y1 : List ByteArray} (f1 : fitL fitT y1) {w1 : V} (rs0 : RepS 1 StrRep σ w1 y1) :
    ∃ σ', Runs G n_laws_FnExactGraphBehind [w0, w1] σ (.bool true) σ' := by
  refine Ends.true (Ends.mk ?_)
  refine W.to (fun k _ => laws_FnExactGraphBehind.eq k _ _ _) ?_
  refine W.run (szGraphNodeS_runs f0.1 r0 (fun x hx cs b hr h0 h1 => szGraphNode_runs x (f0.2 x hx) hr h0 h1) (b := 1048576) (by omega) (by omega)) ?_
  try simp only [q_bind_some, Option.bind_assoc, castInt_int, q_castBool, q_castStr, q_castPtr, q_castFn, q_castAgg, q_castTuple, q_uncons, q_isNil, q_sl, q_nils, q_emp, q_ptr, q_nilp, q_fn, q_cond_true, q_cond_false, Bool.not_true, Bool.not_false, decide_true, decide_false, castInt_bind, castBool_bind, castStr_bind, castPtr_bind, castFn_bind, castAgg_bind, castTuple_bind, uncons_bind, isNil_bind, one_bind, cond_bind, ite_bind_, List.cons_append, List.nil_append]
  have hc := sub_cases 1048576 (y0.length + totS GraphNode.total y0)
  refine W.ite (fun _ => W.ret rfl) fun hs => ?_
  have ht : y0.length + totS GraphNode.total y0 ≤ 1048576 := by omega
  generalize sub 1048576 (y0.length + totS GraphNode.total y0) = b1 at hc hs ⊢
  refine W.run (szStringS_runs f1.1 rs0 f1.2 (b := b1) (by omega) (by omega)) ?_
  try simp only [q_bind_some, Option.bind_assoc, castInt_int, q_castBool, q_castStr, q_castPtr, q_castFn, q_castAgg, q_castTuple, q_uncons, q_isNil, q_sl, q_nils, q_emp, q_ptr, q_nilp, q_fn, q_cond_true, q_cond_false, Bool.not_true, Bool.not_false, decide_true, decide_false, castInt_bind, castBool_bind, castStr_bind, castPtr_bind, castFn_bind, castAgg_bind, castTuple_bind, uncons_bind, isNil_bind, one_bind, cond_bind, ite_bind_, List.cons_append, List.nil_append]
  have hc1 := sub_cases b1 (y1.length + totS ByteArray.size y1)
  refine W.ite (fun _ => W.ret rfl) fun hs1 => ?_
  have ht1 : y1.length + totS ByteArray.size y1 ≤ 1048576 := by omega
  have hmk := mkG_le y0
  have hol := behOf_len y0 y1
  have to : ∀ {σ' : Heap}, Lh σ σ' → _ := fun {σ'} hl => toGraphNodeS_runs (σ := σ') ht (r0.mono hl fun cs x _ h => GraphNode.Rep.le hl h) (fun x hx ht σ cs hr => toGraphNode_runs x ht hr)
  have tos : ∀ {σ' : Heap}, Lh σ σ' → _ := fun {σ'} hl => toStringS_runs (σ := σ') ht1 (rs0.le hl)
  have eqN : ∀ {σ' : Heap} {v v' : V}, RepS 2 (GraphNode.Rep σ') σ' v y0 → RepS 2 (GraphNode.Rep σ') σ' v' y0 → Runs G n_laws_eqGraphNodeS [v, v'] σ' (.bool true) σ' := fun h h' => by
    obtain ⟨b, c, hb⟩ := eqGraphNodeS_runs f0.1 h h' (fun x hx y cs cs' hr hr' => eqGraphNode_runs x y (f0.2 x hx) hr hr')
    obtain rfl := hb.2 rfl
    exact c
  have eqS : ∀ {σ' : Heap} {v v' : V} {l : List ByteArray}, l.length ≤ 1048576 → RepS 1 StrRep σ' v l → RepS 1 StrRep σ' v' l → Runs G n_laws_eqStringS [v, v'] σ' (.bool true) σ' := fun hl h h' => by
    obtain ⟨b, c, hb⟩ := eqStringS_runs (by omega) h h'
    obtain rfl := hb.2 rfl
    exact c
  obtain ⟨v1, σ1, c1, l1, r1⟩ := to (Lh.refl σ)
  replace r1 := r1.mono (Lh.wipe _ _) fun cs x _ h => GraphNode.Rep.le (Lh.wipe _ _) h
  refine W.run c1 ?_
  obtain ⟨t1, σ2, c2, l2, p1⟩ := tos l1
  replace p1 := p1.le (Lh.wipe _ _)
  refine W.run c2 ?_
  obtain ⟨u5, σ5, c5, l5, o5⟩ := specGraphBehind_own ht (by omega) (r1.mono l2 fun cs x _ h => GraphNode.Rep.le l2 h) p1
  refine W.run c5 ?_
  have m5 := l1.trans (l2.trans l5)
  obtain ⟨v6, σ6, c6, l6, rw6⟩ := to m5
  have r6 := rw6.mono (Lh.wipe _ _) fun cs x _ h => GraphNode.Rep.le (Lh.wipe _ _) h
  refine W.run c6 ?_
  obtain ⟨t6, σ7, c7, l7, pw6⟩ := tos (m5.trans l6)
  have p6 := pw6.le (Lh.wipe _ _)
  refine W.run c7 ?_
  have r7 := r6.mono l7 fun cs x _ h => GraphNode.Rep.le l7 h
  obtain ⟨u8, σ8, c8, l8, o8⟩ := implGraphBehind_own ht (by omega) r7 p6
  refine W.run c8 ?_
  refine W.run (eqS (by omega) o8.rep (o5.le (l6.trans (l7.trans l8))).rep) ?_
  try simp only [q_bind_some, Option.bind_assoc, castInt_int, q_castBool, q_castStr, q_castPtr, q_castFn, q_castAgg, q_castTuple, q_uncons, q_isNil, q_sl, q_nils, q_emp, q_ptr, q_nilp, q_fn, q_cond_true, q_cond_false, Bool.not_true, Bool.not_false, decide_true, decide_false, castInt_bind, castBool_bind, castStr_bind, castPtr_bind, castFn_bind, castAgg_bind, castTuple_bind, uncons_bind, isNil_bind, one_bind, cond_bind, ite_bind_, List.cons_append, List.nil_append]
  have m8 := m5.trans (l6.trans (l7.trans l8))
  obtain ⟨v10, σ10, c10, l10, r10⟩ := to m8
  replace r10 := r10.mono (Lh.wipe _ _) fun cs x _ h => GraphNode.Rep.le (Lh.wipe _ _) h
  refine W.run c10 ?_
  have l710 := l8.trans l10
  refine W.run (eqN (r7.mono l710 fun cs x _ h => GraphNode.Rep.le l710 h) r10) ?_
  try simp only [q_bind_some, Option.bind_assoc, castInt_int, q_castBool, q_castStr, q_castPtr, q_castFn, q_castAgg, q_castTuple, q_uncons, q_isNil, q_sl, q_nils, q_emp, q_ptr, q_nilp, q_fn, q_cond_true, q_cond_false, Bool.not_true, Bool.not_false, decide_true, decide_false, castInt_bind, castBool_bind, castStr_bind, castPtr_bind, castFn_bind, castAgg_bind, castTuple_bind, uncons_bind, isNil_bind, one_bind, cond_bind, ite_bind_, List.cons_append, List.nil_append]
  obtain ⟨t11, σ11, c11, l11, p11⟩ := tos (m8.trans l10)
  replace p11 := p11.le (Lh.wipe _ _)
  refine W.run c11 ?_
  have l711 := l710.trans l11
  refine W.run (eqS (by omega) (p6.le l711) p11) ?_
  try simp only [q_bind_some, Option.bind_assoc, castInt_int, q_castBool, q_castStr, q_castPtr, q_castFn, q_castAgg, q_castTuple, q_uncons, q_isNil, q_sl, q_nils, q_emp, q_ptr, q_nilp, q_fn, q_cond_true, q_cond_false, Bool.not_true, Bool.not_false, decide_true, decide_false, castInt_bind, castBool_bind, castStr_bind, castPtr_bind, castFn_bind, castAgg_bind, castTuple_bind, uncons_bind, isNil_bind, one_bind, cond_bind, ite_bind_, List.cons_append, List.nil_append]
  have n5 := l5.len
  have n6 := l6.len
  have n7 := l7.len
  have n8 := l8.len
  have nm := m5.len
  have lw := Lh.ofWipe (lo := σ5.length) (hi := σ6.length) (l7.trans l711) (Nat.le_refl _)
  obtain ⟨σ13, c13, s13⟩ := markGraphNodeS_ends (n := 1) (rw6.mono lw fun cs x _ h => GraphNode.Rep.sh (GraphNode.Rep.le lw h)) (Nat.le_refl _) (by omega)
  refine W.run c13 ?_
  try simp only [q_bind_some, Option.bind_assoc, castInt_int, q_castBool, q_castStr, q_castPtr, q_castFn, q_castAgg, q_castTuple, q_uncons, q_isNil, q_sl, q_nils, q_emp, q_ptr, q_nilp, q_fn, q_cond_true, q_cond_false, Bool.not_true, Bool.not_false, decide_true, decide_false, castInt_bind, castBool_bind, castStr_bind, castPtr_bind, castFn_bind, castAgg_bind, castTuple_bind, uncons_bind, isNil_bind, one_bind, cond_bind, ite_bind_, List.cons_append, List.nil_append]
  have lw2 := (Lh.ofWipe (lo := σ6.length) (hi := σ7.length) l711 (Nat.le_refl _)).trans (lh_above s13 (Nat.le_refl _))
  obtain ⟨σ14, c14, s14⟩ := markStringS_ends (n := 1 + totS mkG y0) (pw6.mono lw2 fun cs x _ hc => ⟨x, hc⟩) (by omega) (by omega)
  refine W.run c14 ?_
  have h14 : ¬ (((1 + totS mkG y0 + y1.length : Nat) : Int) < 0) := by omega
  try simp only [q_bind_some, Option.bind_assoc, castInt_int, q_castBool, q_castStr, q_castPtr, q_castFn, q_castAgg, q_castTuple, q_uncons, q_isNil, q_sl, q_nils, q_emp, q_ptr, q_nilp, q_fn, q_cond_true, q_cond_false, Bool.not_true, Bool.not_false, decide_true, decide_false, castInt_bind, castBool_bind, castStr_bind, castPtr_bind, castFn_bind, castAgg_bind, castTuple_bind, uncons_bind, isNil_bind, one_bind, cond_bind, ite_bind_, List.cons_append, List.nil_append, h14]
  have l5_13 : Lh σ5 σ13 := s13.lh (l6.trans (l7.trans l711)) (Nat.le_refl _)
  have l5_14 : Lh σ5 σ14 := s14.lh l5_13 n6
  have o8b : Own σ7.length σ14 u8 (behOf y0 y1) := ((o8.le (l10.trans l11)).keep fun j hj => s13.out j (.inr (by omega))).keep fun j hj => s14.out j (.inr hj)
  refine W.run (eqS (by omega) o8b.rep (o5.le l5_14).rep) ?_
  try simp only [q_bind_some, Option.bind_assoc, castInt_int, q_castBool, q_castStr, q_castPtr, q_castFn, q_castAgg, q_castTuple, q_uncons, q_isNil, q_sl, q_nils, q_emp, q_ptr, q_nilp, q_fn, q_cond_true, q_cond_false, Bool.not_true, Bool.not_false, decide_true, decide_false, castInt_bind, castBool_bind, castStr_bind, castPtr_bind, castFn_bind, castAgg_bind, castTuple_bind, uncons_bind, isNil_bind, one_bind, cond_bind, ite_bind_, List.cons_append, List.nil_append]
  obtain ⟨σ17, c17, o17, n17, k17⟩ := o8b.mark (n := 1) (Nat.le_refl _) (by omega)
  refine W.run c17 ?_
  try simp only [q_bind_some, Option.bind_assoc, castInt_int, q_castBool, q_castStr, q_castPtr, q_castFn, q_castAgg, q_castTuple, q_uncons, q_isNil, q_sl, q_nils, q_emp, q_ptr, q_nilp, q_fn, q_cond_true, q_cond_false, Bool.not_true, Bool.not_false, decide_true, decide_false, castInt_bind, castBool_bind, castStr_bind, castPtr_bind, castFn_bind, castAgg_bind, castTuple_bind, uncons_bind, isNil_bind, one_bind, cond_bind, ite_bind_, List.cons_append, List.nil_append]
  refine W.run (held_runs (n := 1) (k := (behOf y0 y1).length) o17.rep (Nat.le_refl _) (by omega)) ?_
  have h17 : ¬ (((1 + (behOf y0 y1).length : Nat) : Int) < 0) := by omega
  try simp only [q_bind_some, Option.bind_assoc, castInt_int, q_castBool, q_castStr, q_castPtr, q_castFn, q_castAgg, q_castTuple, q_uncons, q_isNil, q_sl, q_nils, q_emp, q_ptr, q_nilp, q_fn, q_cond_true, q_cond_false, Bool.not_true, Bool.not_false, decide_true, decide_false, castInt_bind, castBool_bind, castStr_bind, castPtr_bind, castFn_bind, castAgg_bind, castTuple_bind, uncons_bind, isNil_bind, one_bind, cond_bind, ite_bind_, List.cons_append, List.nil_append, h17]
  have l5_17 : Lh σ5 σ17 := k17 _ l5_14 (by omega)
  have m17 := m5.trans l5_17
  obtain ⟨v21, σ21, c21, l21, r21⟩ := to m17
  replace r21 := r21.mono (Lh.wipe _ _) fun cs x _ h => GraphNode.Rep.le (Lh.wipe _ _) h
  refine W.run c21 ?_
  obtain ⟨t22, σ22, c22, l22, p22⟩ := tos (m17.trans l21)
  replace p22 := p22.le (Lh.wipe _ _)
  refine W.run c22 ?_
  obtain ⟨u23, σ23, c23, l23, o23⟩ := implGraphBehind_own ht (by omega) (r21.mono l22 fun cs x _ h => GraphNode.Rep.le l22 h) p22
  refine W.run c23 ?_
  have l17_23 := l21.trans (l22.trans l23)
  refine W.run (eqS (by omega) o23.rep (o5.le (l5_17.trans l17_23)).rep) ?_
  try simp only [q_bind_some, Option.bind_assoc, castInt_int, q_castBool, q_castStr, q_castPtr, q_castFn, q_castAgg, q_castTuple, q_uncons, q_isNil, q_sl, q_nils, q_emp, q_ptr, q_nilp, q_fn, q_cond_true, q_cond_false, Bool.not_true, Bool.not_false, decide_true, decide_false, castInt_bind, castBool_bind, castStr_bind, castPtr_bind, castFn_bind, castAgg_bind, castTuple_bind, uncons_bind, isNil_bind, one_bind, cond_bind, ite_bind_, List.cons_append, List.nil_append]
  refine W.run (held_runs (n := 1) (k := (behOf y0 y1).length) (o17.le l17_23).rep (Nat.le_refl _) (by omega)) ?_
  try simp only [q_bind_some, Option.bind_assoc, castInt_int, q_castBool, q_castStr, q_castPtr, q_castFn, q_castAgg, q_castTuple, q_uncons, q_isNil, q_sl, q_nils, q_emp, q_ptr, q_nilp, q_fn, q_cond_true, q_cond_false, Bool.not_true, Bool.not_false, decide_true, decide_false, castInt_bind, castBool_bind, castStr_bind, castPtr_bind, castFn_bind, castAgg_bind, castTuple_bind, uncons_bind, isNil_bind, one_bind, cond_bind, ite_bind_, List.cons_append, List.nil_append, h17]
  exact W.ret rfl
end Go.A
