/- The law that words joined are cut again. -/
import Derived.Test.YtjadancpencnnaaLexDraw
import Derived.Test.YtjadancpencnnaaHMOpen
set_option linter.unusedVariables false
set_option linter.unusedSimpArgs false
namespace Go.A
open Go.HM Go.Proofs
def sizeC (s : CutS) : Nat := totS ByteArray.size s.1 + s.2.length
theorem flush_size (s : CutS) : totS ByteArray.size (flushC s) = sizeC s := by
  unfold flushC sizeC
  split
  · rename_i h
    rw [h]
    rfl
  · rw [totS_append]
    simp [totS, ByteArray.size]
theorem step_size {s s' : CutS} {c : UInt8} (e : stepC s c = some s') : sizeC s' ≤ sizeC s + 1 := by
  unfold stepC at e
  split at e
  · injection e with e
    subst e
    show totS ByteArray.size (flushC s ++ [_]) + 0 ≤ _
    rw [totS_append, flush_size]
    simp [totS, ByteArray.size]
  · split at e
    · injection e with e
      subst e
      show totS ByteArray.size (flushC s) + 0 ≤ _
      rw [flush_size]
      omega
    · split at e
      · injection e with e
        subst e
        unfold sizeC
        simp
        omega
      · cases e
theorem run_size : ∀ (L : List UInt8) (s s' : CutS), runC s L = some s' → sizeC s' ≤ sizeC s + L.length
  | [], s, s', e => by simp [runC] at e; subst e; exact Nat.le_refl _
  | c :: L, s, s', e => by
    rw [runC] at e
    obtain ⟨t, h1, h2⟩ := Option.bind_eq_some_iff.1 e
    have := run_size L t s' h2
    have := step_size h1
    simp only [List.length_cons]
    omega
theorem cut_size (t : ByteArray) : totS ByteArray.size (cutR t).1 ≤ 4000 := by
  unfold cutR endC
  split
  · simp [totS]
  · rename_i h4
    split
    · simp [totS]
    · rename_i s hs
      split
      · simp [totS]
      · have := run_size _ _ _ hs
        rw [sz_list] at this
        show totS ByteArray.size (flushC s) ≤ _
        rw [flush_size]
        have h0 : sizeC startC = 0 := rfl
        omega
theorem FnLex_law {σ : Heap} {y0 : List Int} (f0 : fitL fitU8 y0) {w0 : V} (r0 : RepS 1 (U8R σ) σ w0 y0) {y1 : List Int} (f1 : fitL fitU8 y1) {w1 : V} (r1 : RepS 1 (U8R σ) σ w1 y1) :
    ∃ σ', Runs G n_laws_FnLex [w0, w1] σ (.bool true) σ' := by
  refine Ends.true (Ends.mk ?_)
  refine W.to (fun k _ => laws_FnLex.eq k _ _ _) ?_
  refine W.len r0 (W.ite (fun _ => W.ret rfl) fun hl0 => ?_)
  refine W.len r1 (W.ite (fun _ => W.ret rfl) fun hl1 => ?_)
  have r0' : RepS 1 U8P σ w0 y0 := r0.mono (Lh.refl _) fun cs x _ hc => hc
  have r1' : RepS 1 U8P σ w1 y1 := r1.mono (Lh.refl _) fun cs x _ hc => hc
  refine W.call (drawLexJoin_ends r0' f0.2) ?_
  rintro u σ1 ⟨l, ru, h12, h3, l1⟩
  have htot : totS ByteArray.size l ≤ 3 * l.length := by
    have : ∀ k : List ByteArray, (∀ x, x ∈ k → x.size ≤ 3) → totS ByteArray.size k ≤ 3 * k.length := by
      intro k
      induction k with
      | nil => intro _; simp [totS]
      | cons x k ih =>
        intro h
        have h1 := ih fun y hy => h y (by simp [hy])
        have h2 := h x (by simp)
        simp only [totS, List.length_cons]
        omega
    exact this l h3
  have hjs := joined_size l
  refine W.give (implLexJoin_gives (by omega) ru) fun σ2 l2 => ?_
  try simp only [q_bind_some, castInt_int, q_castBool, q_castStr, q_castPtr, q_castFn, q_castAgg, q_castTuple, q_uncons, q_isNil, q_sl, q_nils, q_emp, q_ptr, q_nilp, q_fn, q_cond_true, q_cond_false, Bool.not_true, Bool.not_false, decide_true, decide_false, List.cons_append, List.nil_append]
  refine W.call (implLexCut_ends σ2 (joined l)) ?_
  rintro _ σ3 ⟨b3, rfl, hb3, l3⟩
  try simp only [q_bind_some, castInt_int, q_castBool, q_castStr, q_castPtr, q_castFn, q_castAgg, q_castTuple, q_uncons, q_isNil, q_sl, q_nils, q_emp, q_ptr, q_nilp, q_fn, q_cond_true, q_cond_false, Bool.not_true, Bool.not_false, decide_true, decide_false, List.cons_append, List.nil_append]
  have ru3 := ru.le (l2.trans l3)
  refine W.run (specLexJoin_runs (by omega) ru3) ?_
  try simp only [q_bind_some, castInt_int, q_castBool, q_castStr, q_castPtr, q_castFn, q_castAgg, q_castTuple, q_uncons, q_isNil, q_sl, q_nils, q_emp, q_ptr, q_nilp, q_fn, q_cond_true, q_cond_false, Bool.not_true, Bool.not_false, decide_true, decide_false, List.cons_append, List.nil_append, decide_true]
  refine W.run (wlWhole_runs (by omega) (fun w hw => by have := h3 w hw; omega) ru3) ?_
  try simp only [q_bind_some, castInt_int, q_castBool, q_castStr, q_castPtr, q_castFn, q_castAgg, q_castTuple, q_uncons, q_isNil, q_sl, q_nils, q_emp, q_ptr, q_nilp, q_fn, q_cond_true, q_cond_false, Bool.not_true, Bool.not_false, decide_true, decide_false, List.cons_append, List.nil_append]
  have second : ∀ {σ4 : Heap}, Lh σ σ4 → RepS 1 U8P σ4 w1 y1 := fun {σ4} hl => r1'.le hl
  have hlt := (l1.trans l2).trans l3
  refine W.cond (fun hw => ?_) fun hw => ?_
  · have hcut := cut_joined (wholeB_true.1 hw) (by omega) (by omega)
    rw [hcut] at hb3 ⊢
    try simp only [q_bind_some, castInt_int, q_castBool, q_castStr, q_castPtr, q_castFn, q_castAgg, q_castTuple, q_uncons, q_isNil, q_sl, q_nils, q_emp, q_ptr, q_nilp, q_fn, q_cond_true, q_cond_false, Bool.not_true, Bool.not_false, decide_true, decide_false, List.cons_append, List.nil_append]
    refine W.run (wlSame_runs (l := l) (by omega) hb3 ru3) ?_
    try simp only [q_bind_some, castInt_int, q_castBool, q_castStr, q_castPtr, q_castFn, q_castAgg, q_castTuple, q_uncons, q_isNil, q_sl, q_nils, q_emp, q_ptr, q_nilp, q_fn, q_cond_true, q_cond_false, Bool.not_true, Bool.not_false, decide_true, decide_false, List.cons_append, List.nil_append]
    refine W.call (drawLexCut_ends (second hlt) f1.2) ?_
    rintro _ σ4 ⟨t, rfl, l4⟩
    try simp only [q_bind_some, castInt_int, q_castBool, q_castStr, q_castPtr, q_castFn, q_castAgg, q_castTuple, q_uncons, q_isNil, q_sl, q_nils, q_emp, q_ptr, q_nilp, q_fn, q_cond_true, q_cond_false, Bool.not_true, Bool.not_false, decide_true, decide_false, List.cons_append, List.nil_append]
    refine W.call (implLexCut_ends σ4 t) ?_
    rintro _ σ5 ⟨b5, rfl, hb5, l5⟩
    try simp only [q_bind_some, castInt_int, q_castBool, q_castStr, q_castPtr, q_castFn, q_castAgg, q_castTuple, q_uncons, q_isNil, q_sl, q_nils, q_emp, q_ptr, q_nilp, q_fn, q_cond_true, q_cond_false, Bool.not_true, Bool.not_false, decide_true, decide_false, List.cons_append, List.nil_append]
    refine W.call (specLexCut_ends σ5 t) ?_
    rintro _ σ6 ⟨b6, rfl, hb6, l6⟩
    try simp only [q_bind_some, castInt_int, q_castBool, q_castStr, q_castPtr, q_castFn, q_castAgg, q_castTuple, q_uncons, q_isNil, q_sl, q_nils, q_emp, q_ptr, q_nilp, q_fn, q_cond_true, q_cond_false, Bool.not_true, Bool.not_false, decide_true, decide_false, List.cons_append, List.nil_append]
    have hcs := cut_size t
    obtain ⟨hcw, hcl⟩ := cut_whole t
    have hjs2 := joined_size (cutR t).1
    have hb56 := hb5.le l6
    refine W.give (implLexJoin_gives (by omega) hb56) fun σ7 l7 => ?_
    try simp only [q_bind_some, castInt_int, q_castBool, q_castStr, q_castPtr, q_castFn, q_castAgg, q_castTuple, q_uncons, q_isNil, q_sl, q_nils, q_emp, q_ptr, q_nilp, q_fn, q_cond_true, q_cond_false, Bool.not_true, Bool.not_false, decide_true, decide_false, List.cons_append, List.nil_append]
    refine W.call (implLexCut_ends σ7 (joined (cutR t).1)) ?_
    rintro _ σ8 ⟨b8, rfl, hb8, l8⟩
    try simp only [q_bind_some, castInt_int, q_castBool, q_castStr, q_castPtr, q_castFn, q_castAgg, q_castTuple, q_uncons, q_isNil, q_sl, q_nils, q_emp, q_ptr, q_nilp, q_fn, q_cond_true, q_cond_false, Bool.not_true, Bool.not_false, decide_true, decide_false, List.cons_append, List.nil_append, beq_self_eq_true]
    have hb58 := hb56.le (l7.trans l8)
    refine W.cond (fun hn => W.ret rfl) fun hn => ?_
    refine W.run (wlWhole_runs (by omega) (fun w hw => by have := totS_mem ByteArray.size hw; omega) hb58) ?_
    try simp only [q_bind_some, castInt_int, q_castBool, q_castStr, q_castPtr, q_castFn, q_castAgg, q_castTuple, q_uncons, q_isNil, q_sl, q_nils, q_emp, q_ptr, q_nilp, q_fn, q_cond_true, q_cond_false, Bool.not_true, Bool.not_false, decide_true, decide_false, List.cons_append, List.nil_append, wholeB_true.2 hcw]
    by_cases h4 : (joined (cutR t).1).size ≤ 4000
    · rw [cut_joined hcw hcl h4] at hb8 ⊢
      try simp only [q_bind_some, castInt_int, q_castBool, q_castStr, q_castPtr, q_castFn, q_castAgg, q_castTuple, q_uncons, q_isNil, q_sl, q_nils, q_emp, q_ptr, q_nilp, q_fn, q_cond_true, q_cond_false, Bool.not_true, Bool.not_false, decide_true, decide_false, List.cons_append, List.nil_append]
      refine W.run (wlSame_runs (l := (cutR t).1) (by omega) hb8 hb58) ?_
      try simp only [q_bind_some, castInt_int, q_castBool, q_castStr, q_castPtr, q_castFn, q_castAgg, q_castTuple, q_uncons, q_isNil, q_sl, q_nils, q_emp, q_ptr, q_nilp, q_fn, q_cond_true, q_cond_false, Bool.not_true, Bool.not_false, decide_true, decide_false, List.cons_append, List.nil_append]
      exact W.ret rfl
    · have e8 : cutR (joined (cutR t).1) = ([], false) := by rw [cutR, if_pos (by omega)]
      rw [e8]
      try simp only [q_bind_some, castInt_int, q_castBool, q_castStr, q_castPtr, q_castFn, q_castAgg, q_castTuple, q_uncons, q_isNil, q_sl, q_nils, q_emp, q_ptr, q_nilp, q_fn, q_cond_true, q_cond_false, Bool.not_true, Bool.not_false, decide_true, decide_false, List.cons_append, List.nil_append]
      refine W.give (implLexJoin_gives (by omega) hb58) fun σ9 l9 => ?_
      try simp only [q_bind_some, castInt_int, q_castBool, q_castStr, q_castPtr, q_castFn, q_castAgg, q_castTuple, q_uncons, q_isNil, q_sl, q_nils, q_emp, q_ptr, q_nilp, q_fn, q_cond_true, q_cond_false, Bool.not_true, Bool.not_false, decide_true, decide_false, List.cons_append, List.nil_append]
      exact W.ret (by rw [decide_eq_true (by omega)])
  · refine W.call (drawLexCut_ends (second hlt) f1.2) ?_
    rintro _ σ4 ⟨t, rfl, l4⟩
    try simp only [q_bind_some, castInt_int, q_castBool, q_castStr, q_castPtr, q_castFn, q_castAgg, q_castTuple, q_uncons, q_isNil, q_sl, q_nils, q_emp, q_ptr, q_nilp, q_fn, q_cond_true, q_cond_false, Bool.not_true, Bool.not_false, decide_true, decide_false, List.cons_append, List.nil_append]
    refine W.call (implLexCut_ends σ4 t) ?_
    rintro _ σ5 ⟨b5, rfl, hb5, l5⟩
    try simp only [q_bind_some, castInt_int, q_castBool, q_castStr, q_castPtr, q_castFn, q_castAgg, q_castTuple, q_uncons, q_isNil, q_sl, q_nils, q_emp, q_ptr, q_nilp, q_fn, q_cond_true, q_cond_false, Bool.not_true, Bool.not_false, decide_true, decide_false, List.cons_append, List.nil_append]
    refine W.call (specLexCut_ends σ5 t) ?_
    rintro _ σ6 ⟨b6, rfl, hb6, l6⟩
    try simp only [q_bind_some, castInt_int, q_castBool, q_castStr, q_castPtr, q_castFn, q_castAgg, q_castTuple, q_uncons, q_isNil, q_sl, q_nils, q_emp, q_ptr, q_nilp, q_fn, q_cond_true, q_cond_false, Bool.not_true, Bool.not_false, decide_true, decide_false, List.cons_append, List.nil_append]
    have hcs := cut_size t
    obtain ⟨hcw, hcl⟩ := cut_whole t
    have hjs2 := joined_size (cutR t).1
    have hb56 := hb5.le l6
    refine W.give (implLexJoin_gives (by omega) hb56) fun σ7 l7 => ?_
    try simp only [q_bind_some, castInt_int, q_castBool, q_castStr, q_castPtr, q_castFn, q_castAgg, q_castTuple, q_uncons, q_isNil, q_sl, q_nils, q_emp, q_ptr, q_nilp, q_fn, q_cond_true, q_cond_false, Bool.not_true, Bool.not_false, decide_true, decide_false, List.cons_append, List.nil_append]
    refine W.call (implLexCut_ends σ7 (joined (cutR t).1)) ?_
    rintro _ σ8 ⟨b8, rfl, hb8, l8⟩
    try simp only [q_bind_some, castInt_int, q_castBool, q_castStr, q_castPtr, q_castFn, q_castAgg, q_castTuple, q_uncons, q_isNil, q_sl, q_nils, q_emp, q_ptr, q_nilp, q_fn, q_cond_true, q_cond_false, Bool.not_true, Bool.not_false, decide_true, decide_false, List.cons_append, List.nil_append, beq_self_eq_true]
    have hb58 := hb56.le (l7.trans l8)
    refine W.cond (fun hn => W.ret rfl) fun hn => ?_
    refine W.run (wlWhole_runs (by omega) (fun w hw => by have := totS_mem ByteArray.size hw; omega) hb58) ?_
    try simp only [q_bind_some, castInt_int, q_castBool, q_castStr, q_castPtr, q_castFn, q_castAgg, q_castTuple, q_uncons, q_isNil, q_sl, q_nils, q_emp, q_ptr, q_nilp, q_fn, q_cond_true, q_cond_false, Bool.not_true, Bool.not_false, decide_true, decide_false, List.cons_append, List.nil_append, wholeB_true.2 hcw]
    by_cases h4 : (joined (cutR t).1).size ≤ 4000
    · rw [cut_joined hcw hcl h4] at hb8 ⊢
      try simp only [q_bind_some, castInt_int, q_castBool, q_castStr, q_castPtr, q_castFn, q_castAgg, q_castTuple, q_uncons, q_isNil, q_sl, q_nils, q_emp, q_ptr, q_nilp, q_fn, q_cond_true, q_cond_false, Bool.not_true, Bool.not_false, decide_true, decide_false, List.cons_append, List.nil_append]
      refine W.run (wlSame_runs (l := (cutR t).1) (by omega) hb8 hb58) ?_
      try simp only [q_bind_some, castInt_int, q_castBool, q_castStr, q_castPtr, q_castFn, q_castAgg, q_castTuple, q_uncons, q_isNil, q_sl, q_nils, q_emp, q_ptr, q_nilp, q_fn, q_cond_true, q_cond_false, Bool.not_true, Bool.not_false, decide_true, decide_false, List.cons_append, List.nil_append]
      exact W.ret rfl
    · have e8 : cutR (joined (cutR t).1) = ([], false) := by rw [cutR, if_pos (by omega)]
      rw [e8]
      try simp only [q_bind_some, castInt_int, q_castBool, q_castStr, q_castPtr, q_castFn, q_castAgg, q_castTuple, q_uncons, q_isNil, q_sl, q_nils, q_emp, q_ptr, q_nilp, q_fn, q_cond_true, q_cond_false, Bool.not_true, Bool.not_false, decide_true, decide_false, List.cons_append, List.nil_append]
      refine W.give (implLexJoin_gives (by omega) hb58) fun σ9 l9 => ?_
      try simp only [q_bind_some, castInt_int, q_castBool, q_castStr, q_castPtr, q_castFn, q_castAgg, q_castTuple, q_uncons, q_isNil, q_sl, q_nils, q_emp, q_ptr, q_nilp, q_fn, q_cond_true, q_cond_false, Bool.not_true, Bool.not_false, decide_true, decide_false, List.cons_append, List.nil_append]
      exact W.ret (by rw [decide_eq_true (by omega)])
end Go.A
