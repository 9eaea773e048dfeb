/- The law on what is behind drawn names. -/
import Derived.Test.YtghkdjfgbaoplaaSame
import Derived.Test.YtghkdjfgbaoplaaHMOpen
set_option linter.unusedVariables false
set_option linter.unusedSimpArgs false
namespace Go.B
open Go.HM Go.Proofs
theorem mem_pick {p : GraphNode → Bool} {l : List GraphNode} {x : ByteArray} : x ∈ pick p l ↔ ∃ n, n ∈ l ∧ p n = true ∧ n.name = x := by
  unfold pick
  simp only [List.mem_map, List.mem_filter]
  constructor
  · rintro ⟨n, ⟨h1, h2⟩, h3⟩
    exact ⟨n, h1, h2, h3⟩
  · rintro ⟨n, h1, h2, h3⟩
    exact ⟨n, ⟨h1, h2⟩, h3⟩
theorem behP_iff {l : List GraphNode} {ns : List ByteArray} {n : GraphNode} : behP l ns n = true ↔ (n.name ∈ ns ∨ Beh l ns n.name) := by
  unfold behP
  exact @decide_eq_true_iff _ (Classical.propDecidable _)
theorem mem_beh {l : List GraphNode} {ns : List ByteArray} {x : ByteArray} : x ∈ pick (behP l ns) l ↔ ∃ n, n ∈ l ∧ n.name = x ∧ (x ∈ ns ∨ Beh l ns x) := by
  rw [mem_pick]
  constructor
  · rintro ⟨n, h1, h2, rfl⟩
    exact ⟨n, h1, rfl, behP_iff.1 h2⟩
  · rintro ⟨n, h1, rfl, h2⟩
    exact ⟨n, h1, behP_iff.2 h2, rfl⟩
theorem Beh.mono {l : List GraphNode} {ns ms : List ByteArray} (h : ∀ x, x ∈ ns → x ∈ ms) {x : ByteArray} (b : Beh l ns x) : Beh l ms x := by
  induction b with
  | base h1 h2 h3 => exact .base h1 h2 (h _ h3)
  | step h1 h2 _ ih => exact .step h1 h2 ih
theorem beh_again {l : List GraphNode} {ns : List ByteArray} {x : ByteArray} (b : Beh l (pick (behP l ns) l) x) : Beh l ns x := by
  induction b with
  | base h1 h2 h3 =>
    obtain ⟨n, _, _, h4 | h4⟩ := mem_beh.1 h3
    · exact .base h1 h2 h4
    · exact .step h1 h2 h4
  | step h1 h2 _ ih => exact .step h1 h2 ih
theorem behOf_twice (l : List GraphNode) (ns : List ByteArray) : behOf l (behOf l ns) = behOf l ns := by
  unfold behOf
  by_cases hG : GrOk l
  · simp only [if_pos hG]
    unfold pick
    congr 1
    refine List.filter_congr fun n hn => ?_
    rw [Bool.eq_iff_iff, behP_iff, behP_iff]
    constructor
    · rintro (h | h)
      · obtain ⟨_, _, _, h⟩ := mem_beh.1 h
        exact h
      · exact .inr (beh_again h)
    · exact fun h => .inl (mem_beh.2 ⟨n, hn, rfl, h⟩)
  · simp only [if_neg hG]
theorem FnGraphBehind_law {σ : Heap} {y0 : List Int} (f0 : fitL fitU8 y0) {w0 : V} (r0 : RepS 1 (U8R σ) σ w0 y0) {y1 : List Int} (f1 : fitL fitU8 y1) {w1 : V} (r1 : RepS 1 (U8R σ) σ w1 y1) :
    ∃ σ', Runs G n_laws_FnGraphBehind [w0, w1] σ (.bool true) σ' := by
  refine Ends.true (Ends.mk ?_)
  refine W.to (fun k _ => laws_FnGraphBehind.eq k _ _ _) ?_
  refine W.len r0 (W.ite (fun _ => W.ret rfl) fun hl0 => ?_)
  refine W.len r1 (W.ite (fun _ => W.ret rfl) fun hl1 => ?_)
  have r0' : RepS 1 U8P σ w0 y0 := r0.mono (Lh.refl _) fun cs x _ hc => hc
  obtain ⟨w, u, σ1, l, ns, c1, rn, hn10, hsm, ru, hn3, hne⟩ := drawBehind_ends r0' f0.2
  refine W.run c1 ?_
  try simp only [q_bind_some, Option.bind_assoc, castInt_int, q_castBool, q_castStr, q_castPtr, q_castFn, q_castAgg, q_castTuple, q_uncons, q_isNil, q_sl, q_nils, q_emp, q_ptr, q_nilp, q_fn, q_cond_true, q_cond_false, Bool.not_true, Bool.not_false, decide_true, decide_false, castInt_bind, castBool_bind, castStr_bind, castPtr_bind, castFn_bind, castAgg_bind, castTuple_bind, uncons_bind, isNil_bind, one_bind, cond_bind, ite_bind_, List.cons_append, List.nil_append]
  have ht := small_tot hn10 hsm
  obtain ⟨vb, σ2, c2, l2, o2⟩ := implGraphBehind_own ht (by omega) rn ru
  refine W.run c2 ?_
  refine W.len r1 (W.len ru ?_)
  have e1 : IntKind.wrap .i64 ((ns.length : Int) + 1) = ((ns.length + 1 : Nat) : Int) := by rw [wrap_id (by omega) (by omega)]; omega
  rw [e1]
  refine W.iff (fun hx => absurd hx (by omega)) fun _ => ?_
  obtain ⟨i, hi, hin⟩ := tmod_ok (y := (y1.length : Int)) (n := ns.length + 1) (by omega) (by omega)
  rw [hi]
  obtain ⟨up, ep, rp⟩ := RepS.upto ru hne (i := i) (by omega)
  refine W.bind ep ?_
  have rn2 := rn.mono l2 fun cs x _ h => GraphNode.Rep.le l2 h
  obtain ⟨vp, σ3, c3, l3, o3⟩ := implGraphBehind_own ht (by simp; omega) rn2 (rp.le l2)
  refine W.run c3 ?_
  have rn3 := rn2.mono l3 fun cs x _ h => GraphNode.Rep.le l3 h
  obtain ⟨vs, σ4, c4, l4, o4⟩ := specGraphBehind_own ht (by omega) rn3 (ru.le (l2.trans l3))
  refine W.run c4 ?_
  have hbl := behOf_len l ns
  have ob4 := o2.le (l3.trans l4)
  refine W.run (wlSame_runs (by omega) ob4.rep o4.rep) ?_
  try simp only [q_bind_some, Option.bind_assoc, castInt_int, q_castBool, q_castStr, q_castPtr, q_castFn, q_castAgg, q_castTuple, q_uncons, q_isNil, q_sl, q_nils, q_emp, q_ptr, q_nilp, q_fn, q_cond_true, q_cond_false, Bool.not_true, Bool.not_false, decide_true, decide_false, castInt_bind, castBool_bind, castStr_bind, castPtr_bind, castFn_bind, castAgg_bind, castTuple_bind, uncons_bind, isNil_bind, one_bind, cond_bind, ite_bind_, List.cons_append, List.nil_append]
  have rn4 := rn3.mono l4 fun cs x _ h => GraphNode.Rep.le l4 h
  obtain ⟨v5, σ5, c5, l5, o5⟩ := implGraphBehind_own ht (by omega) rn4 ob4.rep
  rw [behOf_twice] at o5
  refine W.run c5 ?_
  have ob5 := (ob4.le l5).rep
  refine W.run (wlSame_runs (by omega) o5.rep ob5) ?_
  try simp only [q_bind_some, Option.bind_assoc, castInt_int, q_castBool, q_castStr, q_castPtr, q_castFn, q_castAgg, q_castTuple, q_uncons, q_isNil, q_sl, q_nils, q_emp, q_ptr, q_nilp, q_fn, q_cond_true, q_cond_false, Bool.not_true, Bool.not_false, decide_true, decide_false, castInt_bind, castBool_bind, castStr_bind, castPtr_bind, castFn_bind, castAgg_bind, castTuple_bind, uncons_bind, isNil_bind, one_bind, cond_bind, ite_bind_, List.cons_append, List.nil_append]
  have rn5 := rn4.mono l5 fun cs x _ h => GraphNode.Rep.le l5 h
  have op5 := (o3.le (l4.trans l5)).rep
  have hpl := behOf_len l (ns.take i)
  have hsub : ∀ x, x ∈ behOf l (ns.take i) → x ∈ behOf l ns := fun x hx => by
    unfold behOf at hx ⊢
    by_cases hG : GrOk l
    · rw [if_pos hG] at hx ⊢
      obtain ⟨n, h1, h2, h3⟩ := mem_beh.1 hx
      have hm : ∀ x, x ∈ ns.take i → x ∈ ns := fun x hx => List.mem_of_mem_take hx
      exact mem_beh.2 ⟨n, h1, h2, h3.imp (hm x) (Beh.mono hm)⟩
    · rw [if_neg hG] at hx
      cases hx
  refine W.loop (S := Nat) (fun j => j ≤ (behOf l (ns.take i)).length) (fun j => [.v w, .v u, .v vb, .v vp, .v (.int .i64 (j : Int))]) (fun _ => σ5) (fun j => (behOf l (ns.take i)).length - j) (fun j hj => ?_) 0 (Nat.zero_le _)
  refine W.to (fun k _ => by rw [laws_FnGraphBehind.L0_step]) ?_
  refine B.len op5 (B.ite (fun hlt => ?_) fun hlt => ?_)
  · have hjl : j < (behOf l (ns.take i)).length := by omega
    obtain ⟨r', o', hv, cs, hr, hP⟩ := op5.at hjl
    have hmem := hsub _ (List.getElem_mem hjl)
    unfold StrRep at hP
    subst hP
    try simp only [q_bind_some, castInt_int, q_castBool, q_castStr, q_castPtr, q_castFn, q_castAgg, q_castTuple, q_uncons, q_isNil, q_sl, q_nils, q_emp, q_ptr, q_nilp, q_fn, q_cond_true, q_cond_false, Bool.not_true, Bool.not_false, decide_true, decide_false, List.cons_append, List.nil_append, hv, hr]
    refine B.run (wgPlace_runs (by omega) ob5 _) ?_
    try simp only [q_bind_some, castInt_int, q_castBool, q_castStr, q_castPtr, q_castFn, q_castAgg, q_castTuple, q_uncons, q_isNil, q_sl, q_nils, q_emp, q_ptr, q_nilp, q_fn, q_cond_true, q_cond_false, Bool.not_true, Bool.not_false, decide_true, decide_false, List.cons_append, List.nil_append]
    refine B.ite (fun hx => absurd (place_ge.2 hmem) (by omega)) fun _ => ?_
    try simp only [q_bind_some, castInt_int, q_castBool, q_castStr, q_castPtr, q_castFn, q_castAgg, q_castTuple, q_uncons, q_isNil, q_sl, q_nils, q_emp, q_ptr, q_nilp, q_fn, q_cond_true, q_cond_false, Bool.not_true, Bool.not_false, decide_true, decide_false, List.cons_append, List.nil_append, wrap_next hjl (by omega)]
    exact W.again (j + 1) (by show j + 1 ≤ _; omega) (by omega) rfl rfl
  try simp only [q_bind_some, castInt_int, q_castBool, q_castStr, q_castPtr, q_castFn, q_castAgg, q_castTuple, q_uncons, q_isNil, q_sl, q_nils, q_emp, q_ptr, q_nilp, q_fn, q_cond_true, q_cond_false, Bool.not_true, Bool.not_false, decide_true, decide_false, List.cons_append, List.nil_append, laws_FnGraphBehind.A0_x0]
  refine W.out' _ ?_ fun k j m => rfl
  refine W.loop (S := Nat) (fun j => j ≤ l.length) (fun j => [.v w, .v u, .v vb, .v (.int .i64 (j : Int))]) (fun _ => σ5) (fun j => l.length - j) (fun j hj => ?_) 0 (Nat.zero_le _)
  refine W.to (fun k _ => by rw [laws_FnGraphBehind.L1_step]) ?_
  refine B.len rn5 (B.ite (fun hlt => ?_) fun hlt => ?_)
  rotate_left
  · try simp only [q_bind_some, castInt_int, q_castBool, q_castStr, q_castPtr, q_castFn, q_castAgg, q_castTuple, q_uncons, q_isNil, q_sl, q_nils, q_emp, q_ptr, q_nilp, q_fn, q_cond_true, q_cond_false, Bool.not_true, Bool.not_false, decide_true, decide_false, List.cons_append, List.nil_append, laws_FnGraphBehind.A1_x2]
    exact W.ret rfl
  have hjl : j < l.length := by omega
  refine B.run (specGraphOk_runs (by omega) rn5) ?_
  try simp only [q_bind_some, castInt_int, q_castBool, q_castStr, q_castPtr, q_castFn, q_castAgg, q_castTuple, q_uncons, q_isNil, q_sl, q_nils, q_emp, q_ptr, q_nilp, q_fn, q_cond_true, q_cond_false, Bool.not_true, Bool.not_false, decide_true, decide_false, List.cons_append, List.nil_append]
  by_cases hG : GrOk l
  rotate_left
  · try simp only [q_bind_some, castInt_int, q_castBool, q_castStr, q_castPtr, q_castFn, q_castAgg, q_castTuple, q_uncons, q_isNil, q_sl, q_nils, q_emp, q_ptr, q_nilp, q_fn, q_cond_true, q_cond_false, Bool.not_true, Bool.not_false, decide_true, decide_false, List.cons_append, List.nil_append, decide_eq_false hG, laws_FnGraphBehind.A1_x2]
    exact W.ret rfl
  try simp only [q_bind_some, castInt_int, q_castBool, q_castStr, q_castPtr, q_castFn, q_castAgg, q_castTuple, q_uncons, q_isNil, q_sl, q_nils, q_emp, q_ptr, q_nilp, q_fn, q_cond_true, q_cond_false, Bool.not_true, Bool.not_false, decide_true, decide_false, List.cons_append, List.nil_append, decide_eq_true hG]
  obtain ⟨r', o', hv, cs, hr, hP⟩ := rn5.at hjl
  have hmem := List.getElem_mem hjl
  generalize l[j] = x at hP hmem
  cases hP with
  | mk q0 =>
  have e0 : rdc σ5 r' (o' + 0) 1 = some [.str x.name] := rdc_sub hr 0 1 (by omega)
  try simp only [q_bind_some, castInt_int, q_castBool, q_castStr, q_castPtr, q_castFn, q_castAgg, q_castTuple, q_uncons, q_isNil, q_sl, q_nils, q_emp, q_ptr, q_nilp, q_fn, q_cond_true, q_cond_false, Bool.not_true, Bool.not_false, decide_true, decide_false, List.cons_append, List.nil_append, hv, e0]
  refine B.run (wgPlace_runs (by omega) (ru.le (l2.trans (l3.trans (l4.trans l5)))) x.name) ?_
  try simp only [q_bind_some, castInt_int, q_castBool, q_castStr, q_castPtr, q_castFn, q_castAgg, q_castTuple, q_uncons, q_isNil, q_sl, q_nils, q_emp, q_ptr, q_nilp, q_fn, q_cond_true, q_cond_false, Bool.not_true, Bool.not_false, decide_true, decide_false, List.cons_append, List.nil_append]
  refine B.ite (fun hx => ?_) fun hx => ?_
  · try simp only [q_bind_some, castInt_int, q_castBool, q_castStr, q_castPtr, q_castFn, q_castAgg, q_castTuple, q_uncons, q_isNil, q_sl, q_nils, q_emp, q_ptr, q_nilp, q_fn, q_cond_true, q_cond_false, Bool.not_true, Bool.not_false, decide_true, decide_false, List.cons_append, List.nil_append, hv, e0]
    refine B.run (wgPlace_runs (by omega) ob5 x.name) ?_
    try simp only [q_bind_some, castInt_int, q_castBool, q_castStr, q_castPtr, q_castFn, q_castAgg, q_castTuple, q_uncons, q_isNil, q_sl, q_nils, q_emp, q_ptr, q_nilp, q_fn, q_cond_true, q_cond_false, Bool.not_true, Bool.not_false, decide_true, decide_false, List.cons_append, List.nil_append]
    have hin : x.name ∈ behOf l ns := by
      unfold behOf
      rw [if_pos hG]
      exact mem_beh.2 ⟨x, hmem, rfl, .inl (place_ge.1 hx)⟩
    refine B.ite (fun hx => absurd (place_ge.2 hin) (by omega)) fun _ => ?_
    try simp only [q_bind_some, castInt_int, q_castBool, q_castStr, q_castPtr, q_castFn, q_castAgg, q_castTuple, q_uncons, q_isNil, q_sl, q_nils, q_emp, q_ptr, q_nilp, q_fn, q_cond_true, q_cond_false, Bool.not_true, Bool.not_false, decide_true, decide_false, List.cons_append, List.nil_append, wrap_next hjl (by omega)]
    exact W.again (j + 1) (by show j + 1 ≤ _; omega) (by omega) rfl rfl
  · try simp only [q_bind_some, castInt_int, q_castBool, q_castStr, q_castPtr, q_castFn, q_castAgg, q_castTuple, q_uncons, q_isNil, q_sl, q_nils, q_emp, q_ptr, q_nilp, q_fn, q_cond_true, q_cond_false, Bool.not_true, Bool.not_false, decide_true, decide_false, List.cons_append, List.nil_append, wrap_next hjl (by omega)]
    exact W.again (j + 1) (by show j + 1 ≤ _; omega) (by omega) rfl rfl
end Go.B
