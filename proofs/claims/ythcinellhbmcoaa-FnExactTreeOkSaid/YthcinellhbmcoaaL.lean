/- TreeOk of the program. -/
import Derived.Test.YthcinellhbmcoaaW
import Derived.Test.YthcinellhbmcoaaHMWp
set_option linter.unusedVariables false
set_option linter.unusedSimpArgs false
namespace Go.X3
open Go.HM Go.Proofs
theorem sizesOk_at : ∀ (l : List TreeExpr) (n i : Nat) (x : TreeExpr), l[i]? = some x → sizesOk n l → n + totS TreeExpr.many (l.take i) + x.many ≤ 150 ∧ x.deep ≤ 16
  | y :: l, n, 0, x, hx, h => by
    simp at hx; subst hx
    exact ⟨by simpa [totS] using h.1, h.2.1⟩
  | y :: l, n, i + 1, x, hx, h => by
    have := sizesOk_at l (n + y.many) i x (by simpa using hx) h.2.2
    rw [List.take_succ_cons, totS]
    omega
theorem sizesOk_of : ∀ (l : List TreeExpr) (n : Nat), (∀ i x, l[i]? = some x → n + totS TreeExpr.many (l.take i) + x.many ≤ 150 ∧ x.deep ≤ 16) → sizesOk n l
  | [], n, h => trivial
  | y :: l, n, h => by
    have h0 := h 0 y (by simp)
    refine ⟨by simpa [totS] using h0.1, h0.2, sizesOk_of l _ fun i x hx => ?_⟩
    have := h (i + 1) x (by simpa using hx)
    rw [List.take_succ_cons, totS] at this
    omega
theorem implTreeOk_gives {σ : Heap} {m : TreeMod} (hF : m.Fit) (htot : m.total ≤ 1048576) {cs : List V} (hr : TreeMod.Rep σ cs m) : Gives G n_impl_TreeOk [.agg cs] σ (.bool (decide (ModOk m))) := by
  have htot' := htot
  rw [TreeMod.total_eq] at htot'
  have hb : ∀ x, x ∈ bodies m → x.total ≤ 1048576 := by
    intro x hx
    rcases List.mem_append.1 hx with h | h
    · obtain ⟨f, hf, rfl⟩ := List.mem_map.1 h
      have h1 := totS_mem TreeFun.total hf
      rw [TreeFun.total_eq f] at h1
      omega
    · have := totS_mem TreeExpr.total h
      omega
  have cB : ∀ σ', Lh σ σ' → _ := fun σ' hl => bodies_runs (σ := σ') (m := m) (by omega) (by omega) (TreeMod.Rep.le hl hr)
  cases hF with
  | mk f0 f1 f2 f3 f4 f5 =>
  cases hr with
  | mk h0 h1 h2 =>
  rename_i a1 a2 a3
  have hbf : ∀ x, x ∈ bodies m → x.Fit := by
    intro x hx
    rcases List.mem_append.1 hx with h | h
    · obtain ⟨f, hf, rfl⟩ := List.mem_map.1 h
      have := f3 f hf
      cases this with | mk g0 g1 g2 g3 g4 => exact g4
    · exact f5 x h
  have hno : ∀ {w : V} {σ' : Heap}, ¬ ModOk m → Lh σ σ' → w = .bool (decide (ModOk m)) ∧ Lh σ σ' ∨ True := fun _ _ => .inr trivial
  apply Gives.of
  refine W.to (fun k _ => impl_TreeOk.eq k _ _ _ _) ?_
  refine W.len h0 (W.ite (fun k1 => W.ret ⟨?_, Lh.refl σ⟩) fun k1 => ?_)
  · have : ¬ ModOk m := fun h => by have := h.1; omega
    simp [this]
  refine W.len h1 (W.ite (fun k2 => W.ret ⟨?_, Lh.refl σ⟩) fun k2 => ?_)
  · have : ¬ ModOk m := fun h => by have := h.2.1; omega
    simp [this]
  refine W.len h2 (W.ite (fun k3 => W.ret ⟨?_, Lh.refl σ⟩) fun k3 => ?_)
  · have : ¬ ModOk m := fun h => by have := h.2.2.1; omega
    simp [this]
  refine W.give (areNames_gives σ h0 f0 f1) fun σ1 l1 => ?_
  simp only [Option.bind_some, Option.bind_assoc, castInt_int, castBool_bool, castStr_str, castPtr_ptr, castFn_fn, castAgg_agg, castTuple_tuple, uncons_cons, isNil_nil, one_sl, one_nils, one_emp, one_ptr, one_nilp, one_fn, cond_true, cond_false, Bool.not_true, Bool.not_false, decide_true, decide_false, castInt_bind, castBool_bind, castStr_bind, castPtr_bind, castFn_bind, castAgg_bind, castTuple_bind, uncons_bind, isNil_bind, one_bind, cond_bind, ite_bind_, List.cons_append, List.nil_append]
  by_cases hU : AllNames m.uses
  rotate_left
  · have : ¬ ModOk m := fun h => hU h.2.2.2.1
    simp only [Option.bind_some, Option.bind_assoc, castInt_int, castBool_bool, castStr_str, castPtr_ptr, castFn_fn, castAgg_agg, castTuple_tuple, uncons_cons, isNil_nil, one_sl, one_nils, one_emp, one_ptr, one_nilp, one_fn, cond_true, cond_false, Bool.not_true, Bool.not_false, decide_true, decide_false, castInt_bind, castBool_bind, castStr_bind, castPtr_bind, castFn_bind, castAgg_bind, castTuple_bind, uncons_bind, isNil_bind, one_bind, cond_bind, ite_bind_, List.cons_append, List.nil_append, hU]
    exact W.ret ⟨by simp [this], l1⟩
  simp only [Option.bind_some, Option.bind_assoc, castInt_int, castBool_bool, castStr_str, castPtr_ptr, castFn_fn, castAgg_agg, castTuple_tuple, uncons_cons, isNil_nil, one_sl, one_nils, one_emp, one_ptr, one_nilp, one_fn, cond_true, cond_false, Bool.not_true, Bool.not_false, decide_true, decide_false, castInt_bind, castBool_bind, castStr_bind, castPtr_bind, castFn_bind, castAgg_bind, castTuple_bind, uncons_bind, isNil_bind, one_bind, cond_bind, ite_bind_, List.cons_append, List.nil_append, hU]
  refine W.len h1 ?_
  refine W.loop (S := Nat × V × Heap) (fun s => s.1 ≤ m.funs.length ∧ Lh σ1 s.2.2 ∧ Grown σ1.length 1 StrRep s.2.2 s.2.1 ((m.funs.take s.1).map (·.name)) ∧ ∀ f, f ∈ m.funs.take s.1 → HeadOk f)
    (fun s => [.box [a1, a2, a3], .v s.2.1, .v (.int .i64 0), .v a2, .v (.int .i64 (m.funs.length : Int)), .v (.int .i64 (s.1 : Int))]) (fun s => s.2.2) (fun s => m.funs.length - s.1) (fun ⟨i, u, σi⟩ ⟨hi, hle, hg, hok⟩ => ?_)
    (0, .sl σ1.length 0 0 true, hnew σ1 1 []) ⟨Nat.zero_le _, Lh.new _ _ _, Grown.start σ1 1 StrRep true, fun f hf => by simp at hf⟩
  simp only at hi hle hg hok ⊢
  have hle0 := l1.trans hle
  refine W.to (fun k _ => by rw [impl_TreeOk.L0_step]) ?_
  simp only [Option.bind_some, Option.bind_assoc, castInt_int, castBool_bool, castStr_str, castPtr_ptr, castFn_fn, castAgg_agg, castTuple_tuple, uncons_cons, isNil_nil, one_sl, one_nils, one_emp, one_ptr, one_nilp, one_fn, cond_true, cond_false, Bool.not_true, Bool.not_false, decide_true, decide_false, castInt_bind, castBool_bind, castStr_bind, castPtr_bind, castFn_bind, castAgg_bind, castTuple_bind, uncons_bind, isNil_bind, one_bind, cond_bind, ite_bind_, List.cons_append, List.nil_append]
  refine W.ite (fun hlt => ?_) fun hlt => ?_
  · refine W.at h1 hle0 (by omega) fun r o cs x hx hr hP => ?_
    have hm : x ∈ m.funs := List.mem_of_getElem? hx
    have hfit := f3 _ hm
    have ht := take_next' hx
    have hli : ((m.funs.take i).map (·.name)).length ≤ 8 := by rw [List.length_map, List.length_take]; omega
    have hxt : x.total ≤ 1048576 := by have := totS_mem TreeFun.total hm; omega
    cases hP with
    | mk q0 q1 =>
    simp only [Option.bind_some, Option.bind_assoc, castInt_int, castBool_bool, castStr_str, castPtr_ptr, castFn_fn, castAgg_agg, castTuple_tuple, uncons_cons, isNil_nil, one_sl, one_nils, one_emp, one_ptr, one_nilp, one_fn, cond_true, cond_false, Bool.not_true, Bool.not_false, decide_true, decide_false, castInt_bind, castBool_bind, castStr_bind, castPtr_bind, castFn_bind, castAgg_bind, castTuple_bind, uncons_bind, isNil_bind, one_bind, cond_bind, ite_bind_, List.cons_append, List.nil_append, hr]
    refine W.app hg (Chunks.one (P := StrRep) (cs := [.str x.name]) (x := x.name) rfl) rfl (by simp only [List.length_singleton]; omega) (by simp only [List.length_singleton]; omega) fun u' σ2 hg' hk => ?_
    have hl2 := hk σ1 (Nat.le_refl _) hle
    have hl3 := l1.trans hl2
    have q0' : RepS 2 (TreeArg.Rep σ2) σ2 _ _ := q0.mono hl3 fun cs x _ h => TreeArg.Rep.le hl3 h
    refine W.len q0' (W.ite (fun k4 => ?_) fun k4 => ?_)
    · have : ¬ ModOk m := fun h => by have := ((modOk_iff m).1 h).2.2.2.2.1 x hm; have := this.1; omega
      simp only [Option.bind_some, Option.bind_assoc, castInt_int, castBool_bool, castStr_str, castPtr_ptr, castFn_fn, castAgg_agg, castTuple_tuple, uncons_cons, isNil_nil, one_sl, one_nils, one_emp, one_ptr, one_nilp, one_fn, cond_true, cond_false, Bool.not_true, Bool.not_false, decide_true, decide_false, castInt_bind, castBool_bind, castStr_bind, castPtr_bind, castFn_bind, castAgg_bind, castTuple_bind, uncons_bind, isNil_bind, one_bind, cond_bind, ite_bind_, List.cons_append, List.nil_append, impl_TreeOk.A0_ret]
      exact W.ret ⟨by simp [this], hl3⟩
    obtain ⟨v1, σ3, σ4, σ5, b, l3, l4, l5, c1, c2, c3, hbt⟩ := headOk_step hfit hxt q0' (by omega)
    have hno : ¬ HeadOk x → ¬ ModOk m := fun hn h => hn (((modOk_iff m).1 h).2.2.2.2.1 x hm)
    refine W.run (c1) ?_
    refine W.run (c2) ?_
    simp only [Option.bind_some, Option.bind_assoc, castInt_int, castBool_bool, castStr_str, castPtr_ptr, castFn_fn, castAgg_agg, castTuple_tuple, uncons_cons, isNil_nil, one_sl, one_nils, one_emp, one_ptr, one_nilp, one_fn, cond_true, cond_false, Bool.not_true, Bool.not_false, decide_true, decide_false, castInt_bind, castBool_bind, castStr_bind, castPtr_bind, castFn_bind, castAgg_bind, castTuple_bind, uncons_bind, isNil_bind, one_bind, cond_bind, ite_bind_, List.cons_append, List.nil_append]
    by_cases hA : AllNames (x.args.map (·.name))
    rotate_left
    · have := hno fun h => hA h.2.1
      simp only [Option.bind_some, Option.bind_assoc, castInt_int, castBool_bool, castStr_str, castPtr_ptr, castFn_fn, castAgg_agg, castTuple_tuple, uncons_cons, isNil_nil, one_sl, one_nils, one_emp, one_ptr, one_nilp, one_fn, cond_true, cond_false, Bool.not_true, Bool.not_false, decide_true, decide_false, castInt_bind, castBool_bind, castStr_bind, castPtr_bind, castFn_bind, castAgg_bind, castTuple_bind, uncons_bind, isNil_bind, one_bind, cond_bind, ite_bind_, List.cons_append, List.nil_append, hA, impl_TreeOk.A0_ret]
      exact W.ret ⟨by simp [this], hl3.trans (l3.trans l4)⟩
    simp only [Option.bind_some, Option.bind_assoc, castInt_int, castBool_bool, castStr_str, castPtr_ptr, castFn_fn, castAgg_agg, castTuple_tuple, uncons_cons, isNil_nil, one_sl, one_nils, one_emp, one_ptr, one_nilp, one_fn, cond_true, cond_false, Bool.not_true, Bool.not_false, decide_true, decide_false, castInt_bind, castBool_bind, castStr_bind, castPtr_bind, castFn_bind, castAgg_bind, castTuple_bind, uncons_bind, isNil_bind, one_bind, cond_bind, ite_bind_, List.cons_append, List.nil_append, hA]
    refine W.run (isType_runs x.type) ?_
    simp only [Option.bind_some, Option.bind_assoc, castInt_int, castBool_bool, castStr_str, castPtr_ptr, castFn_fn, castAgg_agg, castTuple_tuple, uncons_cons, isNil_nil, one_sl, one_nils, one_emp, one_ptr, one_nilp, one_fn, cond_true, cond_false, Bool.not_true, Bool.not_false, decide_true, decide_false, castInt_bind, castBool_bind, castStr_bind, castPtr_bind, castFn_bind, castAgg_bind, castTuple_bind, uncons_bind, isNil_bind, one_bind, cond_bind, ite_bind_, List.cons_append, List.nil_append]
    by_cases hT : 1 ≤ x.type ∧ x.type ≤ 3
    rotate_left
    · have := hno fun h => hT h.2.2.1
      simp only [Option.bind_some, Option.bind_assoc, castInt_int, castBool_bool, castStr_str, castPtr_ptr, castFn_fn, castAgg_agg, castTuple_tuple, uncons_cons, isNil_nil, one_sl, one_nils, one_emp, one_ptr, one_nilp, one_fn, cond_true, cond_false, Bool.not_true, Bool.not_false, decide_true, decide_false, castInt_bind, castBool_bind, castStr_bind, castPtr_bind, castFn_bind, castAgg_bind, castTuple_bind, uncons_bind, isNil_bind, one_bind, cond_bind, ite_bind_, List.cons_append, List.nil_append, hT, impl_TreeOk.A0_ret]
      exact W.ret ⟨by simp [this], hl3.trans (l3.trans l4)⟩
    simp only [Option.bind_some, Option.bind_assoc, castInt_int, castBool_bool, castStr_str, castPtr_ptr, castFn_fn, castAgg_agg, castTuple_tuple, uncons_cons, isNil_nil, one_sl, one_nils, one_emp, one_ptr, one_nilp, one_fn, cond_true, cond_false, Bool.not_true, Bool.not_false, decide_true, decide_false, castInt_bind, castBool_bind, castStr_bind, castPtr_bind, castFn_bind, castAgg_bind, castTuple_bind, uncons_bind, isNil_bind, one_bind, cond_bind, ite_bind_, List.cons_append, List.nil_append, hT, and_self]
    refine W.run (c3) ?_
    simp only [Option.bind_some, Option.bind_assoc, castInt_int, castBool_bool, castStr_str, castPtr_ptr, castFn_fn, castAgg_agg, castTuple_tuple, uncons_cons, isNil_nil, one_sl, one_nils, one_emp, one_ptr, one_nilp, one_fn, cond_true, cond_false, Bool.not_true, Bool.not_false, decide_true, decide_false, castInt_bind, castBool_bind, castStr_bind, castPtr_bind, castFn_bind, castAgg_bind, castTuple_bind, uncons_bind, isNil_bind, one_bind, cond_bind, ite_bind_, List.cons_append, List.nil_append]
    cases b with
    | true =>
      have := hno fun h => by have := hbt.2 h.2.2.2; cases this
      simp only [Option.bind_some, Option.bind_assoc, castInt_int, castBool_bool, castStr_str, castPtr_ptr, castFn_fn, castAgg_agg, castTuple_tuple, uncons_cons, isNil_nil, one_sl, one_nils, one_emp, one_ptr, one_nilp, one_fn, cond_true, cond_false, Bool.not_true, Bool.not_false, decide_true, decide_false, castInt_bind, castBool_bind, castStr_bind, castPtr_bind, castFn_bind, castAgg_bind, castTuple_bind, uncons_bind, isNil_bind, one_bind, cond_bind, ite_bind_, List.cons_append, List.nil_append, impl_TreeOk.A0_ret]
      exact W.ret ⟨by simp [this], hl3.trans (l3.trans (l4.trans l5))⟩
    | false =>
      simp only [Option.bind_some, Option.bind_assoc, castInt_int, castBool_bool, castStr_str, castPtr_ptr, castFn_fn, castAgg_agg, castTuple_tuple, uncons_cons, isNil_nil, one_sl, one_nils, one_emp, one_ptr, one_nilp, one_fn, cond_true, cond_false, Bool.not_true, Bool.not_false, decide_true, decide_false, castInt_bind, castBool_bind, castStr_bind, castPtr_bind, castFn_bind, castAgg_bind, castTuple_bind, uncons_bind, isNil_bind, one_bind, cond_bind, ite_bind_, List.cons_append, List.nil_append, wrap_next (show i < m.funs.length by omega) (by omega)]
      refine W.again (i + 1, u', _) ⟨by show i + 1 ≤ m.funs.length; omega, hl2.trans (l3.trans (l4.trans l5)), ?_, fun y hy => ?_⟩ (by simp only; omega) rfl rfl
      · simp only
        rw [ht, List.map_append]
        exact hg'.le (l3.trans (l4.trans l5))
      · simp only at hy
        rw [ht] at hy
        rcases List.mem_append.1 hy with h | h
        · exact hok y h
        · simp at h; rw [h]; exact ⟨by omega, hA, hT, hbt.1 rfl⟩
  · rw [List.take_of_length_le (by omega)] at hg hok
    simp only [Option.bind_some, Option.bind_assoc, castInt_int, castBool_bool, castStr_str, castPtr_ptr, castFn_fn, castAgg_agg, castTuple_tuple, uncons_cons, isNil_nil, one_sl, one_nils, one_emp, one_ptr, one_nilp, one_fn, cond_true, cond_false, Bool.not_true, Bool.not_false, decide_true, decide_false, castInt_bind, castBool_bind, castStr_bind, castPtr_bind, castFn_bind, castAgg_bind, castTuple_bind, uncons_bind, isNil_bind, one_bind, cond_bind, ite_bind_, List.cons_append, List.nil_append, impl_TreeOk.A0_x0]
    obtain ⟨vb, σ2, l2, hB, cb⟩ := cB σi hle0
    refine W.run (cb) ?_
    refine W.len hB ?_
    have hg2 := hg.le l2
    refine W.loop (S := Nat × Heap) (fun s => s.1 ≤ (bodies m).length ∧ Lh σ2 s.2 ∧ ∀ j x, j < s.1 → (bodies m)[j]? = some x → 0 + totS TreeExpr.many ((bodies m).take j) + x.many ≤ 150 ∧ x.deep ≤ 16 ∧ Right x)
      (fun s => [.v u, .v (.int .i64 (totS TreeExpr.many ((bodies m).take s.1) : Nat)), .v vb, .v (.int .i64 ((bodies m).length : Int)), .v (.int .i64 (s.1 : Int))]) (fun s => s.2) (fun s => (bodies m).length - s.1) (fun ⟨j, σj⟩ ⟨hj, hlj, hokj⟩ => ?_)
      (0, σ2) ⟨Nat.zero_le _, Lh.refl _, fun j x hj => absurd hj (Nat.not_lt_zero _)⟩
    simp only at hj hlj hokj ⊢
    have hlj0 := hle0.trans (l2.trans hlj)
    refine W.to (fun k _ => by rw [impl_TreeOk.L1_step]) ?_
    simp only [Option.bind_some, Option.bind_assoc, castInt_int, castBool_bool, castStr_str, castPtr_ptr, castFn_fn, castAgg_agg, castTuple_tuple, uncons_cons, isNil_nil, one_sl, one_nils, one_emp, one_ptr, one_nilp, one_fn, cond_true, cond_false, Bool.not_true, Bool.not_false, decide_true, decide_false, castInt_bind, castBool_bind, castStr_bind, castPtr_bind, castFn_bind, castAgg_bind, castTuple_bind, uncons_bind, isNil_bind, one_bind, cond_bind, ite_bind_, List.cons_append, List.nil_append]
    refine W.ite (fun hlt => ?_) fun hlt => ?_
    · refine W.at hB hlj (by omega) fun r o cs x hx hr hP => ?_
      have hm : x ∈ bodies m := List.mem_of_getElem? hx
      have hP' := TreeExpr.Rep.le hlj x hP
      have hno : (¬ (0 + totS TreeExpr.many ((bodies m).take j) + x.many ≤ 150 ∧ x.deep ≤ 16) ∨ ¬ Right x) → ¬ ModOk m := fun hn h => by
        have h' := (modOk_iff m).1 h
        rcases hn with hn | hn
        · exact hn (sizesOk_at _ 0 j x hx h'.2.2.2.2.2.1)
        · exact hn (h'.2.2.2.2.2.2.1 x hm)
      have hxt := hb x hm
      have hmany := TreeExpr.many_le x
      have hsum : totS TreeExpr.many ((bodies m).take j) ≤ 150 := by
        rcases Nat.eq_zero_or_pos j with h | h
        · subst h; simp [totS]
        · have hlt' : j - 1 < (bodies m).length := by omega
          have h1 := hokj (j - 1) _ (by omega) (List.getElem?_eq_getElem hlt')
          have h2 := take_next hlt'
          have h3 : j - 1 + 1 = j := by omega
          rw [h3] at h2
          rw [h2, totS_append, totS, totS]
          omega
      obtain ⟨b, hbb, ceo⟩ := exprOk_gives x (hbf x hm) hxt hP'
      have cn := implTreeNodes_runs x hxt hP'
      cases hP with
      | mk q =>
      simp only [Option.bind_some, Option.bind_assoc, castInt_int, castBool_bool, castStr_str, castPtr_ptr, castFn_fn, castAgg_agg, castTuple_tuple, uncons_cons, isNil_nil, one_sl, one_nils, one_emp, one_ptr, one_nilp, one_fn, cond_true, cond_false, Bool.not_true, Bool.not_false, decide_true, decide_false, castInt_bind, castBool_bind, castStr_bind, castPtr_bind, castFn_bind, castAgg_bind, castTuple_bind, uncons_bind, isNil_bind, one_bind, cond_bind, ite_bind_, List.cons_append, List.nil_append, hr]
      refine W.run (cn) ?_
      have hw : IntKind.wrap .i64 (((totS TreeExpr.many ((bodies m).take j) : Nat) : Int) + (x.many : Int)) = ((totS TreeExpr.many ((bodies m).take j) + x.many : Nat) : Int) := by
        rw [wrap_id (by omega) (by omega)]; omega
      simp only [Option.bind_some, Option.bind_assoc, castInt_int, castBool_bool, castStr_str, castPtr_ptr, castFn_fn, castAgg_agg, castTuple_tuple, uncons_cons, isNil_nil, one_sl, one_nils, one_emp, one_ptr, one_nilp, one_fn, cond_true, cond_false, Bool.not_true, Bool.not_false, decide_true, decide_false, castInt_bind, castBool_bind, castStr_bind, castPtr_bind, castFn_bind, castAgg_bind, castTuple_bind, uncons_bind, isNil_bind, one_bind, cond_bind, ite_bind_, List.cons_append, List.nil_append, hw]
      refine W.ite (fun k5 => ?_) fun k5 => ?_
      · have := hno (.inl fun h => by omega)
        simp only [Option.bind_some, Option.bind_assoc, castInt_int, castBool_bool, castStr_str, castPtr_ptr, castFn_fn, castAgg_agg, castTuple_tuple, uncons_cons, isNil_nil, one_sl, one_nils, one_emp, one_ptr, one_nilp, one_fn, cond_true, cond_false, Bool.not_true, Bool.not_false, decide_true, decide_false, castInt_bind, castBool_bind, castStr_bind, castPtr_bind, castFn_bind, castAgg_bind, castTuple_bind, uncons_bind, isNil_bind, one_bind, cond_bind, ite_bind_, List.cons_append, List.nil_append, impl_TreeOk.A1_ret]
        exact W.ret ⟨by simp [this], hlj0⟩
      refine W.give ceo fun σ6 l6 => ?_
      simp only [Option.bind_some, Option.bind_assoc, castInt_int, castBool_bool, castStr_str, castPtr_ptr, castFn_fn, castAgg_agg, castTuple_tuple, uncons_cons, isNil_nil, one_sl, one_nils, one_emp, one_ptr, one_nilp, one_fn, cond_true, cond_false, Bool.not_true, Bool.not_false, decide_true, decide_false, castInt_bind, castBool_bind, castStr_bind, castPtr_bind, castFn_bind, castAgg_bind, castTuple_bind, uncons_bind, isNil_bind, one_bind, cond_bind, ite_bind_, List.cons_append, List.nil_append]
      cases b with
      | false =>
        have : ¬ ModOk m := by
          by_cases hR : Right x
          · refine hno (.inl fun h => ?_)
            have := hbb.2 ⟨by omega, h.2, hR⟩
            cases this
          · exact hno (.inr hR)
        simp only [Option.bind_some, Option.bind_assoc, castInt_int, castBool_bool, castStr_str, castPtr_ptr, castFn_fn, castAgg_agg, castTuple_tuple, uncons_cons, isNil_nil, one_sl, one_nils, one_emp, one_ptr, one_nilp, one_fn, cond_true, cond_false, Bool.not_true, Bool.not_false, decide_true, decide_false, castInt_bind, castBool_bind, castStr_bind, castPtr_bind, castFn_bind, castAgg_bind, castTuple_bind, uncons_bind, isNil_bind, one_bind, cond_bind, ite_bind_, List.cons_append, List.nil_append, impl_TreeOk.A1_ret]
        exact W.ret ⟨by simp [this], hlj0.trans l6⟩
      | true =>
        have hbx := hbb.1 rfl
        simp only [Option.bind_some, Option.bind_assoc, castInt_int, castBool_bool, castStr_str, castPtr_ptr, castFn_fn, castAgg_agg, castTuple_tuple, uncons_cons, isNil_nil, one_sl, one_nils, one_emp, one_ptr, one_nilp, one_fn, cond_true, cond_false, Bool.not_true, Bool.not_false, decide_true, decide_false, castInt_bind, castBool_bind, castStr_bind, castPtr_bind, castFn_bind, castAgg_bind, castTuple_bind, uncons_bind, isNil_bind, one_bind, cond_bind, ite_bind_, List.cons_append, List.nil_append, wrap_next (show j < (bodies m).length by omega) (by simp [bodies]; omega)]
        have ht := take_next' hx
        refine W.again (j + 1, σ6) ⟨by show j + 1 ≤ (bodies m).length; omega, hlj.trans l6, fun i y hi hy => ?_⟩ (by simp only; omega) ?_ rfl
        · simp only at hi
          by_cases hij : i = j
          · subst hij
            rw [hx] at hy
            injection hy with hy
            subst hy
            exact ⟨by omega, hbx.2.1, hbx.2.2⟩
          · exact hokj i y (by omega) hy
        · simp only
          rw [ht, totS_append, totS, totS]
          rfl
    · simp only [Option.bind_some, Option.bind_assoc, castInt_int, castBool_bool, castStr_str, castPtr_ptr, castFn_fn, castAgg_agg, castTuple_tuple, uncons_cons, isNil_nil, one_sl, one_nils, one_emp, one_ptr, one_nilp, one_fn, cond_true, cond_false, Bool.not_true, Bool.not_false, decide_true, decide_false, castInt_bind, castBool_bind, castStr_bind, castPtr_bind, castFn_bind, castAgg_bind, castTuple_bind, uncons_bind, isNil_bind, one_bind, cond_bind, ite_bind_, List.cons_append, List.nil_append, impl_TreeOk.A1_x2]
      have hR : RepS 1 StrRep σj u (m.funs.map (·.name)) := (hg2.le hlj).rep fun cs x _ h => h
      refine W.give (areNames_gives σj hR (by rw [List.length_map]; omega) (fun x hx => by
          obtain ⟨f, hf, rfl⟩ := List.mem_map.1 hx
          have := f3 f hf
          cases this with | mk g0 => exact g0)) fun σ7 l7 => ?_
      simp only [Option.bind_some, Option.bind_assoc, castInt_int, castBool_bool, castStr_str, castPtr_ptr, castFn_fn, castAgg_agg, castTuple_tuple, uncons_cons, isNil_nil, one_sl, one_nils, one_emp, one_ptr, one_nilp, one_fn, cond_true, cond_false, Bool.not_true, Bool.not_false, decide_true, decide_false, castInt_bind, castBool_bind, castStr_bind, castPtr_bind, castFn_bind, castAgg_bind, castTuple_bind, uncons_bind, isNil_bind, one_bind, cond_bind, ite_bind_, List.cons_append, List.nil_append]
      have hall : ∀ i x, (bodies m)[i]? = some x → 0 + totS TreeExpr.many ((bodies m).take i) + x.many ≤ 150 ∧ x.deep ≤ 16 ∧ Right x := fun i x hx => hokj i x (by have := lt_of_get hx; omega) hx
      have hiff : ModOk m ↔ AllNames (m.funs.map (·.name)) := by
        rw [modOk_iff]
        constructor
        · intro h; exact h.2.2.2.2.2.2.2
        · intro h
          refine ⟨by omega, by omega, by omega, hU, hok, sizesOk_of _ 0 fun i x hx => ⟨(hall i x hx).1, (hall i x hx).2.1⟩, fun e he => ?_, h⟩
          obtain ⟨i, hi, rfl⟩ := List.getElem_of_mem he
          exact (hall i _ (List.getElem?_eq_getElem hi)).2.2
      exact W.ret ⟨by simp [hiff], hlj0.trans l7⟩
end Go.X3
