/- The contracts of this claim, laid together: part 1. -/
import Derived.Test.YtjadancpencnnaaDoorMany0
import Derived.Test.YtjadancpencnnaaDoorHMWp
import Derived.Test.YtjadancpencnnaaDoorHMMark
import Derived.Test.YtjadancpencnnaaDoorHMOwn
import Derived.Test.YtjadancpencnnaaDoorOFnExactTreePrint
/- TreeOk of the program. -/
set_option linter.unusedVariables false
set_option linter.unusedSimpArgs false
namespace Go.D
open Go.HM Go.Proofs
theorem sizesOk_at : ∀ (l : List TreeExpr) (n i : Nat) (x : TreeExpr), l[i]? = some x → sizesOk n l → n + totS TreeExpr.many (l.take i) + x.many ≤ 150 ∧ x.deep ≤ 16
  | y :: l, n, 0, x, hx, h => by
    simp at hx; subst hx
    exact ⟨by simpa [totS] using h.1, h.2.1⟩
  | y :: l, n, i + 1, x, hx, h => by
    have := sizesOk_at l (n + y.many) i x (by simpa using hx) h.2.2
    rw [List.take_succ_cons, totS]
    omega
theorem sizesOk_of : ∀ (l : List TreeExpr) (n : Nat), (∀ i x, l[i]? = some x → n + totS TreeExpr.many (l.take i) + x.many ≤ 150 ∧ x.deep ≤ 16) → sizesOk n l
  | [], n, h => trivial
  | y :: l, n, h => by
    have h0 := h 0 y (by simp)
    refine ⟨by simpa [totS] using h0.1, h0.2, sizesOk_of l _ fun i x hx => ?_⟩
    have := h (i + 1) x (by simpa using hx)
    rw [List.take_succ_cons, totS] at this
    omega
theorem implTreeOk_gives {σ : Heap} {m : TreeMod} (hF : m.Fit) (htot : m.total ≤ 1048576) {cs : List V} (hr : TreeMod.Rep σ cs m) : Gives G n_impl_TreeOk [.agg cs] σ (.bool (decide (ModOk m))) := by
  have htot' := htot
  rw [TreeMod.total_eq] at htot'
  have hb : ∀ x, x ∈ bodies m → x.total ≤ 1048576 := by
    intro x hx
    rcases List.mem_append.1 hx with h | h
    · obtain ⟨f, hf, rfl⟩ := List.mem_map.1 h
      have h1 := totS_mem TreeFun.total hf
      rw [TreeFun.total_eq f] at h1
      omega
    · have := totS_mem TreeExpr.total h
      omega
  have cB : ∀ σ', Lh σ σ' → _ := fun σ' hl => bodies_runs (σ := σ') (m := m) (by omega) (by omega) (TreeMod.Rep.le hl hr)
  cases hF with
  | mk f0 f1 f2 f3 f4 f5 =>
  cases hr with
  | mk h0 h1 h2 =>
  rename_i a1 a2 a3
  have hbf : ∀ x, x ∈ bodies m → x.Fit := by
    intro x hx
    rcases List.mem_append.1 hx with h | h
    · obtain ⟨f, hf, rfl⟩ := List.mem_map.1 h
      have := f3 f hf
      cases this with | mk g0 g1 g2 g3 g4 => exact g4
    · exact f5 x h
  have hno : ∀ {w : V} {σ' : Heap}, ¬ ModOk m → Lh σ σ' → w = .bool (decide (ModOk m)) ∧ Lh σ σ' ∨ True := fun _ _ => .inr trivial
  apply Gives.of
  refine W.to (fun k _ => impl_TreeOk.eq k _ _ _ _) ?_
  refine W.len h0 (W.ite (fun k1 => W.ret ⟨?_, Lh.refl σ⟩) fun k1 => ?_)
  · have : ¬ ModOk m := fun h => by have := h.1; omega
    simp [this]
  refine W.len h1 (W.ite (fun k2 => W.ret ⟨?_, Lh.refl σ⟩) fun k2 => ?_)
  · have : ¬ ModOk m := fun h => by have := h.2.1; omega
    simp [this]
  refine W.len h2 (W.ite (fun k3 => W.ret ⟨?_, Lh.refl σ⟩) fun k3 => ?_)
  · have : ¬ ModOk m := fun h => by have := h.2.2.1; omega
    simp [this]
  refine W.give (areNames_gives σ h0 f0 f1) fun σ1 l1 => ?_
  try simp only [q_bind_some, Option.bind_assoc, castInt_int, q_castBool, q_castStr, q_castPtr, q_castFn, q_castAgg, q_castTuple, q_uncons, q_isNil, q_sl, q_nils, q_emp, q_ptr, q_nilp, q_fn, q_cond_true, q_cond_false, Bool.not_true, Bool.not_false, decide_true, decide_false, castInt_bind, castBool_bind, castStr_bind, castPtr_bind, castFn_bind, castAgg_bind, castTuple_bind, uncons_bind, isNil_bind, one_bind, cond_bind, ite_bind_, List.cons_append, List.nil_append]
  by_cases hU : AllNames m.uses
  rotate_left
  · have : ¬ ModOk m := fun h => hU h.2.2.2.1
    try simp only [q_bind_some, Option.bind_assoc, castInt_int, q_castBool, q_castStr, q_castPtr, q_castFn, q_castAgg, q_castTuple, q_uncons, q_isNil, q_sl, q_nils, q_emp, q_ptr, q_nilp, q_fn, q_cond_true, q_cond_false, Bool.not_true, Bool.not_false, decide_true, decide_false, castInt_bind, castBool_bind, castStr_bind, castPtr_bind, castFn_bind, castAgg_bind, castTuple_bind, uncons_bind, isNil_bind, one_bind, cond_bind, ite_bind_, List.cons_append, List.nil_append, hU]
    exact W.ret ⟨by simp [this], l1⟩
  try simp only [q_bind_some, Option.bind_assoc, castInt_int, q_castBool, q_castStr, q_castPtr, q_castFn, q_castAgg, q_castTuple, q_uncons, q_isNil, q_sl, q_nils, q_emp, q_ptr, q_nilp, q_fn, q_cond_true, q_cond_false, Bool.not_true, Bool.not_false, decide_true, decide_false, castInt_bind, castBool_bind, castStr_bind, castPtr_bind, castFn_bind, castAgg_bind, castTuple_bind, uncons_bind, isNil_bind, one_bind, cond_bind, ite_bind_, List.cons_append, List.nil_append, hU]
  refine W.len h1 ?_
  refine W.loop (S := Nat × V × Heap) (fun s => s.1 ≤ m.funs.length ∧ Lh σ1 s.2.2 ∧ Grown σ1.length 1 StrRep s.2.2 s.2.1 ((m.funs.take s.1).map (·.name)) ∧ ∀ f, f ∈ m.funs.take s.1 → HeadOk f)
    (fun s => [.box [a1, a2, a3], .v s.2.1, .v (.int .i64 0), .v a2, .v (.int .i64 (m.funs.length : Int)), .v (.int .i64 (s.1 : Int))]) (fun s => s.2.2) (fun s => m.funs.length - s.1) (fun ⟨i, u, σi⟩ ⟨hi, hle, hg, hok⟩ => ?_)
    (0, .sl σ1.length 0 0 true, hnew σ1 1 []) ⟨Nat.zero_le _, Lh.new _ _ _, Grown.start σ1 1 StrRep true, fun f hf => by simp at hf⟩
  simp only at hi hle hg hok ⊢
  have hle0 := l1.trans hle
  refine W.to (fun k _ => by rw [impl_TreeOk.L0_step]) ?_
  try simp only [q_bind_some, Option.bind_assoc, castInt_int, q_castBool, q_castStr, q_castPtr, q_castFn, q_castAgg, q_castTuple, q_uncons, q_isNil, q_sl, q_nils, q_emp, q_ptr, q_nilp, q_fn, q_cond_true, q_cond_false, Bool.not_true, Bool.not_false, decide_true, decide_false, castInt_bind, castBool_bind, castStr_bind, castPtr_bind, castFn_bind, castAgg_bind, castTuple_bind, uncons_bind, isNil_bind, one_bind, cond_bind, ite_bind_, List.cons_append, List.nil_append]
  refine W.ite (fun hlt => ?_) fun hlt => ?_
  · refine W.at h1 hle0 (by omega) fun r o cs x hx hr hP => ?_
    have hm : x ∈ m.funs := List.mem_of_getElem? hx
    have hfit := f3 _ hm
    have ht := take_next' hx
    have hli : ((m.funs.take i).map (·.name)).length ≤ 8 := by rw [List.length_map, List.length_take]; omega
    have hxt : x.total ≤ 1048576 := by have := totS_mem TreeFun.total hm; omega
    cases hP with
    | mk q0 q1 =>
    try simp only [q_bind_some, Option.bind_assoc, castInt_int, q_castBool, q_castStr, q_castPtr, q_castFn, q_castAgg, q_castTuple, q_uncons, q_isNil, q_sl, q_nils, q_emp, q_ptr, q_nilp, q_fn, q_cond_true, q_cond_false, Bool.not_true, Bool.not_false, decide_true, decide_false, castInt_bind, castBool_bind, castStr_bind, castPtr_bind, castFn_bind, castAgg_bind, castTuple_bind, uncons_bind, isNil_bind, one_bind, cond_bind, ite_bind_, List.cons_append, List.nil_append, hr]
    refine W.app hg (Chunks.one (P := StrRep) (cs := [.str x.name]) (x := x.name) rfl) rfl (by simp only [List.length_singleton]; omega) (by simp only [List.length_singleton]; omega) fun u' σ2 hg' hk => ?_
    have hl2 := hk σ1 (Nat.le_refl _) hle
    have hl3 := l1.trans hl2
    have q0' : RepS 2 (TreeArg.Rep σ2) σ2 _ _ := q0.mono hl3 fun cs x _ h => TreeArg.Rep.le hl3 h
    refine W.len q0' (W.ite (fun k4 => ?_) fun k4 => ?_)
    · have : ¬ ModOk m := fun h => by have := ((modOk_iff m).1 h).2.2.2.2.1 x hm; have := this.1; omega
      try simp only [q_bind_some, Option.bind_assoc, castInt_int, q_castBool, q_castStr, q_castPtr, q_castFn, q_castAgg, q_castTuple, q_uncons, q_isNil, q_sl, q_nils, q_emp, q_ptr, q_nilp, q_fn, q_cond_true, q_cond_false, Bool.not_true, Bool.not_false, decide_true, decide_false, castInt_bind, castBool_bind, castStr_bind, castPtr_bind, castFn_bind, castAgg_bind, castTuple_bind, uncons_bind, isNil_bind, one_bind, cond_bind, ite_bind_, List.cons_append, List.nil_append, impl_TreeOk.A0_ret]
      exact W.ret ⟨by simp [this], hl3⟩
    obtain ⟨v1, σ3, σ4, σ5, b, l3, l4, l5, c1, c2, c3, hbt⟩ := headOk_step hfit hxt q0' (by omega)
    have hno : ¬ HeadOk x → ¬ ModOk m := fun hn h => hn (((modOk_iff m).1 h).2.2.2.2.1 x hm)
    refine W.run (c1) ?_
    refine W.run (c2) ?_
    try simp only [q_bind_some, Option.bind_assoc, castInt_int, q_castBool, q_castStr, q_castPtr, q_castFn, q_castAgg, q_castTuple, q_uncons, q_isNil, q_sl, q_nils, q_emp, q_ptr, q_nilp, q_fn, q_cond_true, q_cond_false, Bool.not_true, Bool.not_false, decide_true, decide_false, castInt_bind, castBool_bind, castStr_bind, castPtr_bind, castFn_bind, castAgg_bind, castTuple_bind, uncons_bind, isNil_bind, one_bind, cond_bind, ite_bind_, List.cons_append, List.nil_append]
    by_cases hA : AllNames (x.args.map (·.name))
    rotate_left
    · have := hno fun h => hA h.2.1
      try simp only [q_bind_some, Option.bind_assoc, castInt_int, q_castBool, q_castStr, q_castPtr, q_castFn, q_castAgg, q_castTuple, q_uncons, q_isNil, q_sl, q_nils, q_emp, q_ptr, q_nilp, q_fn, q_cond_true, q_cond_false, Bool.not_true, Bool.not_false, decide_true, decide_false, castInt_bind, castBool_bind, castStr_bind, castPtr_bind, castFn_bind, castAgg_bind, castTuple_bind, uncons_bind, isNil_bind, one_bind, cond_bind, ite_bind_, List.cons_append, List.nil_append, hA, impl_TreeOk.A0_ret]
      exact W.ret ⟨by simp [this], hl3.trans (l3.trans l4)⟩
    try simp only [q_bind_some, Option.bind_assoc, castInt_int, q_castBool, q_castStr, q_castPtr, q_castFn, q_castAgg, q_castTuple, q_uncons, q_isNil, q_sl, q_nils, q_emp, q_ptr, q_nilp, q_fn, q_cond_true, q_cond_false, Bool.not_true, Bool.not_false, decide_true, decide_false, castInt_bind, castBool_bind, castStr_bind, castPtr_bind, castFn_bind, castAgg_bind, castTuple_bind, uncons_bind, isNil_bind, one_bind, cond_bind, ite_bind_, List.cons_append, List.nil_append, hA]
    refine W.run (isType_runs x.type) ?_
    try simp only [q_bind_some, Option.bind_assoc, castInt_int, q_castBool, q_castStr, q_castPtr, q_castFn, q_castAgg, q_castTuple, q_uncons, q_isNil, q_sl, q_nils, q_emp, q_ptr, q_nilp, q_fn, q_cond_true, q_cond_false, Bool.not_true, Bool.not_false, decide_true, decide_false, castInt_bind, castBool_bind, castStr_bind, castPtr_bind, castFn_bind, castAgg_bind, castTuple_bind, uncons_bind, isNil_bind, one_bind, cond_bind, ite_bind_, List.cons_append, List.nil_append]
    by_cases hT : 1 ≤ x.type ∧ x.type ≤ 3
    rotate_left
    · have := hno fun h => hT h.2.2.1
      try simp only [q_bind_some, Option.bind_assoc, castInt_int, q_castBool, q_castStr, q_castPtr, q_castFn, q_castAgg, q_castTuple, q_uncons, q_isNil, q_sl, q_nils, q_emp, q_ptr, q_nilp, q_fn, q_cond_true, q_cond_false, Bool.not_true, Bool.not_false, decide_true, decide_false, castInt_bind, castBool_bind, castStr_bind, castPtr_bind, castFn_bind, castAgg_bind, castTuple_bind, uncons_bind, isNil_bind, one_bind, cond_bind, ite_bind_, List.cons_append, List.nil_append, hT, impl_TreeOk.A0_ret]
      exact W.ret ⟨by simp [this], hl3.trans (l3.trans l4)⟩
    try simp only [q_bind_some, Option.bind_assoc, castInt_int, q_castBool, q_castStr, q_castPtr, q_castFn, q_castAgg, q_castTuple, q_uncons, q_isNil, q_sl, q_nils, q_emp, q_ptr, q_nilp, q_fn, q_cond_true, q_cond_false, Bool.not_true, Bool.not_false, decide_true, decide_false, castInt_bind, castBool_bind, castStr_bind, castPtr_bind, castFn_bind, castAgg_bind, castTuple_bind, uncons_bind, isNil_bind, one_bind, cond_bind, ite_bind_, List.cons_append, List.nil_append, hT, and_self]
    refine W.run (c3) ?_
    try simp only [q_bind_some, Option.bind_assoc, castInt_int, q_castBool, q_castStr, q_castPtr, q_castFn, q_castAgg, q_castTuple, q_uncons, q_isNil, q_sl, q_nils, q_emp, q_ptr, q_nilp, q_fn, q_cond_true, q_cond_false, Bool.not_true, Bool.not_false, decide_true, decide_false, castInt_bind, castBool_bind, castStr_bind, castPtr_bind, castFn_bind, castAgg_bind, castTuple_bind, uncons_bind, isNil_bind, one_bind, cond_bind, ite_bind_, List.cons_append, List.nil_append]
    cases b with
    | true =>
      have := hno fun h => by have := hbt.2 h.2.2.2; cases this
      try simp only [q_bind_some, Option.bind_assoc, castInt_int, q_castBool, q_castStr, q_castPtr, q_castFn, q_castAgg, q_castTuple, q_uncons, q_isNil, q_sl, q_nils, q_emp, q_ptr, q_nilp, q_fn, q_cond_true, q_cond_false, Bool.not_true, Bool.not_false, decide_true, decide_false, castInt_bind, castBool_bind, castStr_bind, castPtr_bind, castFn_bind, castAgg_bind, castTuple_bind, uncons_bind, isNil_bind, one_bind, cond_bind, ite_bind_, List.cons_append, List.nil_append, impl_TreeOk.A0_ret]
      exact W.ret ⟨by simp [this], hl3.trans (l3.trans (l4.trans l5))⟩
    | false =>
      try simp only [q_bind_some, Option.bind_assoc, castInt_int, q_castBool, q_castStr, q_castPtr, q_castFn, q_castAgg, q_castTuple, q_uncons, q_isNil, q_sl, q_nils, q_emp, q_ptr, q_nilp, q_fn, q_cond_true, q_cond_false, Bool.not_true, Bool.not_false, decide_true, decide_false, castInt_bind, castBool_bind, castStr_bind, castPtr_bind, castFn_bind, castAgg_bind, castTuple_bind, uncons_bind, isNil_bind, one_bind, cond_bind, ite_bind_, List.cons_append, List.nil_append, wrap_next (show i < m.funs.length by omega) (by omega)]
      refine W.again (i + 1, u', _) ⟨by show i + 1 ≤ m.funs.length; omega, hl2.trans (l3.trans (l4.trans l5)), ?_, fun y hy => ?_⟩ (by simp only; omega) rfl rfl
      · simp only
        rw [ht, List.map_append]
        exact hg'.le (l3.trans (l4.trans l5))
      · simp only at hy
        rw [ht] at hy
        rcases List.mem_append.1 hy with h | h
        · exact hok y h
        · simp at h; rw [h]; exact ⟨by omega, hA, hT, hbt.1 rfl⟩
  · rw [List.take_of_length_le (by omega)] at hg hok
    try simp only [q_bind_some, Option.bind_assoc, castInt_int, q_castBool, q_castStr, q_castPtr, q_castFn, q_castAgg, q_castTuple, q_uncons, q_isNil, q_sl, q_nils, q_emp, q_ptr, q_nilp, q_fn, q_cond_true, q_cond_false, Bool.not_true, Bool.not_false, decide_true, decide_false, castInt_bind, castBool_bind, castStr_bind, castPtr_bind, castFn_bind, castAgg_bind, castTuple_bind, uncons_bind, isNil_bind, one_bind, cond_bind, ite_bind_, List.cons_append, List.nil_append, impl_TreeOk.A0_x0]
    obtain ⟨vb, σ2, l2, hB, cb⟩ := cB σi hle0
    refine W.run (cb) ?_
    refine W.len hB ?_
    have hg2 := hg.le l2
    refine W.loop (S := Nat × Heap) (fun s => s.1 ≤ (bodies m).length ∧ Lh σ2 s.2 ∧ ∀ j x, j < s.1 → (bodies m)[j]? = some x → 0 + totS TreeExpr.many ((bodies m).take j) + x.many ≤ 150 ∧ x.deep ≤ 16 ∧ Right x)
      (fun s => [.v u, .v (.int .i64 (totS TreeExpr.many ((bodies m).take s.1) : Nat)), .v vb, .v (.int .i64 ((bodies m).length : Int)), .v (.int .i64 (s.1 : Int))]) (fun s => s.2) (fun s => (bodies m).length - s.1) (fun ⟨j, σj⟩ ⟨hj, hlj, hokj⟩ => ?_)
      (0, σ2) ⟨Nat.zero_le _, Lh.refl _, fun j x hj => absurd hj (Nat.not_lt_zero _)⟩
    simp only at hj hlj hokj ⊢
    have hlj0 := hle0.trans (l2.trans hlj)
    refine W.to (fun k _ => by rw [impl_TreeOk.L1_step]) ?_
    try simp only [q_bind_some, Option.bind_assoc, castInt_int, q_castBool, q_castStr, q_castPtr, q_castFn, q_castAgg, q_castTuple, q_uncons, q_isNil, q_sl, q_nils, q_emp, q_ptr, q_nilp, q_fn, q_cond_true, q_cond_false, Bool.not_true, Bool.not_false, decide_true, decide_false, castInt_bind, castBool_bind, castStr_bind, castPtr_bind, castFn_bind, castAgg_bind, castTuple_bind, uncons_bind, isNil_bind, one_bind, cond_bind, ite_bind_, List.cons_append, List.nil_append]
    refine W.ite (fun hlt => ?_) fun hlt => ?_
    · refine W.at hB hlj (by omega) fun r o cs x hx hr hP => ?_
      have hm : x ∈ bodies m := List.mem_of_getElem? hx
      have hP' := TreeExpr.Rep.le hlj x hP
      have hno : (¬ (0 + totS TreeExpr.many ((bodies m).take j) + x.many ≤ 150 ∧ x.deep ≤ 16) ∨ ¬ Right x) → ¬ ModOk m := fun hn h => by
        have h' := (modOk_iff m).1 h
        rcases hn with hn | hn
        · exact hn (sizesOk_at _ 0 j x hx h'.2.2.2.2.2.1)
        · exact hn (h'.2.2.2.2.2.2.1 x hm)
      have hxt := hb x hm
      have hmany := TreeExpr.many_le x
      have hsum : totS TreeExpr.many ((bodies m).take j) ≤ 150 := by
        rcases Nat.eq_zero_or_pos j with h | h
        · subst h; simp [totS]
        · have hlt' : j - 1 < (bodies m).length := by omega
          have h1 := hokj (j - 1) _ (by omega) (List.getElem?_eq_getElem hlt')
          have h2 := take_next hlt'
          have h3 : j - 1 + 1 = j := by omega
          rw [h3] at h2
          rw [h2, totS_append, totS, totS]
          omega
      obtain ⟨b, hbb, ceo⟩ := exprOk_gives x (hbf x hm) hxt hP'
      have cn := implTreeNodes_runs x hxt hP'
      cases hP with
      | mk q =>
      try simp only [q_bind_some, Option.bind_assoc, castInt_int, q_castBool, q_castStr, q_castPtr, q_castFn, q_castAgg, q_castTuple, q_uncons, q_isNil, q_sl, q_nils, q_emp, q_ptr, q_nilp, q_fn, q_cond_true, q_cond_false, Bool.not_true, Bool.not_false, decide_true, decide_false, castInt_bind, castBool_bind, castStr_bind, castPtr_bind, castFn_bind, castAgg_bind, castTuple_bind, uncons_bind, isNil_bind, one_bind, cond_bind, ite_bind_, List.cons_append, List.nil_append, hr]
      refine W.run (cn) ?_
      have hw : IntKind.wrap .i64 (((totS TreeExpr.many ((bodies m).take j) : Nat) : Int) + (x.many : Int)) = ((totS TreeExpr.many ((bodies m).take j) + x.many : Nat) : Int) := by
        rw [wrap_id (by omega) (by omega)]; omega
      try simp only [q_bind_some, Option.bind_assoc, castInt_int, q_castBool, q_castStr, q_castPtr, q_castFn, q_castAgg, q_castTuple, q_uncons, q_isNil, q_sl, q_nils, q_emp, q_ptr, q_nilp, q_fn, q_cond_true, q_cond_false, Bool.not_true, Bool.not_false, decide_true, decide_false, castInt_bind, castBool_bind, castStr_bind, castPtr_bind, castFn_bind, castAgg_bind, castTuple_bind, uncons_bind, isNil_bind, one_bind, cond_bind, ite_bind_, List.cons_append, List.nil_append, hw]
      refine W.ite (fun k5 => ?_) fun k5 => ?_
      · have := hno (.inl fun h => by omega)
        try simp only [q_bind_some, Option.bind_assoc, castInt_int, q_castBool, q_castStr, q_castPtr, q_castFn, q_castAgg, q_castTuple, q_uncons, q_isNil, q_sl, q_nils, q_emp, q_ptr, q_nilp, q_fn, q_cond_true, q_cond_false, Bool.not_true, Bool.not_false, decide_true, decide_false, castInt_bind, castBool_bind, castStr_bind, castPtr_bind, castFn_bind, castAgg_bind, castTuple_bind, uncons_bind, isNil_bind, one_bind, cond_bind, ite_bind_, List.cons_append, List.nil_append, impl_TreeOk.A1_ret]
        exact W.ret ⟨by simp [this], hlj0⟩
      refine W.give ceo fun σ6 l6 => ?_
      try simp only [q_bind_some, Option.bind_assoc, castInt_int, q_castBool, q_castStr, q_castPtr, q_castFn, q_castAgg, q_castTuple, q_uncons, q_isNil, q_sl, q_nils, q_emp, q_ptr, q_nilp, q_fn, q_cond_true, q_cond_false, Bool.not_true, Bool.not_false, decide_true, decide_false, castInt_bind, castBool_bind, castStr_bind, castPtr_bind, castFn_bind, castAgg_bind, castTuple_bind, uncons_bind, isNil_bind, one_bind, cond_bind, ite_bind_, List.cons_append, List.nil_append]
      cases b with
      | false =>
        have : ¬ ModOk m := by
          by_cases hR : Right x
          · refine hno (.inl fun h => ?_)
            have := hbb.2 ⟨by omega, h.2, hR⟩
            cases this
          · exact hno (.inr hR)
        try simp only [q_bind_some, Option.bind_assoc, castInt_int, q_castBool, q_castStr, q_castPtr, q_castFn, q_castAgg, q_castTuple, q_uncons, q_isNil, q_sl, q_nils, q_emp, q_ptr, q_nilp, q_fn, q_cond_true, q_cond_false, Bool.not_true, Bool.not_false, decide_true, decide_false, castInt_bind, castBool_bind, castStr_bind, castPtr_bind, castFn_bind, castAgg_bind, castTuple_bind, uncons_bind, isNil_bind, one_bind, cond_bind, ite_bind_, List.cons_append, List.nil_append, impl_TreeOk.A1_ret]
        exact W.ret ⟨by simp [this], hlj0.trans l6⟩
      | true =>
        have hbx := hbb.1 rfl
        try simp only [q_bind_some, Option.bind_assoc, castInt_int, q_castBool, q_castStr, q_castPtr, q_castFn, q_castAgg, q_castTuple, q_uncons, q_isNil, q_sl, q_nils, q_emp, q_ptr, q_nilp, q_fn, q_cond_true, q_cond_false, Bool.not_true, Bool.not_false, decide_true, decide_false, castInt_bind, castBool_bind, castStr_bind, castPtr_bind, castFn_bind, castAgg_bind, castTuple_bind, uncons_bind, isNil_bind, one_bind, cond_bind, ite_bind_, List.cons_append, List.nil_append, wrap_next (show j < (bodies m).length by omega) (by simp [bodies]; omega)]
        have ht := take_next' hx
        refine W.again (j + 1, σ6) ⟨by show j + 1 ≤ (bodies m).length; omega, hlj.trans l6, fun i y hi hy => ?_⟩ (by simp only; omega) ?_ rfl
        · simp only at hi
          by_cases hij : i = j
          · subst hij
            rw [hx] at hy
            injection hy with hy
            subst hy
            exact ⟨by omega, hbx.2.1, hbx.2.2⟩
          · exact hokj i y (by omega) hy
        · simp only
          rw [ht, totS_append, totS, totS]
          rfl
    · try simp only [q_bind_some, Option.bind_assoc, castInt_int, q_castBool, q_castStr, q_castPtr, q_castFn, q_castAgg, q_castTuple, q_uncons, q_isNil, q_sl, q_nils, q_emp, q_ptr, q_nilp, q_fn, q_cond_true, q_cond_false, Bool.not_true, Bool.not_false, decide_true, decide_false, castInt_bind, castBool_bind, castStr_bind, castPtr_bind, castFn_bind, castAgg_bind, castTuple_bind, uncons_bind, isNil_bind, one_bind, cond_bind, ite_bind_, List.cons_append, List.nil_append, impl_TreeOk.A1_x2]
      have hR : RepS 1 StrRep σj u (m.funs.map (·.name)) := (hg2.le hlj).rep fun cs x _ h => h
      refine W.give (areNames_gives σj hR (by rw [List.length_map]; omega) (fun x hx => by
          obtain ⟨f, hf, rfl⟩ := List.mem_map.1 hx
          have := f3 f hf
          cases this with | mk g0 => exact g0)) fun σ7 l7 => ?_
      try simp only [q_bind_some, Option.bind_assoc, castInt_int, q_castBool, q_castStr, q_castPtr, q_castFn, q_castAgg, q_castTuple, q_uncons, q_isNil, q_sl, q_nils, q_emp, q_ptr, q_nilp, q_fn, q_cond_true, q_cond_false, Bool.not_true, Bool.not_false, decide_true, decide_false, castInt_bind, castBool_bind, castStr_bind, castPtr_bind, castFn_bind, castAgg_bind, castTuple_bind, uncons_bind, isNil_bind, one_bind, cond_bind, ite_bind_, List.cons_append, List.nil_append]
      have hall : ∀ i x, (bodies m)[i]? = some x → 0 + totS TreeExpr.many ((bodies m).take i) + x.many ≤ 150 ∧ x.deep ≤ 16 ∧ Right x := fun i x hx => hokj i x (by have := lt_of_get hx; omega) hx
      have hiff : ModOk m ↔ AllNames (m.funs.map (·.name)) := by
        rw [modOk_iff]
        constructor
        · intro h; exact h.2.2.2.2.2.2.2
        · intro h
          refine ⟨by omega, by omega, by omega, hU, hok, sizesOk_of _ 0 fun i x hx => ⟨(hall i x hx).1, (hall i x hx).2.1⟩, fun e he => ?_, h⟩
          obtain ⟨i, hi, rfl⟩ := List.getElem_of_mem he
          exact (hall i _ (List.getElem?_eq_getElem hi)).2.2
      exact W.ret ⟨by simp [hiff], hlj0.trans l7⟩
end Go.D

/- The words of functions of the program; the words of expressions and functions of the reference. -/
set_option linter.unusedVariables false
set_option linter.unusedSimpArgs false
namespace Go.D
open Go.HM Go.Proofs
def argW (a : TreeArg) : List ByteArray := [open1, a.name, tword a.type, shut1]
def funHead (f : TreeFun) : List ByteArray := [open1, if f.pub = true then ⟨#[112, 117, 98]⟩ else ⟨#[102, 117, 110]⟩, f.name, open1]
def funW (f : TreeFun) : List ByteArray := funHead f ++ (f.args.map argW).flatten ++ [shut1, tword f.type] ++ f.body.wl ++ [shut1]
theorem argW_next {l : List TreeArg} {i : Nat} {x : TreeArg} (h : l[i]? = some x) : ((l.take (i + 1)).map argW).flatten = ((l.take i).map argW).flatten ++ argW x := by
  rw [take_next' h, List.map_append, List.flatten_append]
  simp
theorem argW_len (l : List TreeArg) : ((l.map argW).flatten).length = 4 * l.length := by
  induction l with
  | nil => rfl
  | cons x l ih =>
    rw [List.map_cons, List.flatten_cons, List.length_append, ih]
    simp [argW]
    omega
theorem tword_le (n : Int) : (tword n).size ≤ 4 := by
  unfold tword
  split
  · decide
  split
  · decide
  split
  · decide
  · decide
theorem funW_le {f : TreeFun} (h : FunOk f) (hm : f.body.many ≤ 150) : (funW f).length ≤ 700 ∧ totS ByteArray.size (funW f) ≤ 5000 := by
  obtain ⟨h1, h2, h3⟩ := wl_le f.body h.2.2.2.1
  have hl := argW_len f.args
  have hn := h.1.2.1.2
  have ha : ∀ l : List TreeArg, (∀ x, x ∈ l → x.name.size ≤ 8) → totS ByteArray.size (l.map argW).flatten ≤ 16 * l.length := by
    intro l
    induction l with
    | nil => intro _; simp [totS]
    | cons x l ih =>
      intro hx
      have g1 := ih fun y hy => hx y (by simp [hy])
      have g2 := hx x (by simp)
      have g3 := tword_le x.type
      have o1 : open1.size = 1 := rfl
      have o2 : shut1.size = 1 := rfl
      rw [List.map_cons, List.flatten_cons, totS_append]
      simp only [argW, totS, List.length_cons, o1, o2]
      omega
  have hargs := ha f.args fun x hx => (h.2.2.2.2.2.1 x.name (List.mem_map_of_mem hx)).2.1.2
  have h4 := h.2.1
  have g3 := tword_le f.type
  have o1 : open1.size = 1 := rfl
  have o2 : shut1.size = 1 := rfl
  have hh : totS ByteArray.size (funHead f) ≤ 13 := by
    unfold funHead
    have o3 : (if f.pub = true then (⟨#[112, 117, 98]⟩ : ByteArray) else ⟨#[102, 117, 110]⟩).size = 3 := by split <;> rfl
    simp only [totS, o1, o3]
    omega
  have hh2 : (funHead f).length = 4 := rfl
  unfold funW
  refine ⟨?_, ?_⟩
  · simp only [List.length_append, List.length_cons, List.length_nil, hl, hh2]
    omega
  · rw [totS_append, totS_append, totS_append, totS_append]
    simp only [totS, o2]
    omega
theorem implFunWords_ends {f : TreeFun} (hf : FunOk f) (hm : f.body.many ≤ 150) {σ : Heap} (hn : TabW' σ) (ht : TypeW σ) {cs : List V} (hr : TreeFun.Rep σ cs f) : HM.Ends G n_impl_TreeFun_words [.agg cs] σ (WordsP σ.length σ (funW f)) := by
  cases hr with
  | mk hA hK =>
  rename_i a0 a1
  have h4 := hf.2.1
  refine HM.Ends.mk (W.to (fun k _ => impl_TreeFun_words.eq k _ _ _ _ _ _ _ _ _ _) ?_)
  obtain ⟨hd, hhd⟩ : ∃ hd, (if f.pub = true then (⟨#[112, 117, 98]⟩ : ByteArray) else ⟨#[102, 117, 110]⟩) = hd := ⟨_, rfl⟩
  have hH : funHead f = [open1, hd, f.name, open1] := by unfold funHead; rw [hhd]
  have tail : W (ι := Unit) (WordsP σ.length σ (funW f)) (fun _ => False) (fun k _ => (vlen a0).bind fun k10 => (impl_TreeFun_words.L0 k k [.box [.str f.name, .bool f.pub, a0, .int .i64 f.type, .int .i64 f.body.kind, .int .i64 f.body.num, .str f.body.name, .str f.body.mod, a1], .v (.sl σ.length 0 4 true), .v a0, .v (.int .i64 (k10 : Int)), .v (.int .i64 0)] (hnew σ 1 ([open1, hd, f.name, open1].map .str))).bind (impl_TreeFun_words.A0 k)) := by
    refine W.len hA ?_
    refine W.loop (S := Nat × V × Heap) (fun s => s.1 ≤ f.args.length ∧ GrS σ.length s.2.2 s.2.1 ([open1, hd, f.name, open1] ++ ((f.args.take s.1).map argW).flatten) ∧ Lh σ s.2.2)
      (fun s => [.box [.str f.name, .bool f.pub, a0, .int .i64 f.type, .int .i64 f.body.kind, .int .i64 f.body.num, .str f.body.name, .str f.body.mod, a1], .v s.2.1, .v a0, .v (.int .i64 (f.args.length : Int)), .v (.int .i64 (s.1 : Int))]) (fun s => s.2.2) (fun s => f.args.length - s.1)
      (fun ⟨i, vi, σi⟩ ⟨hi, hGi, hle⟩ => ?_) (0, .sl σ.length 0 4 true, hnew σ 1 ([open1, hd, f.name, open1].map .str)) ⟨Nat.zero_le _, by simpa using grS_lit σ [open1, hd, f.name, open1] true 4 rfl, Lh.new _ _ _⟩
    simp only at hi hGi hle ⊢
    have hal := argW_len (f.args.take i)
    rw [List.length_take, Nat.min_eq_left hi] at hal
    refine W.to (fun k _ => by rw [impl_TreeFun_words.L0_step]) ?_
    refine B.ite (fun hlt => ?_) fun hlt => ?_
    · have hil : i < f.args.length := by omega
      have hx : f.args[i]? = some f.args[i] := List.getElem?_eq_getElem hil
      generalize f.args[i] = x at hx
      obtain ⟨r, o, hv, cs, hr, hP⟩ := hA.at' hx
      have hr' := hle.rdc hr
      cases hP with
      | mk =>
      try simp only [q_bind_some, castInt_int, q_castBool, q_castStr, q_castPtr, q_castFn, q_castAgg, q_castTuple, q_uncons, q_isNil, q_sl, q_nils, q_emp, q_ptr, q_nilp, q_fn, q_cond_true, q_cond_false, Bool.not_true, Bool.not_false, decide_true, decide_false, List.cons_append, List.nil_append, hv, hr']
      refine B.run (implTreeType_runs x.type σi (hle.row _ _ ht)) ?_
      obtain ⟨v', σ', g1, g2, g3, g4⟩ := grS_appL hGi (argW x) (by simp [argW]) (by simp only [List.length_append, List.length_cons, List.length_nil, hal]; simp [argW]; omega)
      have g1' : vappend 1 16 σi vi 4 [.str (⟨#[40]⟩ : ByteArray), .str x.name, .str (tword x.type), .str (⟨#[41]⟩ : ByteArray)] = some (v', σ') := g1
      try simp only [q_bind_some, castInt_int, q_castBool, q_castStr, q_castPtr, q_castFn, q_castAgg, q_castTuple, q_uncons, q_isNil, q_sl, q_nils, q_emp, q_ptr, q_nilp, q_fn, q_cond_true, q_cond_false, Bool.not_true, Bool.not_false, decide_true, decide_false, List.cons_append, List.nil_append, g1', wrap_next hil (by omega)]
      exact W.again (i + 1, v', σ') ⟨by show i + 1 ≤ f.args.length; omega, by rw [argW_next hx]; simpa [List.append_assoc] using g2, g3 σ (Nat.le_refl _) hle⟩ (by simp only; omega) rfl rfl
    · obtain rfl : i = f.args.length := by omega
      rw [List.take_length] at hGi
      try simp only [q_bind_some, castInt_int, q_castBool, q_castStr, q_castPtr, q_castFn, q_castAgg, q_castTuple, q_uncons, q_isNil, q_sl, q_nils, q_emp, q_ptr, q_nilp, q_fn, q_cond_true, q_cond_false, Bool.not_true, Bool.not_false, decide_true, decide_false, List.cons_append, List.nil_append, impl_TreeFun_words.A0_x0]
      refine W.run (implTreeType_runs f.type σi (hle.row _ _ ht)) ?_
      obtain ⟨v1, σ1, g1, g2, g3, g4⟩ := grS_appL hGi [shut1, tword f.type] (by simp) (by simp only [List.length_append, List.length_cons, List.length_nil, argW_len]; omega)
      have g1' : vappend 1 16 σi vi 2 [.str (⟨#[41]⟩ : ByteArray), .str (tword f.type)] = some (v1, σ1) := g1
      try simp only [q_bind_some, castInt_int, q_castBool, q_castStr, q_castPtr, q_castFn, q_castAgg, q_castTuple, q_uncons, q_isNil, q_sl, q_nils, q_emp, q_ptr, q_nilp, q_fn, q_cond_true, q_cond_false, Bool.not_true, Bool.not_false, decide_true, decide_false, List.cons_append, List.nil_append, g1']
      have l1 := g3 σ (Nat.le_refl _) hle
      refine W.call (words_ends f.body hf.2.2.2.1 (by omega) hn (Nat.le_refl _) l1 (.mk hK) g2 (by simp only [List.length_append, List.length_cons, List.length_nil, argW_len]; omega)) ?_
      rintro w σ2 ⟨p1, p2, p3⟩
      have hwl := (wl_le f.body hf.2.2.2.1).1
      obtain ⟨v3, σ3, c1, c2, c3, c4⟩ := grS_appL p1 [shut1] (by simp) (by simp only [List.length_append, List.length_cons, List.length_nil, argW_len]; omega)
      have c1' : vappend 1 16 σ2 w 1 [.str (⟨#[41]⟩ : ByteArray)] = some (v3, σ3) := c1
      try simp only [q_bind_some, castInt_int, q_castBool, q_castStr, q_castPtr, q_castFn, q_castAgg, q_castTuple, q_uncons, q_isNil, q_sl, q_nils, q_emp, q_ptr, q_nilp, q_fn, q_cond_true, q_cond_false, Bool.not_true, Bool.not_false, decide_true, decide_false, List.cons_append, List.nil_append, c1']
      have l3 := c3 σ (Nat.le_refl _) (p2 σ (Nat.le_refl _) l1)
      refine W.ret ⟨?_, fun σe he h => h.trans l3, l3.len⟩
      unfold funW
      rw [hH]
      exact c2
  refine W.cond (fun hp => ?_) fun hp => ?_
  · have : hd = ⟨#[112, 117, 98]⟩ := by rw [← hhd, if_pos hp]
    subst this
    exact tail
  · have : hd = ⟨#[102, 117, 110]⟩ := by rw [← hhd, if_neg (by rw [hp]; simp)]
    subst this
    exact tail
/-! ### the reference -/
theorem l2Head_ends (e : TreeExpr) (n1 : e.name.size ≤ 8) (n2 : e.mod.size ≤ 8) {σ : Heap} {cs : List V} (hr : TreeExpr.Rep σ cs e) : HM.Ends G n_spec_l2Head [.agg cs] σ (WordsP σ.length σ (headW e.kind e.name e.mod)) := by
  cases hr with
  | mk hK =>
  rename_i a0
  have fin : ∀ {L : List ByteArray} {n : Nat}, headW e.kind e.name e.mod = L → n = L.length → W (ι := Unit) (WordsP σ.length σ (headW e.kind e.name e.mod)) (fun _ => False) (fun k m => some (.sl σ.length 0 n true, hnew σ 1 (L.map .str))) := fun {L n} hL hn => by
    rw [hL]
    exact W.ret ⟨grS_lit σ L true n hn, fun σe he h => h.trans (Lh.new _ _ _), (Lh.new σ 1 _).len⟩
  refine HM.Ends.mk (W.to (fun k _ => spec_l2Head.eq k _ _ _ _ _ _) ?_)
  refine W.ite (fun k5 => fin (L := [⟨#[105, 102]⟩]) (by unfold headW; rw [if_pos k5]) rfl) fun k5 => ?_
  refine W.ite (fun k6 => fin (L := [⟨#[108, 101, 116]⟩, e.name]) (by unfold headW; rw [if_neg k5, if_pos k6]) rfl) fun k6 => ?_
  refine W.ite (fun k8 => fin (L := [⟨#[114, 111, 119]⟩]) (by unfold headW; rw [if_neg k5, if_neg k6, if_pos k8]) rfl) fun k8 => ?_
  by_cases km : e.mod = (⟨#[]⟩ : ByteArray)
  · try simp only [q_bind_some, castInt_int, q_castBool, q_castStr, q_castPtr, q_castFn, q_castAgg, q_castTuple, q_uncons, q_isNil, q_sl, q_nils, q_emp, q_ptr, q_nilp, q_fn, q_cond_true, q_cond_false, Bool.not_true, Bool.not_false, decide_true, decide_false, List.cons_append, List.nil_append, decide_eq_true km]
    exact fin (L := [e.name]) (by unfold headW; rw [if_neg k5, if_neg k6, if_neg k8, if_neg (by simpa using km)]) rfl
  · have e62 : (2 : Nat) ^ 62 = 4611686018427387904 := by decide
    have hs1 : (e.mod ++ (⟨#[46]⟩ : ByteArray)).size = e.mod.size + 1 := ByteArray.size_append
    have z1 : e.mod.size + (⟨#[46]⟩ : ByteArray).size ≤ 2 ^ 62 := by rw [e62]; show e.mod.size + 1 ≤ _; omega
    have z2 : (e.mod ++ (⟨#[46]⟩ : ByteArray)).size + e.name.size ≤ 2 ^ 62 := by rw [e62, hs1]; omega
    try simp only [q_bind_some, castInt_int, q_castBool, q_castStr, q_castPtr, q_castFn, q_castAgg, q_castTuple, q_uncons, q_isNil, q_sl, q_nils, q_emp, q_ptr, q_nilp, q_fn, q_cond_true, q_cond_false, Bool.not_true, Bool.not_false, decide_true, decide_false, List.cons_append, List.nil_append, decide_eq_false km, if_pos z1, if_pos z2]
    exact fin (L := [(e.mod ++ (⟨#[46]⟩ : ByteArray)) ++ e.name]) (by unfold headW; rw [if_neg k5, if_neg k6, if_neg k8, if_pos km]) rfl
theorem l2Words_ends (e : TreeExpr) (hR : Right e) (hm : e.many ≤ 100000) {σ : Heap} {cs : List V} (hr : TreeExpr.Rep σ cs e) : HM.Ends G n_spec_l2Words [.agg cs] σ (WordsP σ.length σ e.wl) := by
  obtain ⟨hN, hk⟩ := (right_iff e).1 hR
  have hme := TreeExpr.many_eq e
  have hkl := many_ge e.kids
  have ih : ∀ x, x ∈ e.kids → ∀ {σ : Heap} {cs : List V}, TreeExpr.Rep σ cs x → HM.Ends G n_spec_l2Words [.agg cs] σ (WordsP σ.length σ x.wl) := fun x hx {σ cs} hr => l2Words_ends x (hk x hx) (by have := totS_mem TreeExpr.many hx; omega) hr
  obtain ⟨n1, n2⟩ := node_size hN
  have hr0 := hr
  cases hr with
  | mk hK =>
  rename_i a0
  refine HM.Ends.mk (W.to (fun k _ => spec_l2Words.eq k _ _ _ _ _ _) ?_)
  have hwl := TreeExpr.wl_eq e
  by_cases k1 : e.kind = 1
  · rw [if_pos k1] at hwl
    have hi : -9223372036854775808 ≤ e.num ∧ e.num ≤ 9223372036854775807 := by unfold NodeOk at hN; omega
    try simp only [q_bind_some, castInt_int, q_castBool, q_castStr, q_castPtr, q_castFn, q_castAgg, q_castTuple, q_uncons, q_isNil, q_sl, q_nils, q_emp, q_ptr, q_nilp, q_fn, q_cond_true, q_cond_false, Bool.not_true, Bool.not_false, decide_true, decide_false, List.cons_append, List.nil_append, decide_eq_true k1]
    refine W.give (l23Dec_gives σ hi.1 hi.2) fun σ1 l1 => ?_
    try simp only [q_bind_some, castInt_int, q_castBool, q_castStr, q_castPtr, q_castFn, q_castAgg, q_castTuple, q_uncons, q_isNil, q_sl, q_nils, q_emp, q_ptr, q_nilp, q_fn, q_cond_true, q_cond_false, Bool.not_true, Bool.not_false, decide_true, decide_false, List.cons_append, List.nil_append]
    rw [hwl]
    exact W.ret ⟨GrS.down (grS_lit σ1 [ba (Lib.itoa e.num)] true 1 rfl) l1.len, fun σe he h => (h.trans l1).trans (Lh.new _ _ _), Nat.le_trans l1.len (Lh.new σ1 1 _).len⟩
  rw [if_neg k1] at hwl
  by_cases k2 : e.kind = 2
  · rw [if_pos k2] at hwl
    have hi : e.num = 0 ∨ e.num = 1 := by unfold NodeOk at hN; omega
    have lN : Lh σ (hnew σ 1 [.str (⟨#[102, 97, 108, 115, 101]⟩ : ByteArray), .str (⟨#[116, 114, 117, 101]⟩ : ByteArray)]) := Lh.new _ _ _
    have hg : (hnew σ 1 [.str (⟨#[102, 97, 108, 115, 101]⟩ : ByteArray), .str (⟨#[116, 114, 117, 101]⟩ : ByteArray)])[σ.length]? = some (some ⟨[.str (⟨#[102, 97, 108, 115, 101]⟩ : ByteArray), .str (⟨#[116, 114, 117, 101]⟩ : ByteArray)], 1, false, 0⟩) := by simp [hnew]
    generalize hσ1 : hnew σ 1 [.str (⟨#[102, 97, 108, 115, 101]⟩ : ByteArray), .str (⟨#[116, 114, 117, 101]⟩ : ByteArray)] = σ1 at lN hg
    have hv : vidx 1 (.sl σ.length 0 2 true) e.num = some (σ.length, e.num.toNat) := by
      simp only [vidx]
      rw [if_pos (by omega)]
      simp
    have hat : rdc σ1 σ.length e.num.toNat 1 = some [.str (boolW e.num)] := by
      rcases hi with h | h
      · rw [h]; simp [rdc, hg, boolW]
      · rw [h]; simp [rdc, hg, boolW]
    try simp only [q_bind_some, castInt_int, q_castBool, q_castStr, q_castPtr, q_castFn, q_castAgg, q_castTuple, q_uncons, q_isNil, q_sl, q_nils, q_emp, q_ptr, q_nilp, q_fn, q_cond_true, q_cond_false, Bool.not_true, Bool.not_false, decide_true, decide_false, List.cons_append, List.nil_append, decide_eq_false k1, decide_eq_true k2, hv, hat, hσ1]
    rw [hwl]
    exact W.ret ⟨GrS.down (grS_lit σ1 [boolW e.num] true 1 rfl) lN.len, fun σe he h => (h.trans lN).trans (Lh.new _ _ _), Nat.le_trans lN.len (Lh.new σ1 1 _).len⟩
  rw [if_neg k2] at hwl
  by_cases k3 : e.kind = 3
  · rw [if_pos k3] at hwl
    try simp only [q_bind_some, castInt_int, q_castBool, q_castStr, q_castPtr, q_castFn, q_castAgg, q_castTuple, q_uncons, q_isNil, q_sl, q_nils, q_emp, q_ptr, q_nilp, q_fn, q_cond_true, q_cond_false, Bool.not_true, Bool.not_false, decide_true, decide_false, List.cons_append, List.nil_append, decide_eq_false k1, decide_eq_false k2, decide_eq_true k3]
    rw [hwl]
    exact W.ret ⟨grS_lit σ [e.name] true 1 rfl, fun σe he h => h.trans (Lh.new _ _ _), (Lh.new σ 1 _).len⟩
  rw [if_neg k3] at hwl
  obtain ⟨q1, q2, q3⟩ := head_le e.kind e.name e.mod n1 n2
  have hmx := totS_take_le TreeExpr.many e.kids
  try simp only [q_bind_some, castInt_int, q_castBool, q_castStr, q_castPtr, q_castFn, q_castAgg, q_castTuple, q_uncons, q_isNil, q_sl, q_nils, q_emp, q_ptr, q_nilp, q_fn, q_cond_true, q_cond_false, Bool.not_true, Bool.not_false, decide_true, decide_false, List.cons_append, List.nil_append, decide_eq_false k1, decide_eq_false k2, decide_eq_false k3]
  have lN : Lh σ (hnew σ 1 ([open1].map .str)) := Lh.new _ _ _
  have gN : GrS σ.length (hnew σ 1 ([open1].map .str)) (.sl σ.length 0 1 true) [open1] := grS_lit σ [open1] true 1 rfl
  have hσ1 : hnew σ 1 [.str (⟨#[40]⟩ : ByteArray)] = hnew σ 1 ([open1].map .str) := rfl
  rw [hσ1]
  generalize hnew σ 1 ([open1].map .str) = σ1 at lN gN
  refine W.call (l2Head_ends e n1 n2 (TreeExpr.Rep.le lN _ hr0)) ?_
  rintro w2 σ2 ⟨d1, d2, d3⟩
  have l12 : Lh σ1 σ2 := d2 σ1 (Nat.le_refl _) (Lh.refl _)
  obtain ⟨v3, σ3, b1, b2, b3, b4⟩ := grS_appL (gN.le l12) (headW e.kind e.name e.mod) q2 (by simp; omega)
  try simp only [q_bind_some, castInt_int, q_castBool, q_castStr, q_castPtr, q_castFn, q_castAgg, q_castTuple, q_uncons, q_isNil, q_sl, q_nils, q_emp, q_ptr, q_nilp, q_fn, q_cond_true, q_cond_false, Bool.not_true, Bool.not_false, decide_true, decide_false, List.cons_append, List.nil_append, grS_cells d1, b1]
  refine W.loop (S := Nat × V × Heap) (fun s => s.1 ≤ e.kids.length ∧ GrS σ.length s.2.2 s.2.1 ([open1] ++ headW e.kind e.name e.mod ++ TreeExpr.wlS (e.kids.take s.1)) ∧ Lh σ s.2.2)
    (fun s => [.box [.int .i64 e.kind, .int .i64 e.num, .str e.name, .str e.mod, a0], .v s.2.1, .v (.int .i64 (s.1 : Int))]) (fun s => s.2.2) (fun s => e.kids.length - s.1)
    (fun ⟨i, vi, σi⟩ ⟨hi, hGi, hle⟩ => ?_) (0, v3, σ3) ⟨Nat.zero_le _, by simpa [TreeExpr.wlS] using b2, b3 σ (Nat.le_refl _) (lN.trans l12)⟩
  simp only at hi hGi hle ⊢
  have hwi : (TreeExpr.wlS (e.kids.take i)).length ≤ 4 * totS TreeExpr.many (e.kids.take i) := by
    rw [TreeExpr.wlS_eq, (flat_tot TreeExpr.wl ByteArray.size _).1]
    exact tot_le 4 _ fun x hx => (wl_le x (hk x (List.mem_of_mem_take hx))).1
  have hmi := hmx i
  refine W.to (fun k _ => by rw [spec_l2Words.L0_step]) ?_
  refine B.len hK (B.ite (fun hlt => ?_) fun hlt => ?_)
  · have hil : i < e.kids.length := by omega
    have hx : e.kids[i]? = some e.kids[i] := List.getElem?_eq_getElem hil
    generalize e.kids[i] = x at hx
    have hxm := List.mem_of_getElem? hx
    have hmt : totS TreeExpr.many (e.kids.take (i + 1)) = totS TreeExpr.many (e.kids.take i) + x.many := by rw [take_next' hx, totS_append]; simp [totS]
    have hmt2 := hmx (i + 1)
    obtain ⟨r, o, hv, cs, hr, hP⟩ := hK.at' hx
    have hr' := hle.rdc hr
    have hP' := TreeExpr.Rep.le hle x hP
    have hwx := wl_le x (hk x hxm)
    cases hP with
    | mk hkk =>
    try simp only [q_bind_some, castInt_int, q_castBool, q_castStr, q_castPtr, q_castFn, q_castAgg, q_castTuple, q_uncons, q_isNil, q_sl, q_nils, q_emp, q_ptr, q_nilp, q_fn, q_cond_true, q_cond_false, Bool.not_true, Bool.not_false, decide_true, decide_false, List.cons_append, List.nil_append, hv, hr']
    refine B.call (ih x hxm hP') ?_
    rintro w σ' ⟨h1, h2, h3⟩
    have li := h2 σi (Nat.le_refl _) (Lh.refl _)
    obtain ⟨v4, σ4, c1, c2, c3, c4⟩ := grS_appL (hGi.le li) x.wl hwx.2.2 (by simp only [List.length_append, List.length_cons, List.length_nil]; omega)
    try simp only [q_bind_some, castInt_int, q_castBool, q_castStr, q_castPtr, q_castFn, q_castAgg, q_castTuple, q_uncons, q_isNil, q_sl, q_nils, q_emp, q_ptr, q_nilp, q_fn, q_cond_true, q_cond_false, Bool.not_true, Bool.not_false, decide_true, decide_false, List.cons_append, List.nil_append, grS_cells h1, c1, wrap_next hil (by omega)]
    exact W.again (i + 1, v4, σ4) ⟨by show i + 1 ≤ e.kids.length; omega, by rw [wlS_next hx, ← List.append_assoc]; exact c2, c3 σ (Nat.le_refl _) (hle.trans li)⟩ (by simp only; omega) rfl rfl
  · obtain rfl : i = e.kids.length := by omega
    rw [List.take_length] at hGi hwi
    obtain ⟨v4, σ4, c1, c2, c3, c4⟩ := grS_appL hGi [shut1] (by simp) (by simp only [List.length_append, List.length_cons, List.length_nil]; omega)
    have c1' : vappend 1 16 σi vi 1 [.str (⟨#[41]⟩ : ByteArray)] = some (v4, σ4) := c1
    try simp only [q_bind_some, castInt_int, q_castBool, q_castStr, q_castPtr, q_castFn, q_castAgg, q_castTuple, q_uncons, q_isNil, q_sl, q_nils, q_emp, q_ptr, q_nilp, q_fn, q_cond_true, q_cond_false, Bool.not_true, Bool.not_false, decide_true, decide_false, List.cons_append, List.nil_append, spec_l2Words.A0_x1, c1']
    have l4 := c3 σ (Nat.le_refl _) hle
    refine W.ret ⟨?_, fun σe he h => h.trans l4, l4.len⟩
    rw [hwl]
    simpa [List.append_assoc] using c2
termination_by SizeOf.sizeOf e
decreasing_by
  all_goals
    cases e
    have := List.sizeOf_lt_of_mem hx
    simp at this ⊢
    omega
end Go.D

/- The words of functions, by the reference; the forms of modules. -/
set_option linter.unusedVariables false
set_option linter.unusedSimpArgs false
namespace Go.D
open Go.HM Go.Proofs
theorem specFunWords_ends {f : TreeFun} (hf : FunOk f) (hm : f.body.many ≤ 150) {σ : Heap} {cs : List V} (hr : TreeFun.Rep σ cs f) : HM.Ends G n_spec_l2FunWords [.agg cs] σ (WordsP σ.length σ (funW f)) := by
  cases hr with
  | mk hA hK =>
  rename_i a0 a1
  have h4 := hf.2.1
  refine HM.Ends.mk (W.to (fun k _ => spec_l2FunWords.eq k _ _ _ _ _ _ _ _ _ _) ?_)
  obtain ⟨hd, hhd⟩ : ∃ hd, (if f.pub = true then (⟨#[112, 117, 98]⟩ : ByteArray) else ⟨#[102, 117, 110]⟩) = hd := ⟨_, rfl⟩
  have hH : funHead f = [open1, hd, f.name, open1] := by unfold funHead; rw [hhd]
  have tail : ∀ {σ1 : Heap}, GrS σ.length σ1 (.sl σ.length 0 4 true) [open1, hd, f.name, open1] → Lh σ σ1 → W (ι := Unit) (WordsP σ.length σ (funW f)) (fun _ => False) (fun k _ => (spec_l2FunWords.L0 k k [.box [.str f.name, .bool f.pub, a0, .int .i64 f.type, .int .i64 f.body.kind, .int .i64 f.body.num, .str f.body.name, .str f.body.mod, a1], .v (.sl σ.length 0 4 true), .v (.int .i64 0)] σ1).bind (spec_l2FunWords.A0 k)) := by
    intro σ1 g0 l0
    refine W.loop (S := Nat × V × Heap) (fun s => s.1 ≤ f.args.length ∧ GrS σ.length s.2.2 s.2.1 ([open1, hd, f.name, open1] ++ ((f.args.take s.1).map argW).flatten) ∧ Lh σ s.2.2)
      (fun s => [.box [.str f.name, .bool f.pub, a0, .int .i64 f.type, .int .i64 f.body.kind, .int .i64 f.body.num, .str f.body.name, .str f.body.mod, a1], .v s.2.1, .v (.int .i64 (s.1 : Int))]) (fun s => s.2.2) (fun s => f.args.length - s.1)
      (fun ⟨i, vi, σi⟩ ⟨hi, hGi, hle⟩ => ?_) (0, .sl σ.length 0 4 true, σ1) ⟨Nat.zero_le _, by simpa using g0, l0⟩
    simp only at hi hGi hle ⊢
    have hal := argW_len (f.args.take i)
    rw [List.length_take, Nat.min_eq_left hi] at hal
    refine W.to (fun k _ => by rw [spec_l2FunWords.L0_step]) ?_
    refine B.len hA (B.ite (fun hlt => ?_) fun hlt => ?_)
    · have hil : i < f.args.length := by omega
      have hx : f.args[i]? = some f.args[i] := List.getElem?_eq_getElem hil
      generalize f.args[i] = x at hx
      obtain ⟨r, o, hv, cs, hr, hP⟩ := hA.at' hx
      have hr' := hle.rdc hr
      cases hP with
      | mk =>
      have e0 : rdc σi r (o + 0) 1 = some [.str x.name] := rdc_sub hr' 0 1 (by omega)
      have e1 : rdc σi r (o + 1) 1 = some [.int .i64 x.type] := rdc_sub hr' 1 1 (by omega)
      try simp only [q_bind_some, castInt_int, q_castBool, q_castStr, q_castPtr, q_castFn, q_castAgg, q_castTuple, q_uncons, q_isNil, q_sl, q_nils, q_emp, q_ptr, q_nilp, q_fn, q_cond_true, q_cond_false, Bool.not_true, Bool.not_false, decide_true, decide_false, List.cons_append, List.nil_append, hv, e0, e1]
      refine B.give (specTreeType_gives x.type _) fun σ2 l2 => ?_
      have l2' := l2.unprot1
      obtain ⟨v', σ', g1, g2, g3, g4⟩ := grS_appL (hGi.le l2') (argW x) (by simp [argW]) (by simp only [List.length_append, List.length_cons, List.length_nil, hal]; simp [argW]; omega)
      have g1' : vappend 1 16 (unprot [r] σi σ2) vi 4 [.str (⟨#[40]⟩ : ByteArray), .str x.name, .str (tword x.type), .str (⟨#[41]⟩ : ByteArray)] = some (v', σ') := g1
      try simp only [q_bind_some, castInt_int, q_castBool, q_castStr, q_castPtr, q_castFn, q_castAgg, q_castTuple, q_uncons, q_isNil, q_sl, q_nils, q_emp, q_ptr, q_nilp, q_fn, q_cond_true, q_cond_false, Bool.not_true, Bool.not_false, decide_true, decide_false, List.cons_append, List.nil_append, g1', wrap_next hil (by omega)]
      exact W.again (i + 1, v', σ') ⟨by show i + 1 ≤ f.args.length; omega, by rw [argW_next hx]; simpa [List.append_assoc] using g2, g3 σ (Nat.le_refl _) (hle.trans l2')⟩ (by simp only; omega) rfl rfl
    · obtain rfl : i = f.args.length := by omega
      rw [List.take_length] at hGi
      try simp only [q_bind_some, castInt_int, q_castBool, q_castStr, q_castPtr, q_castFn, q_castAgg, q_castTuple, q_uncons, q_isNil, q_sl, q_nils, q_emp, q_ptr, q_nilp, q_fn, q_cond_true, q_cond_false, Bool.not_true, Bool.not_false, decide_true, decide_false, List.cons_append, List.nil_append, spec_l2FunWords.A0_x0]
      refine W.give (specTreeType_gives f.type σi) fun σ1 l1 => ?_
      obtain ⟨v2, σ2, g1, g2, g3, g4⟩ := grS_appL (hGi.le l1) [shut1, tword f.type] (by simp) (by simp only [List.length_append, List.length_cons, List.length_nil, argW_len]; omega)
      have g1' : vappend 1 16 σ1 vi 2 [.str (⟨#[41]⟩ : ByteArray), .str (tword f.type)] = some (v2, σ2) := g1
      try simp only [q_bind_some, castInt_int, q_castBool, q_castStr, q_castPtr, q_castFn, q_castAgg, q_castTuple, q_uncons, q_isNil, q_sl, q_nils, q_emp, q_ptr, q_nilp, q_fn, q_cond_true, q_cond_false, Bool.not_true, Bool.not_false, decide_true, decide_false, List.cons_append, List.nil_append, g1']
      have l2 := g3 σ (Nat.le_refl _) (hle.trans l1)
      refine W.call (l2Words_ends f.body hf.2.2.2.1 (by omega) (TreeExpr.Rep.le l2 f.body (.mk hK))) ?_
      rintro w σ3 ⟨p1, p2, p3⟩
      have l3 := p2 σ2 (Nat.le_refl _) (Lh.refl _)
      obtain ⟨hwl, _, hw0⟩ := wl_le f.body hf.2.2.2.1
      obtain ⟨v4, σ4, c1, c2, c3, c4⟩ := grS_appL (g2.le l3) f.body.wl hw0 (by simp only [List.length_append, List.length_cons, List.length_nil, argW_len]; omega)
      obtain ⟨v5, σ5, d1, d2, d3, d4⟩ := grS_appL c2 [shut1] (by simp) (by simp only [List.length_append, List.length_cons, List.length_nil, argW_len]; omega)
      have d1' : vappend 1 16 σ4 v4 1 [.str (⟨#[41]⟩ : ByteArray)] = some (v5, σ5) := d1
      try simp only [q_bind_some, castInt_int, q_castBool, q_castStr, q_castPtr, q_castFn, q_castAgg, q_castTuple, q_uncons, q_isNil, q_sl, q_nils, q_emp, q_ptr, q_nilp, q_fn, q_cond_true, q_cond_false, Bool.not_true, Bool.not_false, decide_true, decide_false, List.cons_append, List.nil_append, grS_cells p1, c1, d1']
      have l5 := d3 σ (Nat.le_refl _) (c3 σ (Nat.le_refl _) (l2.trans l3))
      refine W.ret ⟨?_, fun σe he h => h.trans l5, l5.len⟩
      unfold funW
      rw [hH]
      exact d2
  refine W.cond (fun hp => ?_) fun hp => ?_
  · have : hd = ⟨#[112, 117, 98]⟩ := by rw [← hhd, if_pos hp]
    subst this
    have hS : StrRow (hnew σ 1 ([open1, ⟨#[102, 117, 110]⟩, f.name, open1].map .str)) σ.length [open1, ⟨#[102, 117, 110]⟩, f.name, open1] := ⟨0, by simp [hnew]⟩
    obtain ⟨σ1, w1, w2, w3, w4⟩ := hS.put (i := 1) (by show 1 < 4; omega) (⟨#[112, 117, 98]⟩ : ByteArray)
    have hv : vidx 1 (.sl σ.length 0 4 true) 1 = some (σ.length, 1) := rfl
    have w1' : wrc (hnew σ 1 [.str (⟨#[40]⟩ : ByteArray), .str (⟨#[102, 117, 110]⟩ : ByteArray), .str f.name, .str (⟨#[40]⟩ : ByteArray)]) σ.length 1 [.str (⟨#[112, 117, 98]⟩ : ByteArray)] = some σ1 := w1
    try simp only [q_bind_some, castInt_int, q_castBool, q_castStr, q_castPtr, q_castFn, q_castAgg, q_castTuple, q_uncons, q_isNil, q_sl, q_nils, q_emp, q_ptr, q_nilp, q_fn, q_cond_true, q_cond_false, Bool.not_true, Bool.not_false, decide_true, decide_false, List.cons_append, List.nil_append, hv, w1']
    refine tail ⟨σ.length, true, Nat.le_refl _, rfl, w2⟩ ⟨by rw [w3]; exact (Lh.new σ 1 _).len, fun j row hj => ?_⟩
    have := get_lt hj
    rw [w4 j (by omega)]
    exact (Lh.new σ 1 _).row _ _ hj
  · have : hd = ⟨#[102, 117, 110]⟩ := by rw [← hhd, if_neg (by rw [hp]; simp)]
    subst this
    exact tail (grS_lit σ [open1, ⟨#[102, 117, 110]⟩, f.name, open1] true 4 rfl) (Lh.new _ _ _)
/-! ### slices.Concat -/
def SlP (σ : Heap) (cs : List V) (x : List ByteArray) : Prop := ∃ u, cs = [u] ∧ RepS 1 StrRep σ u x
theorem SlP.le {σ σ' : Heap} (h : Lh σ σ') {cs : List V} {x : List ByteArray} (g : SlP σ cs x) : SlP σ' cs x := by
  obtain ⟨u, h1, h2⟩ := g
  exact ⟨u, h1, h2.le h⟩
theorem rep_cells {σ : Heap} {v : V} {l : List ByteArray} (h : RepS 1 StrRep σ v l) : vcells σ 1 v = some (l.length, l.map .str) := by
  cases h with
  | nils => rfl
  | emp => rfl
  | sl q o n lim row l h1 h2 h3 h4 h5 =>
    subst h1
    unfold vcells rdc
    simp only [h2]
    rw [if_pos (by omega)]
    have : (row.cells.drop o).take (l.length * 1) = l.map .str := by
      refine chunks_str ⟨by rw [List.length_take, List.length_drop]; omega, fun i x hx => ?_⟩
      have hi := lt_of_get hx
      have h6 := h5 i x hx
      unfold StrRep at h6 ⊢
      rw [← h6]
      apply List.ext_getElem?
      intro j
      rw [List.getElem?_take, List.getElem?_take]
      split
      · rw [List.getElem?_drop, List.getElem?_take, if_pos (by omega), List.getElem?_drop, List.getElem?_drop]
        congr 1
        omega
      · rfl
    rw [this]
    rfl
theorem rep_vlen {σ : Heap} {v : V} {l : List ByteArray} (h : RepS 1 StrRep σ v l) : vlen v = some l.length := h.vlen
theorem concat_ends {σ : Heap} {v : V} {L : List (List ByteArray)} (h : RepS 1 (SlP σ) σ v L) (h1 : L.length ≤ 1000) (h2 : totS List.length L ≤ 1000000) (h0 : 0 < totS List.length L) (hne : ∀ x, x ∈ L → x ≠ []) : HM.Ends G n_slices_Concat_string_string [v] σ (WordsP σ.length σ L.flatten) := by
  refine HM.Ends.mk (W.to (fun k _ => slices_Concat_string_string.eq k _ _) ?_)
  refine W.len h ?_
  have flen : ∀ M : List (List ByteArray), M.flatten.length = totS List.length M := fun M => by
    induction M with
    | nil => rfl
    | cons x M ih => rw [List.flatten_cons, List.length_append, ih]; rfl
  refine W.loop (S := Nat) (fun i => i ≤ L.length) (fun i => [.v v, .v (.int .i64 ((totS List.length (L.take i) : Nat) : Int)), .v v, .v (.int .i64 (L.length : Int)), .v (.int .i64 (i : Int))]) (fun _ => σ) (fun i => L.length - i) (fun i hi => ?_) 0 (Nat.zero_le _)
  have hti := totS_take_le List.length L i
  refine W.to (fun k _ => by rw [slices_Concat_string_string.L0_step]) ?_
  refine B.ite (fun hlt => ?_) fun hlt => ?_
  · have hil : i < L.length := by omega
    have hx : L[i]? = some L[i] := List.getElem?_eq_getElem hil
    generalize L[i] = x at hx
    obtain ⟨r, o, hv, cs, hr, u, rfl, hu⟩ := h.at' hx
    have hmt : totS List.length (L.take (i + 1)) = totS List.length (L.take i) + x.length := by rw [take_next' hx, totS_append]; simp [totS]
    have hmt2 := totS_take_le List.length L (i + 1)
    have hw : IntKind.wrap .i64 (((totS List.length (L.take i) : Nat) : Int) + (x.length : Int)) = ((totS List.length (L.take (i + 1)) : Nat) : Int) := by rw [wrap_id (by omega) (by omega)]; omega
    have hp : ¬ (((totS List.length (L.take (i + 1)) : Nat) : Int) < 0) := by omega
    try simp only [q_bind_some, castInt_int, q_castBool, q_castStr, q_castPtr, q_castFn, q_castAgg, q_castTuple, q_uncons, q_isNil, q_sl, q_nils, q_emp, q_ptr, q_nilp, q_fn, q_cond_true, q_cond_false, Bool.not_true, Bool.not_false, decide_true, decide_false, List.cons_append, List.nil_append, hv, hr, hu.vlen, hw, decide_eq_false hp, wrap_next hil (by omega)]
    exact W.again (i + 1) (by omega) (by omega) rfl rfl
  obtain rfl : i = L.length := by omega
  rw [List.take_length] at hti ⊢
  have hgr : Runs G n_slices_Grow_string_string [.nils, .int .i64 ((totS List.length L : Nat) : Int)] σ (.sl σ.length 0 0 false) (hnew σ 1 []) := by
    refine hook_runs (h := hkGrow 1 16) rfl ?_
    unfold hkGrow
    simp only
    rw [if_neg (by omega), if_pos ⟨by omega, by omega, by omega⟩]
  try simp only [q_bind_some, castInt_int, q_castBool, q_castStr, q_castPtr, q_castFn, q_castAgg, q_castTuple, q_uncons, q_isNil, q_sl, q_nils, q_emp, q_ptr, q_nilp, q_fn, q_cond_true, q_cond_false, Bool.not_true, Bool.not_false, decide_true, decide_false, List.cons_append, List.nil_append, slices_Concat_string_string.A0_x0]
  refine W.run hgr ?_
  try simp only [q_bind_some, castInt_int, q_castBool, q_castStr, q_castPtr, q_castFn, q_castAgg, q_castTuple, q_uncons, q_isNil, q_sl, q_nils, q_emp, q_ptr, q_nilp, q_fn, q_cond_true, q_cond_false, Bool.not_true, Bool.not_false, decide_true, decide_false, List.cons_append, List.nil_append]
  refine W.len h ?_
  refine W.loop (S := Nat × V × Heap) (fun s => s.1 ≤ L.length ∧ GrS σ.length s.2.2 s.2.1 (L.take s.1).flatten ∧ Lh σ s.2.2)
    (fun s => [.v s.2.1, .v v, .v (.int .i64 (L.length : Int)), .v (.int .i64 (s.1 : Int))]) (fun s => s.2.2) (fun s => L.length - s.1) (fun ⟨i, vi, σi⟩ ⟨hi, hGi, hle⟩ => ?_)
    (0, .sl σ.length 0 0 false, hnew σ 1 []) ⟨Nat.zero_le _, GrS.new σ false, Lh.new _ _ _⟩
  simp only at hi hGi hle ⊢
  refine W.to (fun k _ => by rw [slices_Concat_string_string.L1_step]) ?_
  refine B.ite (fun hlt => ?_) fun hlt => ?_
  · have hil : i < L.length := by omega
    have hx : L[i]? = some L[i] := List.getElem?_eq_getElem hil
    generalize L[i] = x at hx
    obtain ⟨r, o, hv, cs, hr, u, rfl, hu⟩ := h.at' hx
    have hr' := hle.rdc hr
    have hmt : totS List.length (L.take (i + 1)) = totS List.length (L.take i) + x.length := by rw [take_next' hx, totS_append]; simp [totS]
    have hmt2 := totS_take_le List.length L (i + 1)
    obtain ⟨v', σ', c1, c2, c3, c4⟩ := grS_appL hGi x (hne x (List.mem_of_getElem? hx)) (by rw [flen]; omega)
    try simp only [q_bind_some, castInt_int, q_castBool, q_castStr, q_castPtr, q_castFn, q_castAgg, q_castTuple, q_uncons, q_isNil, q_sl, q_nils, q_emp, q_ptr, q_nilp, q_fn, q_cond_true, q_cond_false, Bool.not_true, Bool.not_false, decide_true, decide_false, List.cons_append, List.nil_append, hv, hr', rep_cells (hu.le hle), c1, wrap_next hil (by omega)]
    exact W.again (i + 1, v', σ') ⟨by show i + 1 ≤ L.length; omega, by rw [take_next' hx, List.flatten_append]; simpa using c2, c3 σ (Nat.le_refl _) hle⟩ (by simp only; omega) rfl rfl
  · obtain rfl : i = L.length := by omega
    rw [List.take_length] at hGi
    try simp only [q_bind_some, castInt_int, q_castBool, q_castStr, q_castPtr, q_castFn, q_castAgg, q_castTuple, q_uncons, q_isNil, q_sl, q_nils, q_emp, q_ptr, q_nilp, q_fn, q_cond_true, q_cond_false, Bool.not_true, Bool.not_false, decide_true, decide_false, List.cons_append, List.nil_append, slices_Concat_string_string.A1_x2]
    exact W.ret ⟨hGi, fun σe he h => h.trans hle, hle.len⟩
end Go.D

/- The forms of modules; TreePrint of the program. -/
set_option linter.unusedVariables false
set_option linter.unusedSimpArgs false
namespace Go.D
open Go.HM Go.Proofs
def useWd : ByteArray := ⟨#[117, 115, 101]⟩
def mainWd : ByteArray := ⟨#[109, 97, 105, 110]⟩
def useW (u : List ByteArray) : List ByteArray := [open1, useWd] ++ u ++ [shut1]
def mainW' (e : TreeExpr) : List ByteArray := [open1, mainWd] ++ e.wl ++ [shut1]
def useForm (u : List ByteArray) : List (List ByteArray) := if u = [] then [] else [useW u]
def formsW (m : TreeMod) : List (List ByteArray) := useForm m.uses ++ m.funs.map funW ++ m.main.map mainW'
theorem body_many {m : TreeMod} (h : ModOk m) : (∀ f, f ∈ m.funs → f.body.many ≤ 150) ∧ ∀ e, e ∈ m.main → e.many ≤ 150 := by
  have hb : ∀ x, x ∈ bodies m → x.many ≤ 150 := fun x hx => by
    obtain ⟨i, hi⟩ := List.getElem?_of_mem hx
    have := (sizesOk_at (bodies m) 0 i x hi h.2.2.2.2.1).1
    omega
  exact ⟨fun f hf => hb _ (List.mem_append_left _ (List.mem_map_of_mem hf)), fun e he => hb _ (List.mem_append_right _ he)⟩
theorem names_size : ∀ u : List ByteArray, (∀ x, x ∈ u → x.size ≤ 8) → totS ByteArray.size u ≤ 8 * u.length
  | [], _ => by simp [totS]
  | x :: u, h => by
    have h1 := names_size u fun y hy => h y (by simp [hy])
    have h2 := h x (by simp)
    simp only [totS, List.length_cons]
    omega
theorem forms_le {m : TreeMod} (h : ModOk m) : ∀ x, x ∈ formsW m → x.length ≤ 700 ∧ totS ByteArray.size x ≤ 5000 := by
  have o1 : open1.size = 1 := rfl
  have o2 : shut1.size = 1 := rfl
  obtain ⟨b1, b2⟩ := body_many h
  intro x hx
  unfold formsW at hx
  rcases List.mem_append.1 hx with hx | hx
  · rcases List.mem_append.1 hx with hx | hx
    · unfold useForm at hx
      split at hx
      · cases hx
      · simp at hx
        subst hx
        have hs := names_size m.uses fun y hy => (h.2.2.2.1.1 y hy).2.1.2
        have h4 := h.1
        have o3 : useWd.size = 3 := rfl
        unfold useW
        refine ⟨by simp only [List.length_append, List.length_cons, List.length_nil]; omega, ?_⟩
        rw [totS_append, totS_append]
        simp only [totS, o1, o2, o3]
        omega
    · obtain ⟨f, hf, rfl⟩ := List.mem_map.1 hx
      exact funW_le (h.2.2.2.2.2.1 f hf) (b1 f hf)
  · obtain ⟨e, he, rfl⟩ := List.mem_map.1 hx
    have hw := wl_le e (h.2.2.2.2.2.2.2 e he)
    have hm := b2 e he
    have o3 : mainWd.size = 4 := rfl
    unfold mainW'
    refine ⟨by simp only [List.length_append, List.length_cons, List.length_nil]; omega, ?_⟩
    rw [totS_append, totS_append]
    simp only [totS, o1, o2, o3]
    omega
theorem forms_len {m : TreeMod} (h : ModOk m) : (formsW m).length ≤ 10 := by
  have h1 := h.2.1
  have h2 := h.2.2.1
  have h3 : (useForm m.uses).length ≤ 1 := by unfold useForm; split <;> simp
  unfold formsW
  simp only [List.length_append, List.length_map]
  omega
/-! ### the program's forms -/
def Qf (σ : Heap) (cs : List V) (x : List ByteArray) (R : List Nat) : Prop := ∃ q lim, cs = [.sl q 0 x.length lim] ∧ StrRow σ q x ∧ R = [q]
theorem Qf.keep {σ σ' : Heap} (cs : List V) (x : List ByteArray) (R : List Nat) (h : Qf σ cs x R) (hk : ∀ j, j ∈ R → σ'[j]? = σ[j]?) : Qf σ' cs x R := by
  obtain ⟨q, lim, h1, h2, rfl⟩ := h
  exact ⟨q, lim, h1, h2.keep (hk q (by simp)), rfl⟩
theorem Qf.le {σ σ' : Heap} (hl : Lh σ σ') (cs : List V) (x : List ByteArray) (R : List Nat) (h : Qf σ cs x R) : Qf σ' cs x R := by
  obtain ⟨q, lim, h1, ⟨ty, h2⟩, rfl⟩ := h
  exact ⟨q, lim, h1, ⟨ty, hl.row _ _ h2⟩, rfl⟩
theorem Qf.lt {σ : Heap} (cs : List V) (x : List ByteArray) (R : List Nat) (h : Qf σ cs x R) : ∀ j, j ∈ R → j < σ.length := by
  obtain ⟨q, lim, h1, h2, rfl⟩ := h
  intro j hj
  simp at hj
  subst hj
  exact h2.lt
theorem Qf.sl {σ : Heap} (cs : List V) (x : List ByteArray) (R : List Nat) (h : Qf σ cs x R) : SlP σ cs x := by
  obtain ⟨q, lim, h1, h2, _⟩ := h
  exact ⟨_, h1, h2.rep (fun _ => rfl) lim⟩
structure Fm (σ σi : Heap) (v : V) (L : List (List ByteArray)) (R : List Nat) : Prop where
  r : RepR 1 (Qf σi) σi v L R
  a : At0 v
  nd : R.Nodup
  lo : ∀ j, j ∈ R → σ.length ≤ j
  le : Lh σ σi
theorem Fm.start (σ : Heap) : Fm σ (hnew σ 1 []) (.sl σ.length 0 0 true) [] [σ.length] :=
  ⟨.sl σ.length 0 0 true ⟨[], 1, false, 0⟩ [] [] rfl (by simp [hnew]) rfl rfl (by simp) rfl fun i x R hx => by simp at hx, .inr ⟨_, _, _, rfl⟩, by simp, fun j hj => by simp at hj; omega, Lh.new _ _ _⟩
theorem Fm.up {σ σi σ' : Heap} {v : V} {L : List (List ByteArray)} {R : List Nat} (h : Fm σ σi v L R) (hl : Lh σi σ') : Fm σ σ' v L R := ⟨h.r.le hl fun cs x R hq => Qf.le hl cs x R hq, h.a, h.nd, h.lo, h.le.trans hl⟩
theorem Fm.add {σ σi σ' : Heap} {v w : V} {L : List (List ByteArray)} {R : List Nat} {x : List ByteArray} (h : Fm σ σi v L R) (hl : Lh σi σ') (hw : GrS σi.length σ' w x) (hL : L.length ≤ 1000) :
    ∃ v' σ'' R', vappend 1 24 σ' v 1 [w] = some (v', σ'') ∧ Fm σ σ'' v' (L ++ [x]) R' := by
  have hlt := h.r.lt fun cs x R hq => Qf.lt cs x R hq
  obtain ⟨q, lim, hq, rfl, hS⟩ := hw
  have h' := h.up hl
  obtain ⟨v', σ'', R', g1, g2, g3, g4, g5, g6, g7⟩ := h'.r.app (bytes := 24) h'.a (cs := [.sl q 0 x.length lim]) (x := x) (Rx := [q]) ⟨q, lim, rfl, hS, rfl⟩ rfl (fun cs x R hq hk => Qf.keep cs x R hq hk) (fun cs x R hq => Qf.lt cs x R hq)
    (nodup_far h.nd (by simp) hlt (fun j hj => by simp at hj; omega)) (by omega) (by omega)
  have hlen := h'.le.len
  refine ⟨v', σ'', R', g1, g2, g3, g4, fun j hj => ?_, ⟨by rw [g6]; omega, fun j row hj => ?_⟩⟩
  · rcases g5 j hj with hj | hj | hj
    · omega
    · exact h.lo j hj
    · simp at hj
      have := h.le.len
      omega
  · have hjl := get_lt hj
    rw [g7 j (by omega) fun hc => by have := h.lo j hc; omega]
    exact h'.le.row _ _ hj
theorem forms_ends {m : TreeMod} (hok : ModOk m) {σ : Heap} (hn : TabW' σ) (ht : TypeW σ) {cs : List V} (hr : TreeMod.Rep σ cs m) : HM.Ends G n_impl_TreeMod_forms [.agg cs] σ (fun w σ' => RepS 1 (SlP σ') σ' w (formsW m) ∧ Lh σ σ') := by
  obtain ⟨b1, b2⟩ := body_many hok
  have h8 := hok.2.1
  have hm1 := hok.2.2.1
  cases hr with
  | mk hU hFn hMn =>
  rename_i a0 a1 a2
  refine HM.Ends.mk (W.to (fun k _ => impl_TreeMod_forms.eq k _ _ _ _) ?_)
  have tail : ∀ {σ1 : Heap} {v : V} {R : List Nat}, Fm σ σ1 v (useForm m.uses) R → W (ι := Unit) (fun w σ' => RepS 1 (SlP σ') σ' w (formsW m) ∧ Lh σ σ') (fun _ => False) (fun k _ => (vlen a1).bind fun k7 => (impl_TreeMod_forms.L0 k k [.box [a0, a1, a2], .v v, .v a1, .v (.int .i64 (k7 : Int)), .v (.int .i64 0)] σ1).bind (impl_TreeMod_forms.A0 k)) := by
    intro σ1 v R hF
    have hu1 : (useForm m.uses).length ≤ 1 := by unfold useForm; split <;> simp
    refine W.len hFn ?_
    refine W.loop (S := Nat × V × Heap × List Nat) (fun s => s.1 ≤ m.funs.length ∧ Fm σ s.2.2.1 s.2.1 (useForm m.uses ++ (m.funs.take s.1).map funW) s.2.2.2)
      (fun s => [.box [a0, a1, a2], .v s.2.1, .v a1, .v (.int .i64 (m.funs.length : Int)), .v (.int .i64 (s.1 : Int))]) (fun s => s.2.2.1) (fun s => m.funs.length - s.1) (fun ⟨i, vi, σi, Ri⟩ ⟨hi, hFi⟩ => ?_)
      (0, v, σ1, R) ⟨Nat.zero_le _, by simpa using hF⟩
    simp only at hi hFi ⊢
    refine W.to (fun k _ => by rw [impl_TreeMod_forms.L0_step]) ?_
    refine B.ite (fun hlt => ?_) fun hlt => ?_
    · have hil : i < m.funs.length := by omega
      have hx : m.funs[i]? = some m.funs[i] := List.getElem?_eq_getElem hil
      generalize m.funs[i] = f at hx
      have hfm := List.mem_of_getElem? hx
      obtain ⟨r, o, hv, cs, hr, hP⟩ := hFn.at' hx
      have hr' := hFi.le.rdc hr
      have hP' := TreeFun.Rep.le hFi.le hP
      have hc := implFunWords_ends (hok.2.2.2.2.2.1 f hfm) (b1 f hfm) (hFi.le.row _ _ hn) (hFi.le.row _ _ ht) hP'
      cases hP with
      | mk g1 g2 =>
      try simp only [q_bind_some, castInt_int, q_castBool, q_castStr, q_castPtr, q_castFn, q_castAgg, q_castTuple, q_uncons, q_isNil, q_sl, q_nils, q_emp, q_ptr, q_nilp, q_fn, q_cond_true, q_cond_false, Bool.not_true, Bool.not_false, decide_true, decide_false, List.cons_append, List.nil_append, hv, hr']
      refine B.call hc ?_
      rintro w σ' ⟨p1, p2, p3⟩
      have hl' := p2 σi (Nat.le_refl _) (Lh.refl _)
      have hone : ∀ {β : Type} (K : Option β), one w K = K := fun K => by
        obtain ⟨q, lim, _, rfl, _⟩ := p1
        rfl
      obtain ⟨v', σ'', R', c1, c2⟩ := hFi.add hl' p1 (by simp only [List.length_append, List.length_map, List.length_take]; omega)
      try simp only [q_bind_some, castInt_int, q_castBool, q_castStr, q_castPtr, q_castFn, q_castAgg, q_castTuple, q_uncons, q_isNil, q_sl, q_nils, q_emp, q_ptr, q_nilp, q_fn, q_cond_true, q_cond_false, Bool.not_true, Bool.not_false, decide_true, decide_false, List.cons_append, List.nil_append, hone, c1, wrap_next hil (by omega)]
      exact W.again (i + 1, v', σ'', R') ⟨by show i + 1 ≤ m.funs.length; omega, by rw [take_next' hx, List.map_append, ← List.append_assoc]; exact c2⟩ (by simp only; omega) rfl rfl
    · obtain rfl : i = m.funs.length := by omega
      rw [List.take_length] at hFi
      try simp only [q_bind_some, castInt_int, q_castBool, q_castStr, q_castPtr, q_castFn, q_castAgg, q_castTuple, q_uncons, q_isNil, q_sl, q_nils, q_emp, q_ptr, q_nilp, q_fn, q_cond_true, q_cond_false, Bool.not_true, Bool.not_false, decide_true, decide_false, List.cons_append, List.nil_append, impl_TreeMod_forms.A0_x0]
      refine W.len hMn ?_
      refine W.loop (S := Nat × V × Heap × List Nat) (fun s => s.1 ≤ m.main.length ∧ Fm σ s.2.2.1 s.2.1 (useForm m.uses ++ m.funs.map funW ++ (m.main.take s.1).map mainW') s.2.2.2)
        (fun s => [.v s.2.1, .v a2, .v (.int .i64 (m.main.length : Int)), .v (.int .i64 (s.1 : Int))]) (fun s => s.2.2.1) (fun s => m.main.length - s.1) (fun ⟨i, vi, σi, Ri⟩ ⟨hi, hFi⟩ => ?_)
        (0, vi, σi, Ri) ⟨Nat.zero_le _, by simpa using hFi⟩
      simp only at hi hFi ⊢
      refine W.to (fun k _ => by rw [impl_TreeMod_forms.L1_step]) ?_
      refine B.ite (fun hlt => ?_) fun hlt => ?_
      · have hil : i < m.main.length := by omega
        have hx : m.main[i]? = some m.main[i] := List.getElem?_eq_getElem hil
        generalize m.main[i] = e at hx
        have hem := List.mem_of_getElem? hx
        have hRt := hok.2.2.2.2.2.2.2 e hem
        obtain ⟨r, o, hv, cs, hr, hP⟩ := hMn.at' hx
        have hr' := hFi.le.rdc hr
        have lN : Lh σi (hnew σi 1 ([open1, mainWd].map .str)) := Lh.new _ _ _
        have gN : GrS σi.length (hnew σi 1 ([open1, mainWd].map .str)) (.sl σi.length 0 2 true) [open1, mainWd] := grS_lit σi [open1, mainWd] true 2 rfl
        have hσN : hnew σi 1 [.str (⟨#[40]⟩ : ByteArray), .str (⟨#[109, 97, 105, 110]⟩ : ByteArray)] = hnew σi 1 ([open1, mainWd].map .str) := rfl
        have hP' := TreeExpr.Rep.le hFi.le e hP
        have hme := b2 e hem
        have hwe := wl_le e hRt
        cases hP with
        | mk g1 =>
        try simp only [q_bind_some, castInt_int, q_castBool, q_castStr, q_castPtr, q_castFn, q_castAgg, q_castTuple, q_uncons, q_isNil, q_sl, q_nils, q_emp, q_ptr, q_nilp, q_fn, q_cond_true, q_cond_false, Bool.not_true, Bool.not_false, decide_true, decide_false, List.cons_append, List.nil_append, hv, hr', hσN]
        generalize hnew σi 1 ([open1, mainWd].map .str) = σN at lN gN
        refine B.call (words_ends e hRt (by omega) (hFi.le.row _ _ hn) (Nat.le_refl _) lN hP' gN (by simp; omega)) ?_
        rintro w σ' ⟨p1, p2, p3⟩
        have hl' := p2 σi (Nat.le_refl _) lN
        obtain ⟨v2, σ2, d1, d2, d3, d4⟩ := grS_appL p1 [shut1] (by simp) (by simp; omega)
        have d1' : vappend 1 16 σ' w 1 [.str (⟨#[41]⟩ : ByteArray)] = some (v2, σ2) := d1
        have hone : ∀ {β : Type} (K : Option β), one v2 K = K := fun K => by
          obtain ⟨q, lim, _, rfl, _⟩ := d2
          rfl
        obtain ⟨v', σ'', R', c1, c2⟩ := hFi.add (d3 σi (Nat.le_refl _) hl') d2 (by simp only [List.length_append, List.length_map, List.length_take]; omega)
        try simp only [q_bind_some, castInt_int, q_castBool, q_castStr, q_castPtr, q_castFn, q_castAgg, q_castTuple, q_uncons, q_isNil, q_sl, q_nils, q_emp, q_ptr, q_nilp, q_fn, q_cond_true, q_cond_false, Bool.not_true, Bool.not_false, decide_true, decide_false, List.cons_append, List.nil_append, d1', hone, c1, wrap_next hil (by omega)]
        exact W.again (i + 1, v', σ'', R') ⟨by show i + 1 ≤ m.main.length; omega, by rw [take_next' hx, List.map_append, ← List.append_assoc]; exact c2⟩ (by simp only; omega) rfl rfl
      · obtain rfl : i = m.main.length := by omega
        rw [List.take_length] at hFi
        try simp only [q_bind_some, castInt_int, q_castBool, q_castStr, q_castPtr, q_castFn, q_castAgg, q_castTuple, q_uncons, q_isNil, q_sl, q_nils, q_emp, q_ptr, q_nilp, q_fn, q_cond_true, q_cond_false, Bool.not_true, Bool.not_false, decide_true, decide_false, List.cons_append, List.nil_append, impl_TreeMod_forms.A1_x2]
        exact W.ret ⟨hFi.r.rep fun cs x R _ hq => Qf.sl cs x R hq, hFi.le⟩
  refine W.len hU (W.ite (fun hu => ?_) fun hu => ?_)
  · have hne : m.uses ≠ [] := fun hc => by rw [hc] at hu; simp at hu
    have hform : useForm m.uses = [useW m.uses] := by unfold useForm; rw [if_neg hne]
    have hone : ∀ {β : Type} (K : Option β), one a0 K = K := fun K => one_sl' hU.isSl K
    have l1 : Lh σ (hnew σ 1 []) := Lh.new _ _ _
    have l2 : Lh (hnew σ 1 []) (hnew (hnew σ 1 []) 1 ([open1, useWd].map .str)) := Lh.new _ _ _
    have l3 : Lh (hnew (hnew σ 1 []) 1 ([open1, useWd].map .str)) (hnew (hnew (hnew σ 1 []) 1 ([open1, useWd].map .str)) 1 ([shut1].map .str)) := Lh.new _ _ _
    have g2 := (grS_lit (hnew σ 1 []) [open1, useWd] true 2 rfl)
    have g3 := (grS_lit (hnew (hnew σ 1 []) 1 ([open1, useWd].map .str)) [shut1] true 1 rfl)
    have hσ2 : hnew (hnew σ 1 []) 1 [.str (⟨#[40]⟩ : ByteArray), .str (⟨#[117, 115, 101]⟩ : ByteArray)] = hnew (hnew σ 1 []) 1 ([open1, useWd].map .str) := rfl
    have hσ3 : ∀ τ : Heap, hnew τ 1 [.str (⟨#[41]⟩ : ByteArray)] = hnew τ 1 ([shut1].map .str) := fun τ => rfl
    have hF0 := Fm.start σ
    try simp only [q_bind_some, castInt_int, q_castBool, q_castStr, q_castPtr, q_castFn, q_castAgg, q_castTuple, q_uncons, q_isNil, q_sl, q_nils, q_emp, q_ptr, q_nilp, q_fn, q_cond_true, q_cond_false, Bool.not_true, Bool.not_false, decide_true, decide_false, List.cons_append, List.nil_append, hone, hσ2, hσ3]
    generalize hnew σ 1 [] = σ1 at l1 l2 l3 g2 g3 hF0
    generalize hnew σ1 1 ([open1, useWd].map .str) = σ2 at l2 l3 g2 g3
    generalize hnew σ2 1 ([shut1].map .str) = σ3 at l3 g3
    have l4 : Lh σ3 (hnew σ3 1 [(.sl σ1.length 0 2 true), a0, (.sl σ2.length 0 1 true)]) := Lh.new _ _ _
    have hrow : (hnew σ3 1 [(.sl σ1.length 0 2 true), a0, (.sl σ2.length 0 1 true)])[σ3.length]? = some (some ⟨[(.sl σ1.length 0 2 true), a0, (.sl σ2.length 0 1 true)], 1, false, 0⟩) := by simp [hnew]
    generalize hnew σ3 1 [(.sl σ1.length 0 2 true), a0, (.sl σ2.length 0 1 true)] = σ4 at l4 hrow
    have hrep : RepS 1 (SlP σ4) σ4 (.sl σ3.length 0 3 true) [[open1, useWd], m.uses, [shut1]] := by
      refine .sl σ3.length 0 3 true _ _ rfl hrow rfl (by simp) fun i x hx => ?_
      match i, hx with
      | 0, hx => simp at hx; subst hx; exact ⟨_, rfl, (g2.rep fun _ => rfl).le (l3.trans l4)⟩
      | 1, hx => simp at hx; subst hx; exact ⟨_, rfl, hU.le (l1.trans (l2.trans (l3.trans l4)))⟩
      | 2, hx => simp at hx; subst hx; exact ⟨_, rfl, (g3.rep fun _ => rfl).le l4⟩
      | i + 3, hx => simp at hx
    have h4u := hok.1
    refine W.call (concat_ends hrep (by simp) (by simp [totS]; omega) (by simp [totS]; omega) (fun x hx => by
      simp at hx
      rcases hx with rfl | rfl | rfl
      · simp
      · exact hne
      · simp)) ?_
    rintro w σ5 ⟨p1, p2, p3⟩
    have l45 := p2 σ4 (Nat.le_refl _) (Lh.refl _)
    have hone2 : ∀ {β : Type} (K : Option β), one w K = K := fun K => by
      obtain ⟨q, lim, _, rfl, _⟩ := p1
      rfl
    have l15 := (l2.trans (l3.trans l4)).trans l45
    obtain ⟨v', σ6, R', c1, c2⟩ := hF0.add l15 (GrS.down p1 (l2.trans (l3.trans l4)).len) (by simp)
    try simp only [q_bind_some, castInt_int, q_castBool, q_castStr, q_castPtr, q_castFn, q_castAgg, q_castTuple, q_uncons, q_isNil, q_sl, q_nils, q_emp, q_ptr, q_nilp, q_fn, q_cond_true, q_cond_false, Bool.not_true, Bool.not_false, decide_true, decide_false, List.cons_append, List.nil_append, hone2, c1]
    refine tail (v := v') (R := R') ?_
    rw [hform]
    have e : useW m.uses = [[open1, useWd], m.uses, [shut1]].flatten := by simp [useW]
    rw [e]
    exact c2
  · have hne : m.uses = [] := by
      cases hm : m.uses with
      | nil => rfl
      | cons x l => rw [hm] at hu; simp at hu
    have hform : useForm m.uses = [] := by unfold useForm; rw [if_pos hne]
    refine tail (R := [σ.length]) ?_
    rw [hform]
    exact Fm.start σ
end Go.D

/- TreePrint of the program and of the reference. -/
set_option linter.unusedVariables false
set_option linter.unusedSimpArgs false
namespace Go.D
open Go.HM Go.Proofs
def lineW (ws : List ByteArray) : List UInt8 := (joined ws).data.toList ++ [10]
def printL (m : TreeMod) : List UInt8 := catL lineW (formsW m) (formsW m).length
theorem line_le {ws : List ByteArray} (h : ws.length ≤ 700 ∧ totS ByteArray.size ws ≤ 5000) : (lineW ws).length ≤ 6000 := by
  have := joined_size ws
  have h2 := ba_list (joined ws)
  unfold lineW
  simp only [List.length_append, List.length_cons, List.length_nil]
  omega
theorem print_le {m : TreeMod} (h : ModOk m) (i : Nat) (hi : i ≤ (formsW m).length) : (catL lineW (formsW m) i).length ≤ 6000 * i := by
  have h1 := catL_len (f := lineW) (g := fun _ => 6000) (fun x hx => line_le (forms_le h x hx)) i hi
  have : ∀ l : List (List ByteArray), totS (fun _ => 6000) l = 6000 * l.length := fun l => by
    induction l with
    | nil => rfl
    | cons x l ih => simp only [totS, List.length_cons, ih]; omega
  rw [this, List.length_take, Nat.min_eq_left hi] at h1
  exact h1
/-- Rows of single cells stay. -/
def K1c (σ σ' : Heap) : Prop := σ.length ≤ σ'.length ∧ ∀ (j : Nat) (row : Row), σ[j]? = some (some row) → row.esz = 1 → σ'[j]? = some (some row)
theorem rep_k1c {α : Type} {P : List V → α → Prop} {σ σ' : Heap} {v : V} {l : List α} (h : RepS 1 P σ v l) (k : K1c σ σ') : RepS 1 P σ' v l := by
  cases h with
  | nils => exact .nils
  | emp => exact .emp
  | sl q o' n lim row' l h1 h2 h3 h4 h5 => exact .sl q o' n lim row' l h1 (k.2 _ _ h2 h3) h3 h4 h5
theorem implTreePrint_gives {σ : Heap} (htw : TypeW σ) (hnw : TabW' σ) {m : TreeMod} (hF : m.Fit) (ht : m.total ≤ 1048576) {cs : List V} (h : TreeMod.Rep σ cs m) : Gives G n_impl_TreePrint [.agg cs] σ (.str (if ModOk m then ba (printL m) else ⟨#[]⟩)) := by
  have c1 := implTreeOk_gives hF ht h
  have h' := h
  cases h' with
  | mk h0 h1 h2 =>
  rename_i b0 b1 b2
  refine Gives.of (W.to (fun k _ => impl_TreePrint.eq k _ _ _ _) ?_)
  refine W.give c1 fun σ1 l1 => ?_
  by_cases hok : ModOk m
  rotate_left
  · try simp only [q_bind_some, castInt_int, q_castBool, q_castStr, q_castPtr, q_castFn, q_castAgg, q_castTuple, q_uncons, q_isNil, q_sl, q_nils, q_emp, q_ptr, q_nilp, q_fn, q_cond_true, q_cond_false, Bool.not_true, Bool.not_false, decide_true, decide_false, List.cons_append, List.nil_append, decide_eq_false hok]
    exact W.ret ⟨by rw [if_neg hok], l1⟩
  try simp only [q_bind_some, castInt_int, q_castBool, q_castStr, q_castPtr, q_castFn, q_castAgg, q_castTuple, q_uncons, q_isNil, q_sl, q_nils, q_emp, q_ptr, q_nilp, q_fn, q_cond_true, q_cond_false, Bool.not_true, Bool.not_false, decide_true, decide_false, List.cons_append, List.nil_append, decide_eq_true hok]
  rw [if_pos hok]
  have h10 := forms_len hok
  have hpl := fun i hi => print_le hok i hi
  have hno : ∀ row, σ1[σ1.length]? ≠ some (some row) := fun row hc => by rw [List.getElem?_eq_none (Nat.le_refl _)] at hc; cases hc
  have lN : Lh σ1 (hnewT σ1 (hbT + 1) 2 [.nilp, .nils]) := Lh.append _ _
  have l1N := l1.trans lN
  have hB0 := Bld.new σ1
  refine W.call (forms_ends hok (l1N.row _ _ hnw) (l1N.row _ _ htw) (TreeMod.Rep.le l1N h)) ?_
  rintro w σ2 ⟨hrep, l2⟩
  have hbrow : ∃ row, σ2[σ1.length]? = some (some row) ∧ row.esz = 2 := by
    obtain ⟨bx, bv, hr, _⟩ := hB0.keep l2
    exact ⟨_, hr, rfl⟩
  have hn2 : σ1.length + 1 ≤ σ2.length := Nat.le_trans (by simp [hnewT]) l2.len
  try simp only [q_bind_some, castInt_int, q_castBool, q_castStr, q_castPtr, q_castFn, q_castAgg, q_castTuple, q_uncons, q_isNil, q_sl, q_nils, q_emp, q_ptr, q_nilp, q_fn, q_cond_true, q_cond_false, Bool.not_true, Bool.not_false, decide_true, decide_false, List.cons_append, List.nil_append]
  refine W.len hrep ?_
  refine W.loop (S := Nat × Heap) (fun s => s.1 ≤ (formsW m).length ∧ Bld σ2.length s.2 σ1.length (ba (catL lineW (formsW m) s.1)) ∧ K1c σ2 s.2 ∧ Lh σ1 s.2)
    (fun s => [.v (.ptr σ1.length 0), .v w, .v (.int .i64 ((formsW m).length : Int)), .v (.int .i64 (s.1 : Int))]) (fun s => s.2) (fun s => (formsW m).length - s.1)
    (fun ⟨i, σi⟩ ⟨hi, hB, hK, lhi⟩ => ?_) (0, σ2) ⟨Nat.zero_le _, by rw [catL_zero]; exact (hB0.keep l2).up, ⟨Nat.le_refl _, fun j row hj _ => hj⟩, lN.trans l2⟩
  simp only at hi hB hK lhi ⊢
  have hl := hpl i hi
  refine W.to (fun k _ => by rw [impl_TreePrint.L0_step]) ?_
  refine B.ite (fun hlt => ?_) fun hlt => ?_
  rotate_left
  · obtain rfl : i = (formsW m).length := by omega
    try simp only [q_bind_some, castInt_int, q_castBool, q_castStr, q_castPtr, q_castFn, q_castAgg, q_castTuple, q_uncons, q_isNil, q_sl, q_nils, q_emp, q_ptr, q_nilp, q_fn, q_cond_true, q_cond_false, Bool.not_true, Bool.not_false, decide_true, decide_false, List.cons_append, List.nil_append, impl_TreePrint.A0_x0]
    obtain ⟨σ4, c4, K4⟩ := builderText_runs hB (by rw [ba_size]; omega)
    refine W.run c4 ?_
    try simp only [q_bind_some, castInt_int, q_castBool, q_castStr, q_castPtr, q_castFn, q_castAgg, q_castTuple, q_uncons, q_isNil, q_sl, q_nils, q_emp, q_ptr, q_nilp, q_fn, q_cond_true, q_cond_false, Bool.not_true, Bool.not_false, decide_true, decide_false, List.cons_append, List.nil_append]
    exact W.ret ⟨rfl, l1.trans (K4.lh lhi (by omega) hno)⟩
  have hil : i < (formsW m).length := by omega
  have hx : (formsW m)[i]? = some (formsW m)[i] := List.getElem?_eq_getElem hil
  generalize (formsW m)[i] = x at hx
  have hxl := forms_le hok x (List.mem_of_getElem? hx)
  have hll := line_le hxl
  have hstep := catL_next (f := lineW) hx
  have hrepi : RepS 1 (SlP σi) σi w (formsW m) := (rep_k1c hrep hK).mono (Lh.refl _) fun cs x _ ⟨u, e1, e2⟩ => ⟨u, e1, rep_k1c e2 hK⟩
  obtain ⟨r, o, hv, cs, hr, u, rfl, hu⟩ := hrepi.at' hx
  try simp only [q_bind_some, castInt_int, q_castBool, q_castStr, q_castPtr, q_castFn, q_castAgg, q_castTuple, q_uncons, q_isNil, q_sl, q_nils, q_emp, q_ptr, q_nilp, q_fn, q_cond_true, q_cond_false, Bool.not_true, Bool.not_false, decide_true, decide_false, List.cons_append, List.nil_append, hv, hr]
  refine B.give (implLexJoin_gives (by omega) hu) fun σ3 l3 => ?_
  have hje := ba_self (joined x)
  have hlx : (lineW x) = (joined x).data.toList ++ [10] := rfl
  rw [hlx] at hstep hll
  simp only [List.length_append, List.length_cons, List.length_nil] at hll
  generalize (joined x).data.toList = jt at hje hstep hll
  try simp (disch := (simp only [List.length_append, List.length_cons, List.length_nil]; omega)) only [q_bind_some, castInt_int, q_castBool, q_castStr, q_castPtr, q_castFn, q_castAgg, q_castTuple, q_uncons, q_isNil, q_sl, q_nils, q_emp, q_ptr, q_nilp, q_fn, q_cond_true, q_cond_false, Bool.not_true, Bool.not_false, decide_true, decide_false, List.cons_append, List.nil_append, mk_ba, ba2, fitB, hje]
  have hlen3 : σ2.length ≤ σ3.length := Nat.le_trans hK.1 l3.len
  obtain ⟨σ5, c5, B5, K5⟩ := writeString_runs (F := σ2.length) hlen3 (hB.keep l3) (ba (jt ++ [10])) (by rw [ba_size, ba_size]; simp only [List.length_append, List.length_cons, List.length_nil]; omega)
  refine B.run c5 ?_
  try simp (disch := (simp only [List.length_append, List.length_cons, List.length_nil]; omega)) only [q_bind_some, castInt_int, q_castBool, q_castStr, q_castPtr, q_castFn, q_castAgg, q_castTuple, q_uncons, q_isNil, q_sl, q_nils, q_emp, q_ptr, q_nilp, q_fn, q_cond_true, q_cond_false, Bool.not_true, Bool.not_false, decide_true, decide_false, List.cons_append, List.nil_append, mk_ba, ba2, fitB, wrap_next hil (by omega)]
  rw [ba2, ← hstep] at B5
  refine W.again (i + 1, σ5) ⟨by show i + 1 ≤ (formsW m).length; omega, B5, ⟨Nat.le_trans hlen3 K5.1, fun j row hj he => ?_⟩, K5.lh (lhi.trans l3) (by omega) hno⟩ (by simp only; omega) rfl rfl
  show σ5[j]? = _
  rw [K5.2 j (get_lt hj) fun hc => by
    subst hc
    obtain ⟨row', e1, e2⟩ := hbrow
    rw [e1] at hj
    injection hj with hj; injection hj with hj
    subst hj
    omega]
  exact l3.row _ _ (hK.2 j row hj he)
theorem use_line (u : List ByteArray) : catL lineW (useForm u) (useForm u).length = if u = [] then [] else lineW (useW u) := by
  unfold useForm
  split
  · rfl
  · simp [catL]
theorem print_split (m : TreeMod) : printL m = (if m.uses = [] then [] else lineW (useW m.uses)) ++ catL (fun f => lineW (funW f)) m.funs m.funs.length ++ catL (fun e => lineW (mainW' e)) m.main m.main.length := by
  rw [← use_line]
  unfold printL formsW catL
  simp only [List.take_length, List.map_append, List.flatten_append, List.map_map, Function.comp_def]
theorem specTreePrint_gives {σ : Heap} {m : TreeMod} (hF : m.Fit) (ht : m.total ≤ 1048576) {cs : List V} (h : TreeMod.Rep σ cs m) : Gives G n_spec_TreePrint [.agg cs] σ (.str (if ModOk m then ba (printL m) else ⟨#[]⟩)) := by
  have c1 := specTreeOk_gives hF ht h
  cases h with
  | mk hU hFn hMn =>
  rename_i a0 a1 a2
  refine Gives.of (W.to (fun k _ => spec_TreePrint.eq k _ _ _ _) ?_)
  refine W.give c1 fun σ1 l1 => ?_
  by_cases hok : ModOk m
  rotate_left
  · try simp only [q_bind_some, castInt_int, q_castBool, q_castStr, q_castPtr, q_castFn, q_castAgg, q_castTuple, q_uncons, q_isNil, q_sl, q_nils, q_emp, q_ptr, q_nilp, q_fn, q_cond_true, q_cond_false, Bool.not_true, Bool.not_false, decide_true, decide_false, List.cons_append, List.nil_append, decide_eq_false hok]
    exact W.ret ⟨by rw [if_neg hok], l1⟩
  try simp only [q_bind_some, castInt_int, q_castBool, q_castStr, q_castPtr, q_castFn, q_castAgg, q_castTuple, q_uncons, q_isNil, q_sl, q_nils, q_emp, q_ptr, q_nilp, q_fn, q_cond_true, q_cond_false, Bool.not_true, Bool.not_false, decide_true, decide_false, List.cons_append, List.nil_append, decide_eq_true hok]
  rw [if_pos hok]
  obtain ⟨b1, b2⟩ := body_many hok
  have h8 := hok.2.1
  have hm1 := hok.2.2.1
  have hle := forms_le hok
  have hTl : (if m.uses = [] then [] else lineW (useW m.uses)).length ≤ 6000 := by
    split
    · simp
    · rename_i hne
      refine line_le (hle _ ?_)
      unfold formsW useForm
      rw [if_neg hne]
      simp
  have hFl : ∀ i, i ≤ m.funs.length → (catL (fun f => lineW (funW f)) m.funs i).length ≤ 48000 := fun i hi => by
    have h1 := catL_len (f := fun f => lineW (funW f)) (g := fun _ : TreeFun => 6000) (fun f hf => line_le (funW_le (hok.2.2.2.2.2.1 f hf) (b1 f hf))) i hi
    have : ∀ l : List TreeFun, totS (fun _ => 6000) l = 6000 * l.length := fun l => by
      induction l with
      | nil => rfl
      | cons x l ih => simp only [totS, List.length_cons, ih]; omega
    rw [this, List.length_take, Nat.min_eq_left hi] at h1
    omega
  rw [print_split]
  obtain ⟨T0, hT0⟩ : ∃ T0, (if m.uses = [] then [] else lineW (useW m.uses)) = T0 := ⟨_, rfl⟩
  rw [hT0] at hTl ⊢
  have tail : ∀ {σ2 : Heap}, Lh σ σ2 → W (ι := Unit) (fun w σ' => w = .str (ba (T0 ++ catL (fun f => lineW (funW f)) m.funs m.funs.length ++ catL (fun e => lineW (mainW' e)) m.main m.main.length)) ∧ Lh σ σ') (fun _ => False) (fun k _ => (spec_TreePrint.L0 k k [.box [a0, a1, a2], .v (.str (ba T0)), .v (.int .i64 0)] σ2).bind (spec_TreePrint.A0 k)) := by
    intro σ2 l2
    rw [show ba T0 = ba (T0 ++ catL (fun f => lineW (funW f)) m.funs 0) by rw [catL_zero, List.append_nil]]
    refine W.loop (S := Nat × Heap) (fun s => s.1 ≤ m.funs.length ∧ Lh σ s.2) (fun s => [.box [a0, a1, a2], .v (.str (ba (T0 ++ catL (fun f => lineW (funW f)) m.funs s.1))), .v (.int .i64 (s.1 : Int))]) (fun s => s.2) (fun s => m.funs.length - s.1)
      (fun ⟨i, σi⟩ ⟨hi, hl⟩ => ?_) (0, σ2) ⟨Nat.zero_le _, l2⟩
    simp only at hi hl ⊢
    have hfi := hFl i hi
    refine W.to (fun k _ => by rw [spec_TreePrint.L0_step]) ?_
    refine B.len hFn (B.ite (fun hlt => ?_) fun hlt => ?_)
    · have hil : i < m.funs.length := by omega
      have hx : m.funs[i]? = some m.funs[i] := List.getElem?_eq_getElem hil
      generalize m.funs[i] = f at hx
      have hfm := List.mem_of_getElem? hx
      have hfok := hok.2.2.2.2.2.1 f hfm
      have hfle := funW_le hfok (b1 f hfm)
      have hstep := catL_next (f := fun f => lineW (funW f)) hx
      have hll := line_le hfle
      obtain ⟨r, o, hv, cs, hr, hP⟩ := hFn.at' hx
      have hr' := hl.rdc hr
      have hP' := TreeFun.Rep.le hl hP
      have hc := specFunWords_ends hfok (b1 f hfm) hP'
      cases hP with
      | mk g1 g2 =>
      try simp only [q_bind_some, castInt_int, q_castBool, q_castStr, q_castPtr, q_castFn, q_castAgg, q_castTuple, q_uncons, q_isNil, q_sl, q_nils, q_emp, q_ptr, q_nilp, q_fn, q_cond_true, q_cond_false, Bool.not_true, Bool.not_false, decide_true, decide_false, List.cons_append, List.nil_append, hv, hr']
      refine B.call hc ?_
      rintro w σ' ⟨p1, p2, p3⟩
      refine B.run (specLexJoin_runs (by omega) (p1.rep (P := StrRep) fun _ => rfl)) ?_
      have hje := ba_self (joined (funW f))
      have hlx : (lineW (funW f)) = (joined (funW f)).data.toList ++ [10] := rfl
      rw [hlx] at hstep hll
      simp only [List.length_append, List.length_cons, List.length_nil] at hll
      generalize (joined (funW f)).data.toList = jt at hje hstep hll
      try simp (disch := (simp only [List.length_append, List.length_cons, List.length_nil]; omega)) only [q_bind_some, castInt_int, q_castBool, q_castStr, q_castPtr, q_castFn, q_castAgg, q_castTuple, q_uncons, q_isNil, q_sl, q_nils, q_emp, q_ptr, q_nilp, q_fn, q_cond_true, q_cond_false, Bool.not_true, Bool.not_false, decide_true, decide_false, List.cons_append, List.nil_append, mk_ba, ba2, fitB, hje, wrap_next hil (by omega)]
      exact W.again (i + 1, σ') ⟨by show i + 1 ≤ m.funs.length; omega, hl.trans (p2 σi (Nat.le_refl _) (Lh.refl _))⟩ (by simp only; omega) (by simp only [hstep, List.append_assoc]) rfl
    · obtain rfl : i = m.funs.length := by omega
      try simp only [q_bind_some, castInt_int, q_castBool, q_castStr, q_castPtr, q_castFn, q_castAgg, q_castTuple, q_uncons, q_isNil, q_sl, q_nils, q_emp, q_ptr, q_nilp, q_fn, q_cond_true, q_cond_false, Bool.not_true, Bool.not_false, decide_true, decide_false, List.cons_append, List.nil_append, spec_TreePrint.A0_x0]
      refine W.len hMn (W.ite (fun h0 => ?_) fun h0 => ?_)
      · obtain ⟨e, hmm⟩ : ∃ e, m.main = [e] := by
          cases hm : m.main with
          | nil => rw [hm] at h0; simp at h0
          | cons x l =>
            cases l with
            | nil => exact ⟨x, rfl⟩
            | cons y l => rw [hm] at hm1; simp at hm1
        have hx : m.main[0]? = some e := by rw [hmm]; rfl
        have hem : e ∈ m.main := by rw [hmm]; simp
        have hRt := hok.2.2.2.2.2.2.2 e hem
        obtain ⟨r, o, hv, cs, hr, hP⟩ := hMn.at' hx
        have hv' : vidx 5 a2 0 = some (r, o) := hv
        have lN : Lh σi (hnew σi 1 ([open1, mainWd].map .str)) := Lh.new _ _ _
        have gN : GrS σi.length (hnew σi 1 ([open1, mainWd].map .str)) (.sl σi.length 0 2 true) [open1, mainWd] := grS_lit σi [open1, mainWd] true 2 rfl
        have hσN : hnew σi 1 [.str (⟨#[40]⟩ : ByteArray), .str (⟨#[109, 97, 105, 110]⟩ : ByteArray)] = hnew σi 1 ([open1, mainWd].map .str) := rfl
        have hr' := (hl.trans lN).rdc hr
        have hP' := TreeExpr.Rep.le (hl.trans lN) e hP
        have hme := b2 e hem
        have hwe := wl_le e hRt
        have hxle := hle (mainW' e) (by unfold formsW; exact List.mem_append_right _ (List.mem_map_of_mem hem))
        have hll := line_le hxle
        cases hP with
        | mk g1 =>
        rw [hσN]
        generalize hnew σi 1 ([open1, mainWd].map .str) = σN at lN gN hr' hP'
        try simp only [q_bind_some, castInt_int, q_castBool, q_castStr, q_castPtr, q_castFn, q_castAgg, q_castTuple, q_uncons, q_isNil, q_sl, q_nils, q_emp, q_ptr, q_nilp, q_fn, q_cond_true, q_cond_false, Bool.not_true, Bool.not_false, decide_true, decide_false, List.cons_append, List.nil_append, hv', hr']
        refine W.call (l2Words_ends e hRt (by omega) hP') ?_
        rintro w σ' ⟨p1, p2, p3⟩
        have l' := p2 σN (Nat.le_refl _) (Lh.refl _)
        obtain ⟨v3, σ3, d1, d2, d3, d4⟩ := grS_appL (gN.le l') e.wl hwe.2.2 (by simp; omega)
        obtain ⟨v4, σ4, e1, e2, e3, e4⟩ := grS_appL d2 [shut1] (by simp) (by simp; omega)
        have e1' : vappend 1 16 σ3 v3 1 [.str (⟨#[41]⟩ : ByteArray)] = some (v4, σ4) := e1
        try simp only [q_bind_some, castInt_int, q_castBool, q_castStr, q_castPtr, q_castFn, q_castAgg, q_castTuple, q_uncons, q_isNil, q_sl, q_nils, q_emp, q_ptr, q_nilp, q_fn, q_cond_true, q_cond_false, Bool.not_true, Bool.not_false, decide_true, decide_false, List.cons_append, List.nil_append, grS_cells p1, d1, e1']
        have e2' : GrS σi.length σ4 v4 (mainW' e) := e2
        refine W.run (specLexJoin_runs (by omega) (e2'.rep (P := StrRep) fun _ => rfl)) ?_
        have hcat : catL (fun e => lineW (mainW' e)) [e] [e].length = lineW (mainW' e) := by simp [catL]
        have hje := ba_self (joined (mainW' e))
        have hlx : (lineW (mainW' e)) = (joined (mainW' e)).data.toList ++ [10] := rfl
        rw [hlx] at hcat hll
        simp only [List.length_append, List.length_cons, List.length_nil] at hll
        generalize (joined (mainW' e)).data.toList = jt at hje hcat hll
        try simp (disch := (simp only [List.length_append, List.length_cons, List.length_nil]; omega)) only [q_bind_some, castInt_int, q_castBool, q_castStr, q_castPtr, q_castFn, q_castAgg, q_castTuple, q_uncons, q_isNil, q_sl, q_nils, q_emp, q_ptr, q_nilp, q_fn, q_cond_true, q_cond_false, Bool.not_true, Bool.not_false, decide_true, decide_false, List.cons_append, List.nil_append, mk_ba, ba2, fitB, hje]
        refine W.ret ⟨?_, e3 σ (by have := hl.len; omega) (d3 σ (by have := hl.len; omega) (hl.trans (lN.trans l')))⟩
        rw [hmm, hcat]
        simp only [List.append_assoc]
      · have hmm : m.main = [] := by
          cases hm : m.main with
          | nil => rfl
          | cons x l => rw [hm] at h0; simp at h0
        refine W.ret ⟨?_, hl⟩
        rw [hmm]
        simp [catL]
  refine W.len hU (W.ite (fun hu => ?_) fun hu => ?_)
  · have hne : m.uses ≠ [] := fun hc => by rw [hc] at hu; simp at hu
    rw [if_neg hne] at hT0
    have hxle := hle (useW m.uses) (by unfold formsW useForm; rw [if_neg hne]; simp)
    have lN : Lh σ1 (hnew σ1 1 ([open1, useWd].map .str)) := Lh.new _ _ _
    have gN : GrS σ1.length (hnew σ1 1 ([open1, useWd].map .str)) (.sl σ1.length 0 2 true) [open1, useWd] := grS_lit σ1 [open1, useWd] true 2 rfl
    have hσN : hnew σ1 1 [.str (⟨#[40]⟩ : ByteArray), .str (⟨#[117, 115, 101]⟩ : ByteArray)] = hnew σ1 1 ([open1, useWd].map .str) := rfl
    rw [hσN]
    generalize hnew σ1 1 ([open1, useWd].map .str) = σN at lN gN
    have h4u := hok.1
    obtain ⟨v3, σ3, d1, d2, d3, d4⟩ := grS_appL gN m.uses hne (by simp; omega)
    obtain ⟨v4, σ4, e1, e2, e3, e4⟩ := grS_appL d2 [shut1] (by simp) (by simp; omega)
    have e1' : vappend 1 16 σ3 v3 1 [.str (⟨#[41]⟩ : ByteArray)] = some (v4, σ4) := e1
    try simp only [q_bind_some, castInt_int, q_castBool, q_castStr, q_castPtr, q_castFn, q_castAgg, q_castTuple, q_uncons, q_isNil, q_sl, q_nils, q_emp, q_ptr, q_nilp, q_fn, q_cond_true, q_cond_false, Bool.not_true, Bool.not_false, decide_true, decide_false, List.cons_append, List.nil_append, rep_cells (hU.le (l1.trans lN)), d1, e1']
    have e2' : GrS σ1.length σ4 v4 (useW m.uses) := e2
    refine W.run (specLexJoin_runs (by omega) (e2'.rep (P := StrRep) fun _ => rfl)) ?_
    have hje := ba_self (joined (useW m.uses))
    have hlx : (lineW (useW m.uses)) = (joined (useW m.uses)).data.toList ++ [10] := rfl
    rw [hlx] at hT0
    have hjl : (joined (useW m.uses)).data.toList.length ≤ 6000 := by rw [← hT0, List.length_append] at hTl; omega
    generalize (joined (useW m.uses)).data.toList = jt at hje hT0 hjl
    try simp (disch := (simp only [List.length_append, List.length_cons, List.length_nil]; omega)) only [q_bind_some, castInt_int, q_castBool, q_castStr, q_castPtr, q_castFn, q_castAgg, q_castTuple, q_uncons, q_isNil, q_sl, q_nils, q_emp, q_ptr, q_nilp, q_fn, q_cond_true, q_cond_false, Bool.not_true, Bool.not_false, decide_true, decide_false, List.cons_append, List.nil_append, mk_ba, ba2, fitB, hje]
    rw [hT0]
    exact tail (e3 σ (by have := l1.len; omega) (d3 σ (by have := l1.len; omega) (l1.trans lN)))
  · have hne : m.uses = [] := by
      cases hm : m.uses with
      | nil => rfl
      | cons x l => rw [hm] at hu; simp at hu
    rw [if_pos hne] at hT0
    have h0 : (⟨#[]⟩ : ByteArray) = ba T0 := by rw [← hT0]; rfl
    rw [h0]
    exact tail l1
end Go.D

/- What the law on TreePrint computes. -/
set_option linter.unusedVariables false
set_option linter.unusedSimpArgs false
namespace Go.D
open Go.HM Go.Proofs
theorem FnExactTreePrint_law {σ : Heap} (hv : VarsFnExactTreePrint σ) {y0 : TreeMod} (f0 : TreeMod.Fit y0) {xs0 : List V} (r0 : TreeMod.Rep σ xs0 y0) : ∃ σ', Runs G n_laws_FnExactTreePrint [.agg xs0] σ (.bool true) σ' := by
  refine Ends.true (Ends.mk ?_)
  have c0 := szTreeMod_runs y0 f0 r0 (b := 1048576) (by omega) (by omega)
  have q0 := r0
  cases q0 with
  | mk p0 p1 p2 =>
  refine W.to (fun k _ => laws_FnExactTreePrint.eq k _ _ _ _) ?_
  refine W.run c0 ?_
  try simp only [q_bind_some, castInt_int, q_castBool, q_castStr, q_castPtr, q_castFn, q_castAgg, q_castTuple, q_uncons, q_isNil, q_sl, q_nils, q_emp, q_ptr, q_nilp, q_fn, q_cond_true, q_cond_false, Bool.not_true, Bool.not_false, decide_true, decide_false, List.cons_append, List.nil_append]
  refine W.ite (fun _ => W.ret rfl) fun hs => ?_
  have ht : y0.total ≤ 1048576 := by have := sub_cases 1048576 y0.total; omega
  obtain ⟨cs1, σ1, c1, l1, r1⟩ := toTreeMod_runs y0 ht r0
  replace r1 := r1.le (Lh.wipe _ _)
  have q1 := r1
  cases q1 with
  | mk p0 p1 p2 =>
  refine W.run c1 ?_
  try simp only [q_bind_some, castInt_int, q_castBool, q_castStr, q_castPtr, q_castFn, q_castAgg, q_castTuple, q_uncons, q_isNil, q_sl, q_nils, q_emp, q_ptr, q_nilp, q_fn, q_cond_true, q_cond_false, Bool.not_true, Bool.not_false, decide_true, decide_false, List.cons_append, List.nil_append]
  refine W.give (specTreePrint_gives f0 ht r1) fun σ2 l2 => ?_
  try simp only [q_bind_some, castInt_int, q_castBool, q_castStr, q_castPtr, q_castFn, q_castAgg, q_castTuple, q_uncons, q_isNil, q_sl, q_nils, q_emp, q_ptr, q_nilp, q_fn, q_cond_true, q_cond_false, Bool.not_true, Bool.not_false, decide_true, decide_false, List.cons_append, List.nil_append]
  have l02 := l1.trans l2
  obtain ⟨cs3, σ3, c3, l3, r3⟩ := toTreeMod_runs y0 ht (r0.le l02)
  replace r3 := r3.le (Lh.wipe _ _)
  have q1 := r3
  cases q1 with
  | mk p0 p1 p2 =>
  refine W.run c3 ?_
  try simp only [q_bind_some, castInt_int, q_castBool, q_castStr, q_castPtr, q_castFn, q_castAgg, q_castTuple, q_uncons, q_isNil, q_sl, q_nils, q_emp, q_ptr, q_nilp, q_fn, q_cond_true, q_cond_false, Bool.not_true, Bool.not_false, decide_true, decide_false, List.cons_append, List.nil_append]
  have hv3 := hv.le (l02.trans l3)
  refine W.give (implTreePrint_gives hv3.v3 hv3.v2 f0 ht r3) fun σ4 l4 => ?_
  have l04 := l02.trans (l3.trans l4)
  try simp only [q_bind_some, castInt_int, q_castBool, q_castStr, q_castPtr, q_castFn, q_castAgg, q_castTuple, q_uncons, q_isNil, q_sl, q_nils, q_emp, q_ptr, q_nilp, q_fn, q_cond_true, q_cond_false, Bool.not_true, Bool.not_false, decide_true, decide_false, List.cons_append, List.nil_append]
  obtain ⟨cs5, σ5, c5, l5, r5⟩ := toTreeMod_runs y0 ht (r0.le l04)
  replace r5 := r5.le (Lh.wipe _ _)
  have q1 := r5
  cases q1 with
  | mk p0 p1 p2 =>
  refine W.run c5 ?_
  try simp only [q_bind_some, castInt_int, q_castBool, q_castStr, q_castPtr, q_castFn, q_castAgg, q_castTuple, q_uncons, q_isNil, q_sl, q_nils, q_emp, q_ptr, q_nilp, q_fn, q_cond_true, q_cond_false, Bool.not_true, Bool.not_false, decide_true, decide_false, List.cons_append, List.nil_append]
  obtain ⟨b, c6, hb⟩ := eqTreeMod_runs y0 y0 f0 (r3.le (l4.trans l5)) r5
  obtain rfl := hb.2 rfl
  refine W.run c6 ?_
  try simp only [q_bind_some, castInt_int, q_castBool, q_castStr, q_castPtr, q_castFn, q_castAgg, q_castTuple, q_uncons, q_isNil, q_sl, q_nils, q_emp, q_ptr, q_nilp, q_fn, q_cond_true, q_cond_false, Bool.not_true, Bool.not_false, decide_true, decide_false, List.cons_append, List.nil_append]
  exact W.ret rfl
end Go.D
