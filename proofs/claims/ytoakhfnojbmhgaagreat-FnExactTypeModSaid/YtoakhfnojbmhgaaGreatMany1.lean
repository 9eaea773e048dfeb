/- The contracts of this claim, laid together: part 1. -/
import Derived.Test.YtoakhfnojbmhgaaGreatMany0
import Derived.Test.YtoakhfnojbmhgaaGreatHMWp
import Derived.Test.YtoakhfnojbmhgaaGreatK
import Derived.Test.YtoakhfnojbmhgaaGreatHMProt
import Derived.Test.YtoakhfnojbmhgaaGreatHMLast
import Derived.Test.YtoakhfnojbmhgaaGreatC
import Derived.Test.YtoakhfnojbmhgaaGreatHMOpen
/- TreeOk of the program. -/
set_option linter.unusedVariables false
set_option linter.unusedSimpArgs false
namespace Go.G
open Go.HM Go.Proofs
theorem sizesOk_at : ∀ (l : List TreeExpr) (n i : Nat) (x : TreeExpr), l[i]? = some x → sizesOk n l → n + totS TreeExpr.many (l.take i) + x.many ≤ 150 ∧ x.deep ≤ 16
  | y :: l, n, 0, x, hx, h => by
    simp at hx; subst hx
    exact ⟨by simpa [totS] using h.1, h.2.1⟩
  | y :: l, n, i + 1, x, hx, h => by
    have := sizesOk_at l (n + y.many) i x (by simpa using hx) h.2.2
    rw [List.take_succ_cons, totS]
    omega
theorem sizesOk_of : ∀ (l : List TreeExpr) (n : Nat), (∀ i x, l[i]? = some x → n + totS TreeExpr.many (l.take i) + x.many ≤ 150 ∧ x.deep ≤ 16) → sizesOk n l
  | [], n, h => trivial
  | y :: l, n, h => by
    have h0 := h 0 y (by simp)
    refine ⟨by simpa [totS] using h0.1, h0.2, sizesOk_of l _ fun i x hx => ?_⟩
    have := h (i + 1) x (by simpa using hx)
    rw [List.take_succ_cons, totS] at this
    omega
theorem implTreeOk_gives {σ : Heap} {m : TreeMod} (hF : m.Fit) (htot : m.total ≤ 1048576) {cs : List V} (hr : TreeMod.Rep σ cs m) : Gives G n_impl_TreeOk [.agg cs] σ (.bool (decide (ModOk m))) := by
  have htot' := htot
  rw [TreeMod.total_eq] at htot'
  have hb : ∀ x, x ∈ bodies m → x.total ≤ 1048576 := by
    intro x hx
    rcases List.mem_append.1 hx with h | h
    · obtain ⟨f, hf, rfl⟩ := List.mem_map.1 h
      have h1 := totS_mem TreeFun.total hf
      rw [TreeFun.total_eq f] at h1
      omega
    · have := totS_mem TreeExpr.total h
      omega
  have cB : ∀ σ', Lh σ σ' → _ := fun σ' hl => bodies_runs (σ := σ') (m := m) (by omega) (by omega) (TreeMod.Rep.le hl hr)
  cases hF with
  | mk f0 f1 f2 f3 f4 f5 =>
  cases hr with
  | mk h0 h1 h2 =>
  rename_i a1 a2 a3
  have hbf : ∀ x, x ∈ bodies m → x.Fit := by
    intro x hx
    rcases List.mem_append.1 hx with h | h
    · obtain ⟨f, hf, rfl⟩ := List.mem_map.1 h
      have := f3 f hf
      cases this with | mk g0 g1 g2 g3 g4 => exact g4
    · exact f5 x h
  have hno : ∀ {w : V} {σ' : Heap}, ¬ ModOk m → Lh σ σ' → w = .bool (decide (ModOk m)) ∧ Lh σ σ' ∨ True := fun _ _ => .inr trivial
  apply Gives.of
  refine W.to (fun k _ => impl_TreeOk.eq k _ _ _ _) ?_
  refine W.len h0 (W.ite (fun k1 => W.ret ⟨?_, Lh.refl σ⟩) fun k1 => ?_)
  · have : ¬ ModOk m := fun h => by have := h.1; omega
    simp [this]
  refine W.len h1 (W.ite (fun k2 => W.ret ⟨?_, Lh.refl σ⟩) fun k2 => ?_)
  · have : ¬ ModOk m := fun h => by have := h.2.1; omega
    simp [this]
  refine W.len h2 (W.ite (fun k3 => W.ret ⟨?_, Lh.refl σ⟩) fun k3 => ?_)
  · have : ¬ ModOk m := fun h => by have := h.2.2.1; omega
    simp [this]
  refine W.give (areNames_gives σ h0 f0 f1) fun σ1 l1 => ?_
  try simp only [q_bind_some, Option.bind_assoc, castInt_int, q_castBool, q_castStr, q_castPtr, q_castFn, q_castAgg, q_castTuple, q_uncons, q_isNil, q_sl, q_nils, q_emp, q_ptr, q_nilp, q_fn, q_cond_true, q_cond_false, Bool.not_true, Bool.not_false, decide_true, decide_false, castInt_bind, castBool_bind, castStr_bind, castPtr_bind, castFn_bind, castAgg_bind, castTuple_bind, uncons_bind, isNil_bind, one_bind, cond_bind, ite_bind_, List.cons_append, List.nil_append]
  by_cases hU : AllNames m.uses
  rotate_left
  · have : ¬ ModOk m := fun h => hU h.2.2.2.1
    try simp only [q_bind_some, Option.bind_assoc, castInt_int, q_castBool, q_castStr, q_castPtr, q_castFn, q_castAgg, q_castTuple, q_uncons, q_isNil, q_sl, q_nils, q_emp, q_ptr, q_nilp, q_fn, q_cond_true, q_cond_false, Bool.not_true, Bool.not_false, decide_true, decide_false, castInt_bind, castBool_bind, castStr_bind, castPtr_bind, castFn_bind, castAgg_bind, castTuple_bind, uncons_bind, isNil_bind, one_bind, cond_bind, ite_bind_, List.cons_append, List.nil_append, hU]
    exact W.ret ⟨by simp [this], l1⟩
  try simp only [q_bind_some, Option.bind_assoc, castInt_int, q_castBool, q_castStr, q_castPtr, q_castFn, q_castAgg, q_castTuple, q_uncons, q_isNil, q_sl, q_nils, q_emp, q_ptr, q_nilp, q_fn, q_cond_true, q_cond_false, Bool.not_true, Bool.not_false, decide_true, decide_false, castInt_bind, castBool_bind, castStr_bind, castPtr_bind, castFn_bind, castAgg_bind, castTuple_bind, uncons_bind, isNil_bind, one_bind, cond_bind, ite_bind_, List.cons_append, List.nil_append, hU]
  refine W.len h1 ?_
  refine W.loop (S := Nat × V × Heap) (fun s => s.1 ≤ m.funs.length ∧ Lh σ1 s.2.2 ∧ Grown σ1.length 1 StrRep s.2.2 s.2.1 ((m.funs.take s.1).map (·.name)) ∧ ∀ f, f ∈ m.funs.take s.1 → HeadOk f)
    (fun s => [.box [a1, a2, a3], .v s.2.1, .v (.int .i64 0), .v a2, .v (.int .i64 (m.funs.length : Int)), .v (.int .i64 (s.1 : Int))]) (fun s => s.2.2) (fun s => m.funs.length - s.1) (fun ⟨i, u, σi⟩ ⟨hi, hle, hg, hok⟩ => ?_)
    (0, .sl σ1.length 0 0 true, hnew σ1 1 []) ⟨Nat.zero_le _, Lh.new _ _ _, Grown.start σ1 1 StrRep true, fun f hf => by simp at hf⟩
  simp only at hi hle hg hok ⊢
  have hle0 := l1.trans hle
  refine W.to (fun k _ => by rw [impl_TreeOk.L0_step]) ?_
  try simp only [q_bind_some, Option.bind_assoc, castInt_int, q_castBool, q_castStr, q_castPtr, q_castFn, q_castAgg, q_castTuple, q_uncons, q_isNil, q_sl, q_nils, q_emp, q_ptr, q_nilp, q_fn, q_cond_true, q_cond_false, Bool.not_true, Bool.not_false, decide_true, decide_false, castInt_bind, castBool_bind, castStr_bind, castPtr_bind, castFn_bind, castAgg_bind, castTuple_bind, uncons_bind, isNil_bind, one_bind, cond_bind, ite_bind_, List.cons_append, List.nil_append]
  refine W.ite (fun hlt => ?_) fun hlt => ?_
  · refine W.at h1 hle0 (by omega) fun r o cs x hx hr hP => ?_
    have hm : x ∈ m.funs := List.mem_of_getElem? hx
    have hfit := f3 _ hm
    have ht := take_next' hx
    have hli : ((m.funs.take i).map (·.name)).length ≤ 8 := by rw [List.length_map, List.length_take]; omega
    have hxt : x.total ≤ 1048576 := by have := totS_mem TreeFun.total hm; omega
    cases hP with
    | mk q0 q1 =>
    try simp only [q_bind_some, Option.bind_assoc, castInt_int, q_castBool, q_castStr, q_castPtr, q_castFn, q_castAgg, q_castTuple, q_uncons, q_isNil, q_sl, q_nils, q_emp, q_ptr, q_nilp, q_fn, q_cond_true, q_cond_false, Bool.not_true, Bool.not_false, decide_true, decide_false, castInt_bind, castBool_bind, castStr_bind, castPtr_bind, castFn_bind, castAgg_bind, castTuple_bind, uncons_bind, isNil_bind, one_bind, cond_bind, ite_bind_, List.cons_append, List.nil_append, hr]
    refine W.app hg (Chunks.one (P := StrRep) (cs := [.str x.name]) (x := x.name) rfl) rfl (by simp only [List.length_singleton]; omega) (by simp only [List.length_singleton]; omega) fun u' σ2 hg' hk => ?_
    have hl2 := hk σ1 (Nat.le_refl _) hle
    have hl3 := l1.trans hl2
    have q0' : RepS 2 (TreeArg.Rep σ2) σ2 _ _ := q0.mono hl3 fun cs x _ h => TreeArg.Rep.le hl3 h
    refine W.len q0' (W.ite (fun k4 => ?_) fun k4 => ?_)
    · have : ¬ ModOk m := fun h => by have := ((modOk_iff m).1 h).2.2.2.2.1 x hm; have := this.1; omega
      try simp only [q_bind_some, Option.bind_assoc, castInt_int, q_castBool, q_castStr, q_castPtr, q_castFn, q_castAgg, q_castTuple, q_uncons, q_isNil, q_sl, q_nils, q_emp, q_ptr, q_nilp, q_fn, q_cond_true, q_cond_false, Bool.not_true, Bool.not_false, decide_true, decide_false, castInt_bind, castBool_bind, castStr_bind, castPtr_bind, castFn_bind, castAgg_bind, castTuple_bind, uncons_bind, isNil_bind, one_bind, cond_bind, ite_bind_, List.cons_append, List.nil_append, impl_TreeOk.A0_ret]
      exact W.ret ⟨by simp [this], hl3⟩
    obtain ⟨v1, σ3, σ4, σ5, b, l3, l4, l5, c1, c2, c3, hbt⟩ := headOk_step hfit hxt q0' (by omega)
    have hno : ¬ HeadOk x → ¬ ModOk m := fun hn h => hn (((modOk_iff m).1 h).2.2.2.2.1 x hm)
    refine W.run (c1) ?_
    refine W.run (c2) ?_
    try simp only [q_bind_some, Option.bind_assoc, castInt_int, q_castBool, q_castStr, q_castPtr, q_castFn, q_castAgg, q_castTuple, q_uncons, q_isNil, q_sl, q_nils, q_emp, q_ptr, q_nilp, q_fn, q_cond_true, q_cond_false, Bool.not_true, Bool.not_false, decide_true, decide_false, castInt_bind, castBool_bind, castStr_bind, castPtr_bind, castFn_bind, castAgg_bind, castTuple_bind, uncons_bind, isNil_bind, one_bind, cond_bind, ite_bind_, List.cons_append, List.nil_append]
    by_cases hA : AllNames (x.args.map (·.name))
    rotate_left
    · have := hno fun h => hA h.2.1
      try simp only [q_bind_some, Option.bind_assoc, castInt_int, q_castBool, q_castStr, q_castPtr, q_castFn, q_castAgg, q_castTuple, q_uncons, q_isNil, q_sl, q_nils, q_emp, q_ptr, q_nilp, q_fn, q_cond_true, q_cond_false, Bool.not_true, Bool.not_false, decide_true, decide_false, castInt_bind, castBool_bind, castStr_bind, castPtr_bind, castFn_bind, castAgg_bind, castTuple_bind, uncons_bind, isNil_bind, one_bind, cond_bind, ite_bind_, List.cons_append, List.nil_append, hA, impl_TreeOk.A0_ret]
      exact W.ret ⟨by simp [this], hl3.trans (l3.trans l4)⟩
    try simp only [q_bind_some, Option.bind_assoc, castInt_int, q_castBool, q_castStr, q_castPtr, q_castFn, q_castAgg, q_castTuple, q_uncons, q_isNil, q_sl, q_nils, q_emp, q_ptr, q_nilp, q_fn, q_cond_true, q_cond_false, Bool.not_true, Bool.not_false, decide_true, decide_false, castInt_bind, castBool_bind, castStr_bind, castPtr_bind, castFn_bind, castAgg_bind, castTuple_bind, uncons_bind, isNil_bind, one_bind, cond_bind, ite_bind_, List.cons_append, List.nil_append, hA]
    refine W.run (isType_runs x.type) ?_
    try simp only [q_bind_some, Option.bind_assoc, castInt_int, q_castBool, q_castStr, q_castPtr, q_castFn, q_castAgg, q_castTuple, q_uncons, q_isNil, q_sl, q_nils, q_emp, q_ptr, q_nilp, q_fn, q_cond_true, q_cond_false, Bool.not_true, Bool.not_false, decide_true, decide_false, castInt_bind, castBool_bind, castStr_bind, castPtr_bind, castFn_bind, castAgg_bind, castTuple_bind, uncons_bind, isNil_bind, one_bind, cond_bind, ite_bind_, List.cons_append, List.nil_append]
    by_cases hT : 1 ≤ x.type ∧ x.type ≤ 3
    rotate_left
    · have := hno fun h => hT h.2.2.1
      try simp only [q_bind_some, Option.bind_assoc, castInt_int, q_castBool, q_castStr, q_castPtr, q_castFn, q_castAgg, q_castTuple, q_uncons, q_isNil, q_sl, q_nils, q_emp, q_ptr, q_nilp, q_fn, q_cond_true, q_cond_false, Bool.not_true, Bool.not_false, decide_true, decide_false, castInt_bind, castBool_bind, castStr_bind, castPtr_bind, castFn_bind, castAgg_bind, castTuple_bind, uncons_bind, isNil_bind, one_bind, cond_bind, ite_bind_, List.cons_append, List.nil_append, hT, impl_TreeOk.A0_ret]
      exact W.ret ⟨by simp [this], hl3.trans (l3.trans l4)⟩
    try simp only [q_bind_some, Option.bind_assoc, castInt_int, q_castBool, q_castStr, q_castPtr, q_castFn, q_castAgg, q_castTuple, q_uncons, q_isNil, q_sl, q_nils, q_emp, q_ptr, q_nilp, q_fn, q_cond_true, q_cond_false, Bool.not_true, Bool.not_false, decide_true, decide_false, castInt_bind, castBool_bind, castStr_bind, castPtr_bind, castFn_bind, castAgg_bind, castTuple_bind, uncons_bind, isNil_bind, one_bind, cond_bind, ite_bind_, List.cons_append, List.nil_append, hT, and_self]
    refine W.run (c3) ?_
    try simp only [q_bind_some, Option.bind_assoc, castInt_int, q_castBool, q_castStr, q_castPtr, q_castFn, q_castAgg, q_castTuple, q_uncons, q_isNil, q_sl, q_nils, q_emp, q_ptr, q_nilp, q_fn, q_cond_true, q_cond_false, Bool.not_true, Bool.not_false, decide_true, decide_false, castInt_bind, castBool_bind, castStr_bind, castPtr_bind, castFn_bind, castAgg_bind, castTuple_bind, uncons_bind, isNil_bind, one_bind, cond_bind, ite_bind_, List.cons_append, List.nil_append]
    cases b with
    | true =>
      have := hno fun h => by have := hbt.2 h.2.2.2; cases this
      try simp only [q_bind_some, Option.bind_assoc, castInt_int, q_castBool, q_castStr, q_castPtr, q_castFn, q_castAgg, q_castTuple, q_uncons, q_isNil, q_sl, q_nils, q_emp, q_ptr, q_nilp, q_fn, q_cond_true, q_cond_false, Bool.not_true, Bool.not_false, decide_true, decide_false, castInt_bind, castBool_bind, castStr_bind, castPtr_bind, castFn_bind, castAgg_bind, castTuple_bind, uncons_bind, isNil_bind, one_bind, cond_bind, ite_bind_, List.cons_append, List.nil_append, impl_TreeOk.A0_ret]
      exact W.ret ⟨by simp [this], hl3.trans (l3.trans (l4.trans l5))⟩
    | false =>
      try simp only [q_bind_some, Option.bind_assoc, castInt_int, q_castBool, q_castStr, q_castPtr, q_castFn, q_castAgg, q_castTuple, q_uncons, q_isNil, q_sl, q_nils, q_emp, q_ptr, q_nilp, q_fn, q_cond_true, q_cond_false, Bool.not_true, Bool.not_false, decide_true, decide_false, castInt_bind, castBool_bind, castStr_bind, castPtr_bind, castFn_bind, castAgg_bind, castTuple_bind, uncons_bind, isNil_bind, one_bind, cond_bind, ite_bind_, List.cons_append, List.nil_append, wrap_next (show i < m.funs.length by omega) (by omega)]
      refine W.again (i + 1, u', _) ⟨by show i + 1 ≤ m.funs.length; omega, hl2.trans (l3.trans (l4.trans l5)), ?_, fun y hy => ?_⟩ (by simp only; omega) rfl rfl
      · simp only
        rw [ht, List.map_append]
        exact hg'.le (l3.trans (l4.trans l5))
      · simp only at hy
        rw [ht] at hy
        rcases List.mem_append.1 hy with h | h
        · exact hok y h
        · simp at h; rw [h]; exact ⟨by omega, hA, hT, hbt.1 rfl⟩
  · rw [List.take_of_length_le (by omega)] at hg hok
    try simp only [q_bind_some, Option.bind_assoc, castInt_int, q_castBool, q_castStr, q_castPtr, q_castFn, q_castAgg, q_castTuple, q_uncons, q_isNil, q_sl, q_nils, q_emp, q_ptr, q_nilp, q_fn, q_cond_true, q_cond_false, Bool.not_true, Bool.not_false, decide_true, decide_false, castInt_bind, castBool_bind, castStr_bind, castPtr_bind, castFn_bind, castAgg_bind, castTuple_bind, uncons_bind, isNil_bind, one_bind, cond_bind, ite_bind_, List.cons_append, List.nil_append, impl_TreeOk.A0_x0]
    obtain ⟨vb, σ2, l2, hB, cb⟩ := cB σi hle0
    refine W.run (cb) ?_
    refine W.len hB ?_
    have hg2 := hg.le l2
    refine W.loop (S := Nat × Heap) (fun s => s.1 ≤ (bodies m).length ∧ Lh σ2 s.2 ∧ ∀ j x, j < s.1 → (bodies m)[j]? = some x → 0 + totS TreeExpr.many ((bodies m).take j) + x.many ≤ 150 ∧ x.deep ≤ 16 ∧ Right x)
      (fun s => [.v u, .v (.int .i64 (totS TreeExpr.many ((bodies m).take s.1) : Nat)), .v vb, .v (.int .i64 ((bodies m).length : Int)), .v (.int .i64 (s.1 : Int))]) (fun s => s.2) (fun s => (bodies m).length - s.1) (fun ⟨j, σj⟩ ⟨hj, hlj, hokj⟩ => ?_)
      (0, σ2) ⟨Nat.zero_le _, Lh.refl _, fun j x hj => absurd hj (Nat.not_lt_zero _)⟩
    simp only at hj hlj hokj ⊢
    have hlj0 := hle0.trans (l2.trans hlj)
    refine W.to (fun k _ => by rw [impl_TreeOk.L1_step]) ?_
    try simp only [q_bind_some, Option.bind_assoc, castInt_int, q_castBool, q_castStr, q_castPtr, q_castFn, q_castAgg, q_castTuple, q_uncons, q_isNil, q_sl, q_nils, q_emp, q_ptr, q_nilp, q_fn, q_cond_true, q_cond_false, Bool.not_true, Bool.not_false, decide_true, decide_false, castInt_bind, castBool_bind, castStr_bind, castPtr_bind, castFn_bind, castAgg_bind, castTuple_bind, uncons_bind, isNil_bind, one_bind, cond_bind, ite_bind_, List.cons_append, List.nil_append]
    refine W.ite (fun hlt => ?_) fun hlt => ?_
    · refine W.at hB hlj (by omega) fun r o cs x hx hr hP => ?_
      have hm : x ∈ bodies m := List.mem_of_getElem? hx
      have hP' := TreeExpr.Rep.le hlj x hP
      have hno : (¬ (0 + totS TreeExpr.many ((bodies m).take j) + x.many ≤ 150 ∧ x.deep ≤ 16) ∨ ¬ Right x) → ¬ ModOk m := fun hn h => by
        have h' := (modOk_iff m).1 h
        rcases hn with hn | hn
        · exact hn (sizesOk_at _ 0 j x hx h'.2.2.2.2.2.1)
        · exact hn (h'.2.2.2.2.2.2.1 x hm)
      have hxt := hb x hm
      have hmany := TreeExpr.many_le x
      have hsum : totS TreeExpr.many ((bodies m).take j) ≤ 150 := by
        rcases Nat.eq_zero_or_pos j with h | h
        · subst h; simp [totS]
        · have hlt' : j - 1 < (bodies m).length := by omega
          have h1 := hokj (j - 1) _ (by omega) (List.getElem?_eq_getElem hlt')
          have h2 := take_next hlt'
          have h3 : j - 1 + 1 = j := by omega
          rw [h3] at h2
          rw [h2, totS_append, totS, totS]
          omega
      obtain ⟨b, hbb, ceo⟩ := exprOk_gives x (hbf x hm) hxt hP'
      have cn := implTreeNodes_runs x hxt hP'
      cases hP with
      | mk q =>
      try simp only [q_bind_some, Option.bind_assoc, castInt_int, q_castBool, q_castStr, q_castPtr, q_castFn, q_castAgg, q_castTuple, q_uncons, q_isNil, q_sl, q_nils, q_emp, q_ptr, q_nilp, q_fn, q_cond_true, q_cond_false, Bool.not_true, Bool.not_false, decide_true, decide_false, castInt_bind, castBool_bind, castStr_bind, castPtr_bind, castFn_bind, castAgg_bind, castTuple_bind, uncons_bind, isNil_bind, one_bind, cond_bind, ite_bind_, List.cons_append, List.nil_append, hr]
      refine W.run (cn) ?_
      have hw : IntKind.wrap .i64 (((totS TreeExpr.many ((bodies m).take j) : Nat) : Int) + (x.many : Int)) = ((totS TreeExpr.many ((bodies m).take j) + x.many : Nat) : Int) := by
        rw [wrap_id (by omega) (by omega)]; omega
      try simp only [q_bind_some, Option.bind_assoc, castInt_int, q_castBool, q_castStr, q_castPtr, q_castFn, q_castAgg, q_castTuple, q_uncons, q_isNil, q_sl, q_nils, q_emp, q_ptr, q_nilp, q_fn, q_cond_true, q_cond_false, Bool.not_true, Bool.not_false, decide_true, decide_false, castInt_bind, castBool_bind, castStr_bind, castPtr_bind, castFn_bind, castAgg_bind, castTuple_bind, uncons_bind, isNil_bind, one_bind, cond_bind, ite_bind_, List.cons_append, List.nil_append, hw]
      refine W.ite (fun k5 => ?_) fun k5 => ?_
      · have := hno (.inl fun h => by omega)
        try simp only [q_bind_some, Option.bind_assoc, castInt_int, q_castBool, q_castStr, q_castPtr, q_castFn, q_castAgg, q_castTuple, q_uncons, q_isNil, q_sl, q_nils, q_emp, q_ptr, q_nilp, q_fn, q_cond_true, q_cond_false, Bool.not_true, Bool.not_false, decide_true, decide_false, castInt_bind, castBool_bind, castStr_bind, castPtr_bind, castFn_bind, castAgg_bind, castTuple_bind, uncons_bind, isNil_bind, one_bind, cond_bind, ite_bind_, List.cons_append, List.nil_append, impl_TreeOk.A1_ret]
        exact W.ret ⟨by simp [this], hlj0⟩
      refine W.give ceo fun σ6 l6 => ?_
      try simp only [q_bind_some, Option.bind_assoc, castInt_int, q_castBool, q_castStr, q_castPtr, q_castFn, q_castAgg, q_castTuple, q_uncons, q_isNil, q_sl, q_nils, q_emp, q_ptr, q_nilp, q_fn, q_cond_true, q_cond_false, Bool.not_true, Bool.not_false, decide_true, decide_false, castInt_bind, castBool_bind, castStr_bind, castPtr_bind, castFn_bind, castAgg_bind, castTuple_bind, uncons_bind, isNil_bind, one_bind, cond_bind, ite_bind_, List.cons_append, List.nil_append]
      cases b with
      | false =>
        have : ¬ ModOk m := by
          by_cases hR : Right x
          · refine hno (.inl fun h => ?_)
            have := hbb.2 ⟨by omega, h.2, hR⟩
            cases this
          · exact hno (.inr hR)
        try simp only [q_bind_some, Option.bind_assoc, castInt_int, q_castBool, q_castStr, q_castPtr, q_castFn, q_castAgg, q_castTuple, q_uncons, q_isNil, q_sl, q_nils, q_emp, q_ptr, q_nilp, q_fn, q_cond_true, q_cond_false, Bool.not_true, Bool.not_false, decide_true, decide_false, castInt_bind, castBool_bind, castStr_bind, castPtr_bind, castFn_bind, castAgg_bind, castTuple_bind, uncons_bind, isNil_bind, one_bind, cond_bind, ite_bind_, List.cons_append, List.nil_append, impl_TreeOk.A1_ret]
        exact W.ret ⟨by simp [this], hlj0.trans l6⟩
      | true =>
        have hbx := hbb.1 rfl
        try simp only [q_bind_some, Option.bind_assoc, castInt_int, q_castBool, q_castStr, q_castPtr, q_castFn, q_castAgg, q_castTuple, q_uncons, q_isNil, q_sl, q_nils, q_emp, q_ptr, q_nilp, q_fn, q_cond_true, q_cond_false, Bool.not_true, Bool.not_false, decide_true, decide_false, castInt_bind, castBool_bind, castStr_bind, castPtr_bind, castFn_bind, castAgg_bind, castTuple_bind, uncons_bind, isNil_bind, one_bind, cond_bind, ite_bind_, List.cons_append, List.nil_append, wrap_next (show j < (bodies m).length by omega) (by simp [bodies]; omega)]
        have ht := take_next' hx
        refine W.again (j + 1, σ6) ⟨by show j + 1 ≤ (bodies m).length; omega, hlj.trans l6, fun i y hi hy => ?_⟩ (by simp only; omega) ?_ rfl
        · simp only at hi
          by_cases hij : i = j
          · subst hij
            rw [hx] at hy
            injection hy with hy
            subst hy
            exact ⟨by omega, hbx.2.1, hbx.2.2⟩
          · exact hokj i y (by omega) hy
        · simp only
          rw [ht, totS_append, totS, totS]
          rfl
    · try simp only [q_bind_some, Option.bind_assoc, castInt_int, q_castBool, q_castStr, q_castPtr, q_castFn, q_castAgg, q_castTuple, q_uncons, q_isNil, q_sl, q_nils, q_emp, q_ptr, q_nilp, q_fn, q_cond_true, q_cond_false, Bool.not_true, Bool.not_false, decide_true, decide_false, castInt_bind, castBool_bind, castStr_bind, castPtr_bind, castFn_bind, castAgg_bind, castTuple_bind, uncons_bind, isNil_bind, one_bind, cond_bind, ite_bind_, List.cons_append, List.nil_append, impl_TreeOk.A1_x2]
      have hR : RepS 1 StrRep σj u (m.funs.map (·.name)) := (hg2.le hlj).rep fun cs x _ h => h
      refine W.give (areNames_gives σj hR (by rw [List.length_map]; omega) (fun x hx => by
          obtain ⟨f, hf, rfl⟩ := List.mem_map.1 hx
          have := f3 f hf
          cases this with | mk g0 => exact g0)) fun σ7 l7 => ?_
      try simp only [q_bind_some, Option.bind_assoc, castInt_int, q_castBool, q_castStr, q_castPtr, q_castFn, q_castAgg, q_castTuple, q_uncons, q_isNil, q_sl, q_nils, q_emp, q_ptr, q_nilp, q_fn, q_cond_true, q_cond_false, Bool.not_true, Bool.not_false, decide_true, decide_false, castInt_bind, castBool_bind, castStr_bind, castPtr_bind, castFn_bind, castAgg_bind, castTuple_bind, uncons_bind, isNil_bind, one_bind, cond_bind, ite_bind_, List.cons_append, List.nil_append]
      have hall : ∀ i x, (bodies m)[i]? = some x → 0 + totS TreeExpr.many ((bodies m).take i) + x.many ≤ 150 ∧ x.deep ≤ 16 ∧ Right x := fun i x hx => hokj i x (by have := lt_of_get hx; omega) hx
      have hiff : ModOk m ↔ AllNames (m.funs.map (·.name)) := by
        rw [modOk_iff]
        constructor
        · intro h; exact h.2.2.2.2.2.2.2
        · intro h
          refine ⟨by omega, by omega, by omega, hU, hok, sizesOk_of _ 0 fun i x hx => ⟨(hall i x hx).1, (hall i x hx).2.1⟩, fun e he => ?_, h⟩
          obtain ⟨i, hi, rfl⟩ := List.getElem_of_mem he
          exact (hall i _ (List.getElem?_eq_getElem hi)).2.2
      exact W.ret ⟨by simp [hiff], hlj0.trans l7⟩
end Go.G

/- The program's typer: the parts of an expression. -/
set_option linter.unusedVariables false
set_option linter.unusedSimpArgs false
namespace Go.G
open Go.HM Go.Proofs
def prv (a : TreeArg) : ByteArray × Int := (a.name, a.type)
theorem prs_chunks {σ : Heap} : ∀ {vars : List TreeArg} {cs : List V}, Chunks 2 (TreeArg.Rep σ) cs vars → prsL cs = some (vars.map prv)
  | [], cs, h => by
    have := h.1
    obtain rfl : cs = [] := List.eq_nil_of_length_eq_zero (by simpa using this)
    rfl
  | a :: vars, cs, h => by
    obtain ⟨h1, h2⟩ := h
    have h3 := h2 0 a rfl
    have h4 : Chunks 2 (TreeArg.Rep σ) (cs.drop 2) vars := ⟨by simp at h1 ⊢; omega, fun i x hx => by
      have := h2 (i + 1) x (by simpa using hx)
      rw [List.drop_drop, show 2 + i * 2 = (i + 1) * 2 by omega]
      exact this⟩
    match cs, h1, h3, h4 with
    | [], h1, _, _ => simp at h1 <;> omega
    | [x], h1, _, _ => simp at h1 <;> omega
    | x :: y :: cs, h1, h3, h4 =>
      simp only [Nat.zero_mul, List.drop_zero, List.take_succ_cons, List.take_zero] at h3
      cases h3
      simp only [prsL]
      rw [show prsL cs = _ from prs_chunks h4]
      rfl
theorem lastVar_runs {σ : Heap} {v : V} {vars : List TreeArg} (h : RepS 2 (TreeArg.Rep σ) σ v vars) (hl : vars.length ≤ 1073741824) (s : ByteArray) : Runs G n_impl_lastVar [v, .str s] σ (.int .i64 (lastIx s (vars.map prv))) σ := by
  obtain ⟨cs, h1, h2⟩ := h.cells
  refine hook_runs (h := hkLast) rfl ?_
  unfold hkLast
  simp only [h1, Option.bind_some, prs_chunks h2, if_pos hl]
theorem varTo_last (vars : List TreeArg) (name : ByteArray) : ∀ k, k ≤ vars.length → (lastTo name (vars.map prv) k = -1 ∧ varTo vars name k = (0, 2)) ∨ ∃ (i : Nat) (a : TreeArg), lastTo name (vars.map prv) k = (i : Int) ∧ vars[i]? = some a ∧ varTo vars name k = (a.type, 0)
  | 0, _ => .inl ⟨rfl, rfl⟩
  | k + 1, h => by
    obtain ⟨a, ha⟩ : ∃ a, vars[k]? = some a := ⟨_, List.getElem?_eq_getElem (by omega)⟩
    rw [lastTo, varTo, List.getElem?_map, ha]
    simp only [Option.map_some, Option.some.injEq, Option.getD_some, prv]
    by_cases hn : a.name = name
    · rw [if_pos hn, if_pos hn]
      exact .inr ⟨k, a, rfl, ha, rfl⟩
    · rw [if_neg hn, if_neg hn]
      exact varTo_last vars name k (by omega)
/-- The module and the faces, in the heap. -/
structure TyR (σ : Heap) (E : TyEnv) (a1 a2 a3 a4 : V) : Prop where
  m : TreeMod.Rep σ [a1, a2, a3] E.m
  l : RepS 2 (TypeFace.Rep σ) σ a4 E.l
theorem TyR.le {σ σ' : Heap} {E : TyEnv} {a1 a2 a3 a4 : V} (h : TyR σ E a1 a2 a3 a4) (hl : Lh σ σ') : TyR σ' E a1 a2 a3 a4 := ⟨TreeMod.Rep.le hl h.m, h.l.mono hl fun cs x _ hc => TypeFace.Rep.le hl hc⟩
structure TyB (E : TyEnv) : Prop where
  m : E.m.total ≤ 1048576
  l : E.l.length + totS TypeFace.total E.l ≤ 1048576
theorem equalI_runs {σ : Heap} {v w : V} {l k : List Int} (h : RepS 1 IntRep σ v l) (g : RepS 1 IntRep σ w k) (hl : l.length ≤ 1048576) : Runs G n_slices_Equal_int_int [v, w] σ (.bool (decide (l = k))) σ := by
  refine Runs.of (W.to (fun n _ => slices_Equal_int_int.eq n _ _ _) ?_)
  refine W.len h (W.len g ?_)
  by_cases hlen : (l.length : Int) = (k.length : Int)
  rotate_left
  · simp only [decide_eq_false hlen, Bool.not_false, cond_true]
    exact W.ret ⟨by rw [decide_eq_false fun e => hlen (by rw [e])], rfl⟩
  simp only [decide_eq_true hlen, Bool.not_true, cond_false]
  refine W.len h ?_
  refine W.loop (S := Nat) (fun i => i ≤ l.length ∧ l.take i = k.take i) (fun i => [.v v, .v w, .v (.int .i64 (l.length : Int)), .v (.int .i64 (i : Int))]) (fun _ => σ) (fun i => l.length - i) (fun i ⟨hi, hok⟩ => ?_) 0 ⟨Nat.zero_le _, rfl⟩
  refine W.to (fun n _ => by rw [slices_Equal_int_int.L0_step]) ?_
  refine B.ite (fun hlt => ?_) fun hlt => ?_
  · have hil : i < l.length := by omega
    have hx : l[i]? = some l[i] := List.getElem?_eq_getElem hil
    have hy : k[i]? = some k[i] := List.getElem?_eq_getElem (by omega)
    generalize l[i] = x at hx
    generalize k[i]'(by omega) = y at hy
    obtain ⟨r, p, hv, cs, hr, hP⟩ := h.at' hx
    obtain ⟨r2, p2, hv2, cs2, hr2, hP2⟩ := g.at' hy
    unfold IntRep at hP hP2
    subst hP hP2
    try simp only [q_bind_some, castInt_int, q_castBool, q_castStr, q_castPtr, q_castFn, q_castAgg, q_castTuple, q_uncons, q_isNil, q_sl, q_nils, q_emp, q_ptr, q_nilp, q_fn, q_cond_true, q_cond_false, Bool.not_true, Bool.not_false, decide_true, decide_false, List.cons_append, List.nil_append, hv, hr, hv2, hr2]
    by_cases hxy : x = y
    · subst hxy
      try simp only [q_bind_some, castInt_int, q_castBool, q_castStr, q_castPtr, q_castFn, q_castAgg, q_castTuple, q_uncons, q_isNil, q_sl, q_nils, q_emp, q_ptr, q_nilp, q_fn, q_cond_true, q_cond_false, Bool.not_true, Bool.not_false, decide_true, decide_false, List.cons_append, List.nil_append, wrap_next hil (by omega)]
      exact W.again (i + 1) ⟨by omega, by rw [take_next' hx, take_next' hy, hok]⟩ (by omega) rfl rfl
    · try simp only [q_bind_some, castInt_int, q_castBool, q_castStr, q_castPtr, q_castFn, q_castAgg, q_castTuple, q_uncons, q_isNil, q_sl, q_nils, q_emp, q_ptr, q_nilp, q_fn, q_cond_true, q_cond_false, Bool.not_true, Bool.not_false, decide_true, decide_false, List.cons_append, List.nil_append, hxy, slices_Equal_int_int.A0_ret]
      exact W.ret ⟨by rw [decide_eq_false fun e => hxy (by rw [e, hy] at hx; injection hx with hx; exact hx.symm)], rfl⟩
  · rw [List.take_of_length_le (by omega), List.take_of_length_le (by omega)] at hok
    try simp only [q_bind_some, castInt_int, q_castBool, q_castStr, q_castPtr, q_castFn, q_castAgg, q_castTuple, q_uncons, q_isNil, q_sl, q_nils, q_emp, q_ptr, q_nilp, q_fn, q_cond_true, q_cond_false, Bool.not_true, Bool.not_false, decide_true, decide_false, List.cons_append, List.nil_append, slices_Equal_int_int.A0_x0]
    exact W.ret ⟨by rw [decide_eq_true hok], rfl⟩
end Go.G

/- The program's typer: the parts of an expression. -/
set_option linter.unusedVariables false
set_option linter.unusedSimpArgs false
namespace Go.G
open Go.HM Go.Proofs
def QA (σ : Heap) (cs : List V) (x : TreeArg) (R : List Nat) : Prop := cs = [.str x.name, .int .i64 x.type] ∧ R = []
theorem QA.of {σ σ' : Heap} {cs : List V} {x : TreeArg} (h : TreeArg.Rep σ cs x) : QA σ' cs x [] := by
  cases h
  exact ⟨rfl, rfl⟩
theorem QA.rep {σ σ' : Heap} {cs : List V} {x : TreeArg} {R : List Nat} (h : QA σ cs x R) : TreeArg.Rep σ' cs x := by
  rw [h.1]
  exact .mk
theorem argRep {σ σ' : Heap} {cs : List V} {x : TreeArg} (h : TreeArg.Rep σ cs x) : TreeArg.Rep σ' cs x := by
  cases h
  exact .mk
/-- Variables in a row of one's own. -/
structure OwA (σ σi : Heap) (v : V) (l : List TreeArg) (R : List Nat) : Prop where
  r : RepR 2 (QA σi) σi v l R
  a : At0 v
  nd : R.Nodup
  lo : ∀ j, j ∈ R → σ.length ≤ j
  le : Lh σ σi
theorem OwA.rep {σ σi : Heap} {v : V} {l : List TreeArg} {R : List Nat} (h : OwA σ σi v l R) : RepS 2 (TreeArg.Rep σi) σi v l := h.r.rep fun cs x R _ hq => hq.rep
theorem cloneA_ends {σ : Heap} {v : V} {l : List TreeArg} (h : RepS 2 (TreeArg.Rep σ) σ v l) (hl : l.length ≤ 2097152) : HM.Ends G n_slices_Clone_impl_TreeArg_impl_TreeArg [v] σ (fun w σ' => ∃ R, OwA σ σ' w l R) := by
  have e46 : (2 : Nat) ^ 46 = 70368744177664 := by decide
  refine HM.Ends.mk (W.to (fun k _ => slices_Clone_impl_TreeArg_impl_TreeArg.eq k _ _) ?_)
  rcases nil_of h with ⟨rfl, rfl, hn⟩ | hn
  · refine W.bind hn ?_
    try simp only [q_bind_some, castInt_int, q_castBool, q_castStr, q_castPtr, q_castFn, q_castAgg, q_castTuple, q_uncons, q_isNil, q_sl, q_nils, q_emp, q_ptr, q_nilp, q_fn, q_cond_true, q_cond_false, Bool.not_true, Bool.not_false, decide_true, decide_false, List.cons_append, List.nil_append]
    exact W.ret ⟨[], .nils, .inl rfl, List.nodup_nil, fun j hj => (List.not_mem_nil hj).elim, Lh.refl _⟩
  · refine W.bind hn ?_
    try simp only [q_bind_some, castInt_int, q_castBool, q_castStr, q_castPtr, q_castFn, q_castAgg, q_castTuple, q_uncons, q_isNil, q_sl, q_nils, q_emp, q_ptr, q_nilp, q_fn, q_cond_true, q_cond_false, Bool.not_true, Bool.not_false, decide_true, decide_false, List.cons_append, List.nil_append]
    obtain ⟨cs, v', σ', R, c1, c2, c3, c4, c5, c6, c7, _⟩ := clone_ok (bytes := 24) h (by omega) (by omega)
    refine W.bind c1 (W.bind c2 ?_)
    exact W.ret ⟨R, c4.keep (fun _ _ => rfl) fun cs x R h _ => by rw [h.2]; exact QA.of h.1, c5, c6, c7, c3⟩
/-- A variable behind variables of one's own; a row is read meanwhile. -/
theorem with_var {σ σ1 : Heap} {r : Nat} {row : Row} (hr : σ[r]? = some (some row)) {w : V} {vars : List TreeArg} {R : List Nat} (h : OwA (prot [r] σ) σ1 w vars R) (hl : vars.length ≤ 2097152) (s : ByteArray) (t : Int) :
    ∃ v' σ2, vappend 2 24 (prot [r] (unprot [r] σ σ1)) w 1 [.str s, .int .i64 t] = some (v', σ2) ∧ Lh σ (unprot [r] (unprot [r] σ σ1) σ2) ∧ RepS 2 (TreeArg.Rep (unprot [r] (unprot [r] σ σ1) σ2)) (unprot [r] (unprot [r] σ σ1) σ2) v' (vars ++ [⟨s, t⟩]) := by
  have e46 : (2 : Nat) ^ 46 = 70368744177664 := by decide
  have hrl := get_lt hr
  have lo : ∀ j, j ∈ R → σ.length ≤ j := fun j hj => by have := h.lo j hj; rw [prots_len] at this; exact this
  have lτ : Lh σ (unprot [r] σ σ1) := h.le.unprots
  have hk : RepR 2 (QA (unprot [r] σ σ1)) (unprot [r] σ σ1) w vars R := h.r.keep (fun j hj => unprots_out σ σ1 [r] (fun hc => by have := lo j hj; rw [List.mem_singleton] at hc; omega)) fun cs x R h _ => h
  obtain ⟨v', σ', R', g1, g2, g3, g4, g5, g6, g7⟩ := hk.app (bytes := 24) h.a (cs := [.str s, .int .i64 t]) (x := ⟨s, t⟩) (Rx := []) ⟨rfl, rfl⟩ rfl (fun cs x R h _ => h) (fun cs x R h j hj => by rw [h.2] at hj; exact (List.not_mem_nil hj).elim) (by simpa using h.nd) (by omega) (by omega)
  have hv : ∀ r' o n lim, w = .sl r' o n lim → r' ∉ [r] := fun r' o n lim e hc => by
    rw [List.mem_singleton] at hc
    subst e
    cases h.r with
    | sl r o n lim row l Rs h1 h2 h3 h4 h5 h6 h7 =>
      have := lo r' (List.mem_cons_self ..)
      omega
  obtain ⟨τ, k1, k2⟩ := vappend_prots (rs := [r]) hv g1
  refine ⟨v', τ, k1, ?_, ?_⟩
  · rw [k2]
    have h1 := lτ.len
    refine ⟨by omega, fun j row hj => ?_⟩
    have hjl := get_lt hj
    rw [g7 j (by omega) fun hc => by have := lo j hc; omega]
    exact lτ.row _ _ hj
  · rw [k2]
    exact g2.rep fun cs x R _ hq => hq.rep
def KidsP (σ : Heap) (r : List Int × Int) (w : V) (σ' : Heap) : Prop := Lh σ σ' ∧ ((r.2 = 0 ∧ ∃ v, w = .tuple [v, .int .i64 0] ∧ RepS 1 IntRep σ' v r.1) ∨ (r.2 ≠ 0 ∧ w = .tuple [.nils, .int .i64 r.2]))
/-- What the typer of the parts is asked. -/
def KidsI (f : FuncId) (a : List V) (E : TyEnv) (a1 a2 a3 a4 : V) (N : Nat) (x : TreeExpr) : Prop := ∀ (vars : List TreeArg) (σ : Heap) (v : V) (cs : List V), vars.length ≤ N → TyR σ E a1 a2 a3 a4 → RepS 2 (TreeArg.Rep σ) σ v vars → TreeExpr.Rep σ cs x →
  Gives G f (a ++ [v, .agg cs]) σ (.tuple [.int .i64 (tyE E vars x).1, .int .i64 (tyE E vars x).2])
set_option maxHeartbeats 2000000 in
theorem implKids_ends {E : TyEnv} {a1 a2 a3 a4 : V} {e : TreeExpr} {N : Nat} (hN : N ≤ 2097151) (IH : ∀ x, x ∈ e.kids → KidsI n_impl_typer_expr [.agg [a1, a2, a3, a4]] E a1 a2 a3 a4 (N + 1) x) (hk8 : e.kids.length ≤ 8) (hk2 : e.kind = 6 → e.kids.length = 2) {vars : List TreeArg} (hvl : vars.length ≤ N) {σ : Heap} {v : V} {cs : List V} (hE : TyR σ E a1 a2 a3 a4)
    (hv : RepS 2 (TreeArg.Rep σ) σ v vars) (h : TreeExpr.Rep σ cs e) : HM.Ends G n_impl_typer_kids [.agg [a1, a2, a3, a4], v, .agg cs] σ (KidsP σ (tyK E (decide (e.kind = 6)) e.name vars [] e.kids)) := by
  have hvm : ∀ {σ' : Heap}, Lh σ σ' → RepS 2 (TreeArg.Rep σ') σ' v vars := fun l => hv.mono l fun cs x _ hc => TreeArg.Rep.le l hc
  obtain ⟨b, hb⟩ : ∃ b, b = decide (e.kind = 6) := ⟨_, rfl⟩
  rw [← hb]
  cases h with
  | mk hk =>
  rename_i a0
  refine HM.Ends.mk (W.to (fun k _ => impl_typer_kids.eq k _ _ _ _ _ _ _ _ _ _ _) ?_)
  refine W.len hk ?_
  refine W.loop (S := Nat × Heap × V × V × List Int) (fun s => s.1 ≤ e.kids.length ∧ s.2.2.2.2.length = s.1 ∧ (s.1 < e.kids.length → s.2.2.1 = v ∧ tyK E b e.name vars [] e.kids = tyK E b e.name vars s.2.2.2.2 (e.kids.drop s.1)) ∧
      (s.1 = e.kids.length → tyK E b e.name vars [] e.kids = (s.2.2.2.2, 0)) ∧ ∃ R, Ow σ s.2.1 s.2.2.2.1 s.2.2.2.2 R)
    (fun s => [.v s.2.2.1, .box [a1, a2, a3, a4], .box [.int .i64 e.kind, .int .i64 e.num, .str e.name, .str e.mod, a0], .v s.2.2.2.1, .v a0, .v (.int .i64 (e.kids.length : Int)), .v (.int .i64 (s.1 : Int))]) (fun s => s.2.1) (fun s => e.kids.length - s.1)
    (fun ⟨i, σi, vv, vo, out⟩ ⟨hi, hol, hgo, hend, ⟨R, hO⟩⟩ => ?_) (0, hnew σ 1 [], v, .sl σ.length 0 0 true, []) ⟨Nat.zero_le _, rfl, fun _ => ⟨rfl, rfl⟩, fun h0 => by
      have : e.kids = [] := List.eq_nil_of_length_eq_zero h0.symm
      rw [this, tyK], ⟨_, Ow.start σ⟩⟩
  simp only at hi hol hgo hend hO ⊢
  have hle := hO.le
  refine W.to (fun k _ => by rw [impl_typer_kids.L0_step]) ?_
  refine B.ite (fun hlt => ?_) fun hlt => ?_
  rotate_left
  · obtain rfl : i = e.kids.length := by omega
    have heq := hend rfl
    try simp only [q_bind_some, castInt_int, q_castBool, q_castStr, q_castPtr, q_castFn, q_castAgg, q_castTuple, q_uncons, q_isNil, q_sl, q_nils, q_emp, q_ptr, q_nilp, q_fn, q_cond_true, q_cond_false, Bool.not_true, Bool.not_false, decide_true, decide_false, List.cons_append, List.nil_append, impl_typer_kids.A0_x0]
    refine W.ret ⟨hle, .inl ⟨by rw [heq], vo, rfl, ?_⟩⟩
    rw [heq]
    exact hO.rep
  have hil : i < e.kids.length := by omega
  obtain ⟨rfl, heq⟩ := hgo hil
  have hx : e.kids[i]? = some e.kids[i] := List.getElem?_eq_getElem hil
  have hdr : e.kids.drop i = e.kids[i] :: e.kids.drop (i + 1) := List.drop_eq_getElem_cons hil
  generalize e.kids[i] = x at hx hdr
  have hmx := List.mem_of_getElem? hx
  have hnext := wrap_next hil (by omega)
  rw [hdr, tyK] at heq
  obtain ⟨r, p, hvx, cs, hr, hP⟩ := hk.at' hx
  have hr' := hle.rdc hr
  have hPx := fun {σ' : Heap} (l : Lh σ σ') => TreeExpr.Rep.le l x hP
  cases hP with
  | mk hkx =>
  try simp only [q_bind_some, castInt_int, q_castBool, q_castStr, q_castPtr, q_castFn, q_castAgg, q_castTuple, q_uncons, q_isNil, q_sl, q_nils, q_emp, q_ptr, q_nilp, q_fn, q_cond_true, q_cond_false, Bool.not_true, Bool.not_false, decide_true, decide_false, List.cons_append, List.nil_append, hvx, hr']
  by_cases h6 : e.kind = 6
  · have h2 := hk2 h6
    have hbt : b = true := by rw [hb]; exact decide_eq_true h6
    by_cases h1 : i = 1
    · subst h1
      have hkv : kidV b e.name vars out = vars ++ [⟨e.name, out.getD 0 0⟩] := by
        unfold kidV
        rw [if_pos ⟨hbt, hol⟩]
      rw [hkv] at heq
      match out, hol with
      | [t0], _ =>
      obtain ⟨ro, po, hvo, cso, hro, hPo⟩ := hO.rep.at' (i := 0) rfl
      obtain ⟨rowo, hrow, _⟩ := hO.rep.row_at hvo
      unfold IntRep at hPo
      subst hPo
      have hvo' : vidx 1 vo 0 = some (ro, po) := hvo
      try simp only [q_bind_some, castInt_int, q_castBool, q_castStr, q_castPtr, q_castFn, q_castAgg, q_castTuple, q_uncons, q_isNil, q_sl, q_nils, q_emp, q_ptr, q_nilp, q_fn, q_cond_true, q_cond_false, Bool.not_true, Bool.not_false, decide_true, decide_false, List.cons_append, List.nil_append, h6, hvo', hro]
      refine B.call (cloneA_ends (((hvm hle).prots [ro]).mono (Lh.refl _) fun cs x _ hc => argRep hc) (by omega)) ?_
      rintro w σ1 ⟨RA, hA⟩
      obtain ⟨v', τ, w1, w2, w3⟩ := with_var hrow hA (by omega) e.name t0
      have hgd : ([t0] : List Int).getD 0 0 = t0 := rfl
      rw [hgd] at heq
      try simp only [q_bind_some, castInt_int, q_castBool, q_castStr, q_castPtr, q_castFn, q_castAgg, q_castTuple, q_uncons, q_isNil, q_sl, q_nils, q_emp, q_ptr, q_nilp, q_fn, q_cond_true, q_cond_false, Bool.not_true, Bool.not_false, decide_true, decide_false, List.cons_append, List.nil_append, unprots0, w1]
      have c := IH x hmx (vars ++ [⟨e.name, t0⟩]) _ v' _ (by simp; omega) (hE.le (hle.trans w2)) w3 (hPx (hle.trans w2))
      have hcode := tyE_code E (vars ++ [⟨e.name, t0⟩]) x
      generalize tyE E (vars ++ [⟨e.name, t0⟩]) x = tc at c hcode heq
      obtain ⟨t, code⟩ := tc
      simp only at c hcode heq
      refine B.give c fun σ2 l2 => ?_
      by_cases hc : code = 0
      rotate_left
      · rw [if_pos hc] at heq
        try simp only [q_bind_some, castInt_int, q_castBool, q_castStr, q_castPtr, q_castFn, q_castAgg, q_castTuple, q_uncons, q_isNil, q_sl, q_nils, q_emp, q_ptr, q_nilp, q_fn, q_cond_true, q_cond_false, Bool.not_true, Bool.not_false, decide_true, decide_false, List.cons_append, List.nil_append, hc, impl_typer_kids.A0_ret]
        exact W.ret ⟨(hle.trans w2).trans l2, .inr ⟨by rw [heq]; exact hc, by rw [heq]⟩⟩
      rw [if_neg (by simp [hc])] at heq
      obtain ⟨vo', σ3, R', g1, g2⟩ := (hO.up (w2.trans l2)).add t (by omega)
      try simp only [q_bind_some, castInt_int, q_castBool, q_castStr, q_castPtr, q_castFn, q_castAgg, q_castTuple, q_uncons, q_isNil, q_sl, q_nils, q_emp, q_ptr, q_nilp, q_fn, q_cond_true, q_cond_false, Bool.not_true, Bool.not_false, decide_true, decide_false, List.cons_append, List.nil_append, hc, g1, hnext]
      exact W.again (1 + 1, σ3, v', vo', [t0] ++ [t]) ⟨by show 1 + 1 ≤ e.kids.length; omega, rfl, fun h => by exfalso; simp only at h; omega, fun h => by
              rw [heq, show 1 + 1 = e.kids.length by omega, List.drop_length, tyK], ⟨R', g2⟩⟩ (by simp only; omega) rfl rfl
    · have h0 : i = 0 := by omega
      subst h0
      have hkv : kidV b e.name vars out = vars := by
        unfold kidV
        rw [if_neg (by rw [hol]; simp)]
      rw [hkv] at heq
      try simp only [q_bind_some, castInt_int, q_castBool, q_castStr, q_castPtr, q_castFn, q_castAgg, q_castTuple, q_uncons, q_isNil, q_sl, q_nils, q_emp, q_ptr, q_nilp, q_fn, q_cond_true, q_cond_false, Bool.not_true, Bool.not_false, decide_true, decide_false, List.cons_append, List.nil_append, h6]
      have c := IH x hmx vars _ vv _ (by omega) (hE.le hle) (hvm hle) (hPx hle)
      have hcode := tyE_code E vars x
      generalize tyE E vars x = tc at c hcode heq
      obtain ⟨t, code⟩ := tc
      simp only at c hcode heq
      refine B.give c fun σ2 l2 => ?_
      by_cases hc : code = 0
      rotate_left
      · rw [if_pos hc] at heq
        try simp only [q_bind_some, castInt_int, q_castBool, q_castStr, q_castPtr, q_castFn, q_castAgg, q_castTuple, q_uncons, q_isNil, q_sl, q_nils, q_emp, q_ptr, q_nilp, q_fn, q_cond_true, q_cond_false, Bool.not_true, Bool.not_false, decide_true, decide_false, List.cons_append, List.nil_append, hc, impl_typer_kids.A0_ret]
        exact W.ret ⟨hle.trans l2, .inr ⟨by rw [heq]; exact hc, by rw [heq]⟩⟩
      rw [if_neg (by simp [hc])] at heq
      obtain ⟨vo', σ3, R', g1, g2⟩ := (hO.up l2).add t (by omega)
      try simp only [q_bind_some, castInt_int, q_castBool, q_castStr, q_castPtr, q_castFn, q_castAgg, q_castTuple, q_uncons, q_isNil, q_sl, q_nils, q_emp, q_ptr, q_nilp, q_fn, q_cond_true, q_cond_false, Bool.not_true, Bool.not_false, decide_true, decide_false, List.cons_append, List.nil_append, hc, g1, hnext]
      exact W.again (0 + 1, σ3, vv, vo', out ++ [t]) ⟨by show 0 + 1 ≤ e.kids.length; omega, by simp [hol], fun _ => ⟨rfl, heq⟩, fun h => by exfalso; simp only at h; omega, ⟨R', g2⟩⟩ (by simp only; omega) rfl rfl
  · have hkv : kidV b e.name vars out = vars := by
      unfold kidV
      rw [if_neg (by rw [hb, decide_eq_false h6]; simp)]
    rw [hkv] at heq
    try simp only [q_bind_some, castInt_int, q_castBool, q_castStr, q_castPtr, q_castFn, q_castAgg, q_castTuple, q_uncons, q_isNil, q_sl, q_nils, q_emp, q_ptr, q_nilp, q_fn, q_cond_true, q_cond_false, Bool.not_true, Bool.not_false, decide_true, decide_false, List.cons_append, List.nil_append, h6]
    have c := IH x hmx vars _ vv _ (by omega) (hE.le hle) (hvm hle) (hPx hle)
    have hcode := tyE_code E vars x
    generalize tyE E vars x = tc at c hcode heq
    obtain ⟨t, code⟩ := tc
    simp only at c hcode heq
    refine B.give c fun σ2 l2 => ?_
    by_cases hc : code = 0
    rotate_left
    · rw [if_pos hc] at heq
      try simp only [q_bind_some, castInt_int, q_castBool, q_castStr, q_castPtr, q_castFn, q_castAgg, q_castTuple, q_uncons, q_isNil, q_sl, q_nils, q_emp, q_ptr, q_nilp, q_fn, q_cond_true, q_cond_false, Bool.not_true, Bool.not_false, decide_true, decide_false, List.cons_append, List.nil_append, hc, impl_typer_kids.A0_ret]
      exact W.ret ⟨hle.trans l2, .inr ⟨by rw [heq]; exact hc, by rw [heq]⟩⟩
    rw [if_neg (by simp [hc])] at heq
    obtain ⟨vo', σ3, R', g1, g2⟩ := (hO.up l2).add t (by omega)
    try simp only [q_bind_some, castInt_int, q_castBool, q_castStr, q_castPtr, q_castFn, q_castAgg, q_castTuple, q_uncons, q_isNil, q_sl, q_nils, q_emp, q_ptr, q_nilp, q_fn, q_cond_true, q_cond_false, Bool.not_true, Bool.not_false, decide_true, decide_false, List.cons_append, List.nil_append, hc, g1, hnext]
    exact W.again (i + 1, σ3, vv, vo', out ++ [t]) ⟨by show i + 1 ≤ e.kids.length; omega, by simp [hol], fun _ => ⟨rfl, heq⟩, fun h => by
          simp only at h
          rw [heq, h, List.drop_length, tyK], ⟨R', g2⟩⟩ (by simp only; omega) rfl rfl
end Go.G

/- TypeFind of the reference. -/
set_option linter.unusedVariables false
set_option linter.unusedSimpArgs false
namespace Go.G
open Go.HM Go.Proofs
theorem specTypeFind_ends {σ : Heap} {m : TreeMod} (hm : m.total ≤ 1048576) {l : List TypeFace} (hl : l.length + totS TypeFace.total l ≤ 1048576) {cs : List V} (h : TreeMod.Rep σ cs m) {v : V} (hv : RepS 2 (TypeFace.Rep σ) σ v l) (mod name : ByteArray) :
    HM.Ends G n_spec_TypeFind [.agg cs, v, .str mod, .str name] σ (FindP σ (findSig m l mod name)) := by
  rw [TreeMod.total_eq] at hm
  cases h with
  | mk hU hF hM =>
  rename_i a0 a1 a2
  refine HM.Ends.mk (W.to (fun k _ => spec_TypeFind.eq k _ _ _ _ _ _ _) ?_)
  refine W.ite (fun hm0 => ?_) fun hm0 => ?_
  · refine W.loop (S := Nat) (fun i => i ≤ m.funs.length ∧ ∀ (j : Nat) y, j < i → m.funs[j]? = some y → decide (y.name = name) = false) (fun i => [.v (.str name), .box [a0, a1, a2], .box [.str (⟨#[]⟩ : ByteArray), .nils, .int .i64 0], .v (.int .i64 (i : Int))]) (fun _ => σ) (fun i => m.funs.length - i)
      (fun i ⟨hi, hno⟩ => ?_) 0 ⟨Nat.zero_le _, fun j y hj => absurd hj (Nat.not_lt_zero _)⟩
    refine W.to (fun k _ => by rw [spec_TypeFind.L0_step]) ?_
    refine B.len hF (B.ite (fun hlt => ?_) fun hlt => ?_)
    · have hil : i < m.funs.length := by omega
      have hx : m.funs[i]? = some m.funs[i] := List.getElem?_eq_getElem hil
      generalize m.funs[i] = x at hx
      obtain ⟨r, o, hv', cs, hr, hP⟩ := hF.at' hx
      have hxl : x.args.length ≤ 1048576 := by have := totS_mem TreeFun.total (List.mem_of_getElem? hx); have := TreeFun.total_eq x; omega
      have hc := specSig_ends hxl hP
      cases hP with
      | mk g1 g2 =>
      have e0 : rdc σ r (o + 0) 1 = some [.str x.name] := rdc_sub hr 0 1 (by omega)
      try simp only [q_bind_some, castInt_int, q_castBool, q_castStr, q_castPtr, q_castFn, q_castAgg, q_castTuple, q_uncons, q_isNil, q_sl, q_nils, q_emp, q_ptr, q_nilp, q_fn, q_cond_true, q_cond_false, Bool.not_true, Bool.not_false, decide_true, decide_false, List.cons_append, List.nil_append, hv', e0]
      by_cases hn : x.name = name
      · try simp only [q_bind_some, castInt_int, q_castBool, q_castStr, q_castPtr, q_castFn, q_castAgg, q_castTuple, q_uncons, q_isNil, q_sl, q_nils, q_emp, q_ptr, q_nilp, q_fn, q_cond_true, q_cond_false, Bool.not_true, Bool.not_false, decide_true, decide_false, List.cons_append, List.nil_append, decide_eq_true hn, hv', hr]
        refine B.call hc ?_
        rintro _ σ3 ⟨av, R, rfl, hO⟩
        try simp only [q_bind_some, castInt_int, q_castBool, q_castStr, q_castPtr, q_castFn, q_castAgg, q_castTuple, q_uncons, q_isNil, q_sl, q_nils, q_emp, q_ptr, q_nilp, q_fn, q_cond_true, q_cond_false, Bool.not_true, Bool.not_false, decide_true, decide_false, List.cons_append, List.nil_append, spec_TypeFind.A0_ret]
        rw [fs_own_some hm0 (find_at hx (by simp [hn]) hno)]
        exact W.ret ⟨av, R, rfl, hO⟩
      · try simp only [q_bind_some, castInt_int, q_castBool, q_castStr, q_castPtr, q_castFn, q_castAgg, q_castTuple, q_uncons, q_isNil, q_sl, q_nils, q_emp, q_ptr, q_nilp, q_fn, q_cond_true, q_cond_false, Bool.not_true, Bool.not_false, decide_true, decide_false, List.cons_append, List.nil_append, decide_eq_false hn, wrap_next hil (by omega)]
        refine W.again (i + 1) ⟨by omega, fun j y hj hy => ?_⟩ (by omega) rfl rfl
        by_cases hij : j = i
        · subst hij
          rw [hx] at hy
          injection hy with hy
          rw [← hy]; exact decide_eq_false hn
        · exact hno j y (by omega) hy
    · try simp only [q_bind_some, castInt_int, q_castBool, q_castStr, q_castPtr, q_castFn, q_castAgg, q_castTuple, q_uncons, q_isNil, q_sl, q_nils, q_emp, q_ptr, q_nilp, q_fn, q_cond_true, q_cond_false, Bool.not_true, Bool.not_false, decide_true, decide_false, List.cons_append, List.nil_append, spec_TypeFind.A0_x0]
      rw [fs_own_none hm0 (find_no fun j y hy => hno j y (by have := lt_of_get hy; omega) hy)]
      exact W.ret (FindP.none (Lh.refl _))
  refine W.loop (S := Nat × Bool) (fun s => s.1 ≤ m.uses.length ∧ (s.2 = true ↔ mod ∈ m.uses.take s.1)) (fun s => [.v v, .v (.str mod), .v (.str name), .box [a0, a1, a2], .box [.str (⟨#[]⟩ : ByteArray), .nils, .int .i64 0], .v (.bool s.2), .v (.int .i64 (s.1 : Int))]) (fun _ => σ) (fun s => m.uses.length - s.1)
    (fun ⟨i, b⟩ ⟨hi, hb⟩ => ?_) (0, false) ⟨Nat.zero_le _, by simp⟩
  simp only at hi hb ⊢
  refine W.to (fun k _ => by rw [spec_TypeFind.L1_step]) ?_
  refine B.len hU (B.ite (fun hlt => ?_) fun hlt => ?_)
  · have hil : i < m.uses.length := by omega
    have hx : m.uses[i]? = some m.uses[i] := List.getElem?_eq_getElem hil
    generalize m.uses[i] = x at hx
    have htk := take_next' hx
    cases b with
    | true =>
      try simp only [q_bind_some, castInt_int, q_castBool, q_castStr, q_castPtr, q_castFn, q_castAgg, q_castTuple, q_uncons, q_isNil, q_sl, q_nils, q_emp, q_ptr, q_nilp, q_fn, q_cond_true, q_cond_false, Bool.not_true, Bool.not_false, decide_true, decide_false, List.cons_append, List.nil_append, wrap_next hil (by omega)]
      exact W.again (i + 1, true) ⟨by show i + 1 ≤ m.uses.length; omega, by rw [htk]; simp [hb.1 rfl]⟩ (by simp only; omega) rfl rfl
    | false =>
      have hnm : mod ∉ m.uses.take i := fun hc => by have := hb.2 hc; cases this
      obtain ⟨r, o, hv', cs, hr, hP⟩ := hU.at' hx
      unfold StrRep at hP
      subst hP
      try simp only [q_bind_some, castInt_int, q_castBool, q_castStr, q_castPtr, q_castFn, q_castAgg, q_castTuple, q_uncons, q_isNil, q_sl, q_nils, q_emp, q_ptr, q_nilp, q_fn, q_cond_true, q_cond_false, Bool.not_true, Bool.not_false, decide_true, decide_false, List.cons_append, List.nil_append, hv', hr, wrap_next hil (by omega)]
      refine W.again (i + 1, decide (x = mod)) ⟨by show i + 1 ≤ m.uses.length; omega, ?_⟩ (by simp only; omega) rfl rfl
      rw [htk]
      simp only [decide_eq_true_eq, List.mem_append, List.mem_singleton]
      exact ⟨fun h => .inr h.symm, fun h => h.elim (fun h => absurd h hnm) fun h => h.symm⟩
  obtain rfl : i = m.uses.length := by omega
  rw [List.take_length] at hb
  try simp only [q_bind_some, castInt_int, q_castBool, q_castStr, q_castPtr, q_castFn, q_castAgg, q_castTuple, q_uncons, q_isNil, q_sl, q_nils, q_emp, q_ptr, q_nilp, q_fn, q_cond_true, q_cond_false, Bool.not_true, Bool.not_false, decide_true, decide_false, List.cons_append, List.nil_append, spec_TypeFind.A1_x2]
  refine W.loop (S := Nat) (fun i => i ≤ l.length ∧ ∀ (j : Nat) y, j < i → l[j]? = some y → decide (y.mod = mod) = false) (fun i => [.v v, .v (.str mod), .v (.str name), .box [.str (⟨#[]⟩ : ByteArray), .nils, .int .i64 0], .v (.bool b), .v (.int .i64 (i : Int))]) (fun _ => σ) (fun i => l.length - i)
    (fun i ⟨hi, hno⟩ => ?_) 0 ⟨Nat.zero_le _, fun j y hj => absurd hj (Nat.not_lt_zero _)⟩
  refine W.to (fun k _ => by rw [spec_TypeFind.L2_step]) ?_
  refine B.len hv (B.ite (fun hlt => ?_) fun hlt => ?_)
  rotate_left
  · try simp only [q_bind_some, castInt_int, q_castBool, q_castStr, q_castPtr, q_castFn, q_castAgg, q_castTuple, q_uncons, q_isNil, q_sl, q_nils, q_emp, q_ptr, q_nilp, q_fn, q_cond_true, q_cond_false, Bool.not_true, Bool.not_false, decide_true, decide_false, List.cons_append, List.nil_append, spec_TypeFind.A2_x4]
    rw [fs_no_face hm0 (find_no fun j y hy => hno j y (by have := lt_of_get hy; omega) hy)]
    exact W.ret (FindP.none (Lh.refl _))
  cases b with
  | false =>
    try simp only [q_bind_some, castInt_int, q_castBool, q_castStr, q_castPtr, q_castFn, q_castAgg, q_castTuple, q_uncons, q_isNil, q_sl, q_nils, q_emp, q_ptr, q_nilp, q_fn, q_cond_true, q_cond_false, Bool.not_true, Bool.not_false, decide_true, decide_false, List.cons_append, List.nil_append, spec_TypeFind.A2_x4]
    rw [fs_no_use hm0 fun hc => by have := hb.2 hc; cases this]
    exact W.ret (FindP.none (Lh.refl _))
  | true =>
  have hu := hb.1 rfl
  have hil : i < l.length := by omega
  have hx : l[i]? = some l[i] := List.getElem?_eq_getElem hil
  generalize l[i] = x at hx
  have hxt := totS_mem TypeFace.total (List.mem_of_getElem? hx)
  have hxe := TypeFace.total_eq x
  obtain ⟨r, o, hv', cs, hr, hP⟩ := hv.at' hx
  cases hP with
  | mk g1 =>
  rename_i b0
  have e0 : rdc σ r (o + 0) 1 = some [.str x.mod] := rdc_sub hr 0 1 (by omega)
  have e1 : rdc σ r (o + 1) 1 = some [b0] := rdc_sub hr 1 1 (by omega)
  try simp only [q_bind_some, castInt_int, q_castBool, q_castStr, q_castPtr, q_castFn, q_castAgg, q_castTuple, q_uncons, q_isNil, q_sl, q_nils, q_emp, q_ptr, q_nilp, q_fn, q_cond_true, q_cond_false, Bool.not_true, Bool.not_false, decide_true, decide_false, List.cons_append, List.nil_append, hv', e0]
  by_cases hn : x.mod = mod
  rotate_left
  · try simp only [q_bind_some, castInt_int, q_castBool, q_castStr, q_castPtr, q_castFn, q_castAgg, q_castTuple, q_uncons, q_isNil, q_sl, q_nils, q_emp, q_ptr, q_nilp, q_fn, q_cond_true, q_cond_false, Bool.not_true, Bool.not_false, decide_true, decide_false, List.cons_append, List.nil_append, decide_eq_false hn, wrap_next hil (by omega)]
    refine W.again (i + 1) ⟨by omega, fun j y hj hy => ?_⟩ (by omega) rfl rfl
    by_cases hij : j = i
    · subst hij
      rw [hx] at hy
      injection hy with hy
      rw [← hy]; exact decide_eq_false hn
    · exact hno j y (by omega) hy
  have hf : l.find? (fun f => decide (f.mod = mod)) = some x := find_at hx (by simp [hn]) hno
  try simp only [q_bind_some, castInt_int, q_castBool, q_castStr, q_castPtr, q_castFn, q_castAgg, q_castTuple, q_uncons, q_isNil, q_sl, q_nils, q_emp, q_ptr, q_nilp, q_fn, q_cond_true, q_cond_false, Bool.not_true, Bool.not_false, decide_true, decide_false, List.cons_append, List.nil_append, decide_eq_true hn]
  refine B.assoc ?_
  refine W.loop (S := Nat) (fun k => k ≤ x.sigs.length ∧ ∀ (j : Nat) y, j < k → x.sigs[j]? = some y → decide (y.name = name) = false) (fun k => [.v v, .v (.str name), .box [.str (⟨#[]⟩ : ByteArray), .nils, .int .i64 0], .v (.int .i64 (i : Int)), .v (.int .i64 (k : Int))]) (fun _ => σ) (fun k => x.sigs.length - k)
    (fun k ⟨hk, hno2⟩ => ?_) 0 ⟨Nat.zero_le _, fun j y hj => absurd hj (Nat.not_lt_zero _)⟩
  refine W.to (fun k _ => by rw [spec_TypeFind.L3_step]) ?_
  try simp only [q_bind_some, castInt_int, q_castBool, q_castStr, q_castPtr, q_castFn, q_castAgg, q_castTuple, q_uncons, q_isNil, q_sl, q_nils, q_emp, q_ptr, q_nilp, q_fn, q_cond_true, q_cond_false, Bool.not_true, Bool.not_false, decide_true, decide_false, List.cons_append, List.nil_append, hv', e1]
  refine B.len g1 (B.ite (fun hlt2 => ?_) fun hlt2 => ?_)
  · have hkl : k < x.sigs.length := by omega
    have hy : x.sigs[k]? = some x.sigs[k] := List.getElem?_eq_getElem hkl
    generalize x.sigs[k] = y at hy
    have hyt := totS_mem FaceSig.total (List.mem_of_getElem? hy)
    have hye := FaceSig.total_eq y
    obtain ⟨r4, o4, hv4, cs4, hr4, hP4⟩ := g1.at' hy
    have hc := l4Sig_ends (by omega) hP4
    cases hP4 with
    | mk g4 =>
    have f0 : rdc σ r4 (o4 + 0) 1 = some [.str y.name] := rdc_sub hr4 0 1 (by omega)
    try simp only [q_bind_some, castInt_int, q_castBool, q_castStr, q_castPtr, q_castFn, q_castAgg, q_castTuple, q_uncons, q_isNil, q_sl, q_nils, q_emp, q_ptr, q_nilp, q_fn, q_cond_true, q_cond_false, Bool.not_true, Bool.not_false, decide_true, decide_false, List.cons_append, List.nil_append, hv', e1, hv4, f0]
    by_cases hn2 : y.name = name
    · try simp only [q_bind_some, castInt_int, q_castBool, q_castStr, q_castPtr, q_castFn, q_castAgg, q_castTuple, q_uncons, q_isNil, q_sl, q_nils, q_emp, q_ptr, q_nilp, q_fn, q_cond_true, q_cond_false, Bool.not_true, Bool.not_false, decide_true, decide_false, List.cons_append, List.nil_append, decide_eq_true hn2, hv', e1, hv4, hr4]
      refine B.call hc ?_
      rintro _ σ4 ⟨av, R, rfl, hO⟩
      try simp only [q_bind_some, castInt_int, q_castBool, q_castStr, q_castPtr, q_castFn, q_castAgg, q_castTuple, q_uncons, q_isNil, q_sl, q_nils, q_emp, q_ptr, q_nilp, q_fn, q_cond_true, q_cond_false, Bool.not_true, Bool.not_false, decide_true, decide_false, List.cons_append, List.nil_append, spec_TypeFind.A3_ret, spec_TypeFind.A2_ret]
      rw [fs_sig hm0 hu hf (find_at hy (by simp [hn2]) hno2)]
      exact W.ret ⟨av, R, rfl, hO⟩
    · try simp only [q_bind_some, castInt_int, q_castBool, q_castStr, q_castPtr, q_castFn, q_castAgg, q_castTuple, q_uncons, q_isNil, q_sl, q_nils, q_emp, q_ptr, q_nilp, q_fn, q_cond_true, q_cond_false, Bool.not_true, Bool.not_false, decide_true, decide_false, List.cons_append, List.nil_append, decide_eq_false hn2, wrap_next hkl (by omega)]
      refine W.again (k + 1) ⟨by omega, fun j z hj hz => ?_⟩ (by omega) rfl rfl
      by_cases hij : j = k
      · subst hij
        rw [hy] at hz
        injection hz with hz
        rw [← hz]; exact decide_eq_false hn2
      · exact hno2 j z (by omega) hz
  · try simp only [q_bind_some, castInt_int, q_castBool, q_castStr, q_castPtr, q_castFn, q_castAgg, q_castTuple, q_uncons, q_isNil, q_sl, q_nils, q_emp, q_ptr, q_nilp, q_fn, q_cond_true, q_cond_false, Bool.not_true, Bool.not_false, decide_true, decide_false, List.cons_append, List.nil_append, spec_TypeFind.A3_x6, spec_TypeFind.A2_ret]
    rw [fs_no_sig hm0 hf (find_no fun j y hy => hno2 j y (by have := lt_of_get hy; omega) hy)]
    exact W.ret (FindP.none (Lh.refl _))
end Go.G

/- The program's typer. -/
set_option linter.unusedVariables false
set_option linter.unusedSimpArgs false
namespace Go.G
open Go.HM Go.Proofs
theorem unprots_new (rs : List Nat) (σ : Heap) (e : Nat) (cs : List V) : unprot rs σ (hnew (prot rs σ) e cs) = hnew σ e cs := by
  apply List.ext_getElem?
  intro j
  have hlen := prots_len rs σ
  by_cases hr : ∃ row, σ[j]? = some (some row)
  · obtain ⟨row, hj⟩ := hr
    have hjl := get_lt hj
    have e1 : (hnew σ e cs)[j]? = some (some row) := by simp only [hnew]; rw [List.getElem?_append_left hjl]; exact hj
    rw [e1]
    by_cases hin : j ∈ rs
    · exact unprots_in _ hj (by simp [hnew]; omega) rs hin
    · rw [unprots_out _ _ rs hin]
      obtain ⟨row', h1, _, _, h2⟩ := prots_row hj rs
      rw [h2 hin] at h1
      simp only [hnew]
      rw [List.getElem?_append_left (by omega)]
      exact h1
  · have hr' : ∀ row, σ[j]? ≠ some (some row) := fun row h => hr ⟨row, h⟩
    rw [unprots_not hr' _ rs]
    simp only [hnew]
    by_cases hjl : j < σ.length
    · rw [List.getElem?_append_left (by omega), List.getElem?_append_left hjl]
      exact prots_not hr' rs
    · rw [List.getElem?_append_right (by omega), List.getElem?_append_right (by omega), hlen]
theorem int_at {σ : Heap} {v : V} {l : List Int} (h : RepS 1 IntRep σ v l) {i : Nat} (hi : i < l.length) : ∃ r o, vidx 1 v (i : Int) = some (r, o) ∧ rdc σ r o 1 = some [.int .i64 (l.getD i 0)] := by
  obtain ⟨r, o, hv, cs, hr, hP⟩ := h.at' (List.getElem?_eq_getElem hi)
  unfold IntRep at hP
  subst hP
  refine ⟨r, o, hv, ?_⟩
  rw [hr, List.getD_eq_getElem?_getD, List.getElem?_eq_getElem hi]
  rfl
theorem chk_eq {ks want : List Int} {t : Int} : chk want t ks = if ks = want then (t, 0) else (0, 4) := rfl
theorem maxS_in {α : Type} {f : α → Nat} : ∀ {l : List α} {x : α}, x ∈ l → f x ≤ maxS f l
  | y :: l, x, h => by
    rw [maxS]
    rcases List.mem_cons.1 h with h | h
    · rw [h]; omega
    · have := maxS_in (f := f) h
      omega
theorem deep_kid {e x : TreeExpr} (h : x ∈ e.kids) : x.deep + 1 ≤ e.deep := by
  rw [TreeExpr.deep_eq e]
  have := maxS_in (f := TreeExpr.deep) h
  omega
theorem arity_le (s : ByteArray) : arity s ≤ 3 := by
  unfold arity
  repeat' split
  all_goals omega
set_option maxHeartbeats 4000000 in
theorem implExpr_gives {E : TyEnv} (hB : TyB E) {a1 a2 a3 a4 : V} (e : TreeExpr) (N : Nat) (hR : Right e) (hN : N + e.deep ≤ 2097152) : KidsI n_impl_typer_expr [.agg [a1, a2, a3, a4]] E a1 a2 a3 a4 N e := by
  have hRi := (right_iff e).1 hR
  have hd : 1 ≤ e.deep := by rw [TreeExpr.deep_eq]; omega
  have IH : ∀ x, x ∈ e.kids → KidsI n_impl_typer_expr [.agg [a1, a2, a3, a4]] E a1 a2 a3 a4 (N + 1) x := fun x hx =>
    implExpr_gives hB x (N + 1) (hRi.2 x hx) (by have := deep_kid hx; omega)
  intro vars σ v cs hvl hE hv h
  have hn := hRi.1
  have hk8 : e.kids.length ≤ 8 := by
    rcases hn with h | h | h | h | h | h | h | h
    · omega
    · omega
    · omega
    · have := h.2.2.2
      have := arity_le e.name
      omega
    · omega
    · omega
    · omega
    · omega
  have hk2 : e.kind = 6 → e.kids.length = 2 := fun h6 => by
    rcases hn with h | h | h | h | h | h | h | h <;> omega
  have hvm : ∀ {σ' : Heap}, Lh σ σ' → RepS 2 (TreeArg.Rep σ') σ' v vars := fun l => hv.mono l fun cs x _ hc => TreeArg.Rep.le l hc
  have hK := implKids_ends (by omega) IH hk8 hk2 hvl hE hv h
  have hte := tyE_eq E vars e
  have hks := tyK_len E (decide (e.kind = 6)) e.name e.kids vars []
  generalize tyK E (decide (e.kind = 6)) e.name vars [] e.kids = r at hK hte hks
  obtain ⟨ks, kc⟩ := r
  simp only [List.length_nil, Nat.zero_add] at hks hte
  cases h with
  | mk hk =>
  rename_i a0
  show Gives G n_impl_typer_expr [.agg [a1, a2, a3, a4], v, .agg [.int .i64 e.kind, .int .i64 e.num, .str e.name, .str e.mod, a0]] σ _
  refine Gives.of (W.to (fun k _ => impl_typer_expr.eq k _ _ _ _ _ _ _ _ _ _ _) ?_)
  refine W.call hK ?_
  rintro w σ1 ⟨l1, ⟨hc, vk, rfl, hvk⟩ | ⟨hc, rfl⟩⟩
  rotate_left
  · simp only at hc
    rw [if_pos hc] at hte
    try simp only [q_bind_some, castInt_int, q_castBool, q_castStr, q_castPtr, q_castFn, q_castAgg, q_castTuple, q_uncons, q_isNil, q_sl, q_nils, q_emp, q_ptr, q_nilp, q_fn, q_cond_true, q_cond_false, Bool.not_true, Bool.not_false, decide_true, decide_false, List.cons_append, List.nil_append, hc]
    exact W.ret ⟨by rw [hte], l1⟩
  simp only at hc hvk
  subst hc
  rw [if_neg (by simp)] at hte
  have hkl := hks rfl
  try simp only [q_bind_some, castInt_int, q_castBool, q_castStr, q_castPtr, q_castFn, q_castAgg, q_castTuple, q_uncons, q_isNil, q_sl, q_nils, q_emp, q_ptr, q_nilp, q_fn, q_cond_true, q_cond_false, Bool.not_true, Bool.not_false, decide_true, decide_false, List.cons_append, List.nil_append]
  refine W.call (cloneI_ends hvk (by omega)) ?_
  rintro w2 σ2 ⟨R2, hO2⟩
  have l12 := l1.trans hO2.le
  have hvk2 := hvk.le hO2.le
  rw [hte]
  rcases hn with h | h | h | h | h | h | h | h
  · try simp only [q_bind_some, castInt_int, q_castBool, q_castStr, q_castPtr, q_castFn, q_castAgg, q_castTuple, q_uncons, q_isNil, q_sl, q_nils, q_emp, q_ptr, q_nilp, q_fn, q_cond_true, q_cond_false, Bool.not_true, Bool.not_false, decide_true, decide_false, List.cons_append, List.nil_append, h.1]
    exact W.ret ⟨by simp [appT], l12⟩
  · try simp only [q_bind_some, castInt_int, q_castBool, q_castStr, q_castPtr, q_castFn, q_castAgg, q_castTuple, q_uncons, q_isNil, q_sl, q_nils, q_emp, q_ptr, q_nilp, q_fn, q_cond_true, q_cond_false, Bool.not_true, Bool.not_false, decide_true, decide_false, List.cons_append, List.nil_append, h.1]
    exact W.ret ⟨by simp [appT], l12⟩
  · try simp only [q_bind_some, castInt_int, q_castBool, q_castStr, q_castPtr, q_castFn, q_castAgg, q_castTuple, q_uncons, q_isNil, q_sl, q_nils, q_emp, q_ptr, q_nilp, q_fn, q_cond_true, q_cond_false, Bool.not_true, Bool.not_false, decide_true, decide_false, List.cons_append, List.nil_append, h.1]
    refine W.run (lastVar_runs (hvm l12) (by omega) e.name) ?_
    have hap : appT E vars 3 e.name e.mod ks = varT vars e.name := by simp [appT]
    rw [hap]
    unfold varT lastIx
    rw [List.length_map]
    rcases varTo_last vars e.name vars.length (Nat.le_refl _) with ⟨g1, g2⟩ | ⟨i, a, g1, g2, g3⟩
    · try simp only [q_bind_some, castInt_int, q_castBool, q_castStr, q_castPtr, q_castFn, q_castAgg, q_castTuple, q_uncons, q_isNil, q_sl, q_nils, q_emp, q_ptr, q_nilp, q_fn, q_cond_true, q_cond_false, Bool.not_true, Bool.not_false, decide_true, decide_false, List.cons_append, List.nil_append, g1, g2]
      exact W.ret ⟨rfl, l12⟩
    · obtain ⟨r, o, hv', cs', hr, hP⟩ := (hvm l12).at' g2
      cases hP with
      | mk =>
      have e1 := rdc_sub hr 1 1 (by omega)
      have hi : ¬ ((i : Int) < 0) := by omega
      try simp only [q_bind_some, castInt_int, q_castBool, q_castStr, q_castPtr, q_castFn, q_castAgg, q_castTuple, q_uncons, q_isNil, q_sl, q_nils, q_emp, q_ptr, q_nilp, q_fn, q_cond_true, q_cond_false, Bool.not_true, Bool.not_false, decide_true, decide_false, List.cons_append, List.nil_append, g1, g3, hi, hv', e1]
      exact W.ret ⟨rfl, l12⟩
  · try simp only [q_bind_some, castInt_int, q_castBool, q_castStr, q_castPtr, q_castFn, q_castAgg, q_castTuple, q_uncons, q_isNil, q_sl, q_nils, q_emp, q_ptr, q_nilp, q_fn, q_cond_true, q_cond_false, Bool.not_true, Bool.not_false, decide_true, decide_false, List.cons_append, List.nil_append, h.1]
    refine W.call (implTypePrim_ends σ2 e.name) ?_
    rintro w3 σ3 ⟨vp, rfl, l3, hp⟩
    try simp only [q_bind_some, castInt_int, q_castBool, q_castStr, q_castPtr, q_castFn, q_castAgg, q_castTuple, q_uncons, q_isNil, q_sl, q_nils, q_emp, q_ptr, q_nilp, q_fn, q_cond_true, q_cond_false, Bool.not_true, Bool.not_false, decide_true, decide_false, List.cons_append, List.nil_append]
    refine W.run (equalI_runs (hvk2.le l3) hp (by omega)) ?_
    have hap : appT E vars 4 e.name e.mod ks = chk (primT e.name).1 (primT e.name).2 ks := by simp [appT]
    rw [hap, chk_eq]
    by_cases hq : ks = (primT e.name).1
    · try simp only [q_bind_some, castInt_int, q_castBool, q_castStr, q_castPtr, q_castFn, q_castAgg, q_castTuple, q_uncons, q_isNil, q_sl, q_nils, q_emp, q_ptr, q_nilp, q_fn, q_cond_true, q_cond_false, Bool.not_true, Bool.not_false, decide_true, decide_false, List.cons_append, List.nil_append, hq]
      exact W.ret ⟨rfl, l12.trans l3⟩
    · try simp only [q_bind_some, castInt_int, q_castBool, q_castStr, q_castPtr, q_castFn, q_castAgg, q_castTuple, q_uncons, q_isNil, q_sl, q_nils, q_emp, q_ptr, q_nilp, q_fn, q_cond_true, q_cond_false, Bool.not_true, Bool.not_false, decide_true, decide_false, List.cons_append, List.nil_append, hq]
      exact W.ret ⟨rfl, l12.trans l3⟩
  · have hl3 : ks.length = 3 := by omega
    obtain ⟨r, o, hv', hr⟩ := int_at hvk2 (i := 1) (by omega)
    have hv'' : vidx 1 vk 1 = some (r, o) := hv'
    try simp only [q_bind_some, castInt_int, q_castBool, q_castStr, q_castPtr, q_castFn, q_castAgg, q_castTuple, q_uncons, q_isNil, q_sl, q_nils, q_emp, q_ptr, q_nilp, q_fn, q_cond_true, q_cond_false, Bool.not_true, Bool.not_false, decide_true, decide_false, List.cons_append, List.nil_append, h.1, hv'', hr, prots_len, unprots_new]
    have hp := newInts σ2 [2, ks.getD 1 0, ks.getD 1 0]
    have l3 : Lh σ2 (hnew σ2 1 ([2, ks.getD 1 0, ks.getD 1 0].map fun n => V.int .i64 n)) := Lh.new _ _ _
    refine W.run (equalI_runs (hvk2.le l3) hp (by omega)) ?_
    have hap : appT E vars 5 e.name e.mod ks = chk [2, ks.getD 1 0, ks.getD 1 0] (ks.getD 1 0) ks := by simp [appT]
    rw [hap, chk_eq]
    by_cases hq : ks = [2, ks.getD 1 0, ks.getD 1 0]
    · simp only [decide_eq_true hq, if_pos hq, castBool_bool, Bool.not_true, cond_false]
      exact W.ret ⟨rfl, l12.trans l3⟩
    · simp only [decide_eq_false hq, if_neg hq, castBool_bool, Bool.not_false, cond_true]
      exact W.ret ⟨rfl, l12.trans l3⟩
  · obtain ⟨r, o, hv', hr⟩ := int_at hvk2 (i := 1) (by have := hk2 h.1; omega)
    have hv'' : vidx 1 vk 1 = some (r, o) := hv'
    try simp only [q_bind_some, castInt_int, q_castBool, q_castStr, q_castPtr, q_castFn, q_castAgg, q_castTuple, q_uncons, q_isNil, q_sl, q_nils, q_emp, q_ptr, q_nilp, q_fn, q_cond_true, q_cond_false, Bool.not_true, Bool.not_false, decide_true, decide_false, List.cons_append, List.nil_append, h.1, hv'', hr]
    exact W.ret ⟨by simp [appT], l12⟩
  · try simp only [q_bind_some, castInt_int, q_castBool, q_castStr, q_castPtr, q_castFn, q_castAgg, q_castTuple, q_uncons, q_isNil, q_sl, q_nils, q_emp, q_ptr, q_nilp, q_fn, q_cond_true, q_cond_false, Bool.not_true, Bool.not_false, decide_true, decide_false, List.cons_append, List.nil_append, h.1]
    refine W.call (implTypeFind_ends hB.m hB.l (hE.le l12).m ((hE.le l12).l) e.mod e.name) ?_
    rintro w3 σ3 ⟨av, R3, rfl, hO3⟩
    try simp only [q_bind_some, castInt_int, q_castBool, q_castStr, q_castPtr, q_castFn, q_castAgg, q_castTuple, q_uncons, q_isNil, q_sl, q_nils, q_emp, q_ptr, q_nilp, q_fn, q_cond_true, q_cond_false, Bool.not_true, Bool.not_false, decide_true, decide_false, List.cons_append, List.nil_append]
    have hap : appT E vars 7 e.name e.mod ks = if (findSig E.m E.l e.mod e.name).2 = false then (0, 2) else if (findSig E.m E.l e.mod e.name).1.args.length ≠ ks.length then (0, 3) else chk (findSig E.m E.l e.mod e.name).1.args (findSig E.m E.l e.mod e.name).1.type ks := by simp [appT]
    rw [hap]
    generalize findSig E.m E.l e.mod e.name = fs at hO3
    obtain ⟨sg, there⟩ := fs
    cases there with
    | false =>
      try simp only [q_bind_some, castInt_int, q_castBool, q_castStr, q_castPtr, q_castFn, q_castAgg, q_castTuple, q_uncons, q_isNil, q_sl, q_nils, q_emp, q_ptr, q_nilp, q_fn, q_cond_true, q_cond_false, Bool.not_true, Bool.not_false, decide_true, decide_false, List.cons_append, List.nil_append]
      exact W.ret ⟨rfl, l12.trans hO3.le⟩
    | true =>
      simp only at hO3
      try simp only [q_bind_some, castInt_int, q_castBool, q_castStr, q_castPtr, q_castFn, q_castAgg, q_castTuple, q_uncons, q_isNil, q_sl, q_nils, q_emp, q_ptr, q_nilp, q_fn, q_cond_true, q_cond_false, Bool.not_true, Bool.not_false, decide_true, decide_false, List.cons_append, List.nil_append]
      refine W.len hO3.rep (W.len (hvk2.le hO3.le) ?_)
      by_cases hq : sg.args.length = ks.length
      rotate_left
      · have hq' : ¬ ((sg.args.length : Int) = (ks.length : Int)) := by omega
        simp only [decide_eq_false hq', Bool.not_false, cond_true]
        exact W.ret ⟨by simp [hq], l12.trans hO3.le⟩
      have hq' : ((sg.args.length : Int) = (ks.length : Int)) := by omega
      simp only [decide_eq_true hq', Bool.not_true, cond_false]
      refine W.run (equalI_runs (hvk2.le hO3.le) hO3.rep (by omega)) ?_
      rw [chk_eq]
      by_cases hq2 : ks = sg.args
      · simp only [decide_eq_true hq2, castBool_bool, Bool.not_true, cond_false]
        exact W.ret ⟨by simp [hq2], l12.trans hO3.le⟩
      · simp only [decide_eq_false hq2, castBool_bool, Bool.not_false, cond_true]
        exact W.ret ⟨by simp [hq2, hq], l12.trans hO3.le⟩
  · try simp only [q_bind_some, castInt_int, q_castBool, q_castStr, q_castPtr, q_castFn, q_castAgg, q_castTuple, q_uncons, q_isNil, q_sl, q_nils, q_emp, q_ptr, q_nilp, q_fn, q_cond_true, q_cond_false, Bool.not_true, Bool.not_false, decide_true, decide_false, List.cons_append, List.nil_append, h.1]
    refine W.len hvk2 ?_
    have l3 : Lh σ2 (hnew σ2 1 [V.int .i64 1]) := Lh.new _ _ _
    have hone : rdc (hnew σ2 1 [V.int .i64 1]) σ2.length 0 1 = some [V.int .i64 1] := by simp [rdc, hnew]
    refine W.call (repeat_ends hone (n := ks.length) (by omega)) ?_
    rintro w3 σ3 ⟨l4, hrep⟩
    try simp only [q_bind_some, castInt_int, q_castBool, q_castStr, q_castPtr, q_castFn, q_castAgg, q_castTuple, q_uncons, q_isNil, q_sl, q_nils, q_emp, q_ptr, q_nilp, q_fn, q_cond_true, q_cond_false, Bool.not_true, Bool.not_false, decide_true, decide_false, List.cons_append, List.nil_append]
    refine W.run (equalI_runs ((hvk2.le l3).le l4) hrep (by omega)) ?_
    have hap : appT E vars 8 e.name e.mod ks = chk (List.replicate ks.length 1) 3 ks := by simp [appT]
    rw [hap, chk_eq]
    by_cases hq : ks = List.replicate ks.length 1
    · simp only [decide_eq_true hq, if_pos hq, castBool_bool, Bool.not_true, cond_false]
      exact W.ret ⟨rfl, (l12.trans l3).trans l4⟩
    · simp only [decide_eq_false hq, if_neg hq, castBool_bool, Bool.not_false, cond_true]
      exact W.ret ⟨rfl, (l12.trans l3).trans l4⟩
termination_by SizeOf.sizeOf e
decreasing_by
  cases e
  have := List.sizeOf_lt_of_mem hx
  simp at this ⊢
  omega
end Go.G

/- The reference's typer: what it is made of. -/
set_option linter.unusedVariables false
set_option linter.unusedSimpArgs false
namespace Go.G
open Go.HM Go.Proofs
theorem l4Var_runs {σ : Heap} {v : V} {vars : List TreeArg} (h : RepS 2 (TreeArg.Rep σ) σ v vars) (hl : vars.length ≤ 1073741824) (s : ByteArray) : Runs G n_spec_l4Var [v, .str s] σ (.tuple [.int .i64 (varT vars s).1, .int .i64 (varT vars s).2]) σ := by
  refine Runs.of (W.to (fun n _ => spec_l4Var.eq n _ _ _) ?_)
  refine W.len h ?_
  have hw : IntKind.wrap .i64 ((vars.length : Int) - 1) = (vars.length : Int) - 1 := wrap_id (by omega) (by omega)
  rw [hw]
  refine W.loop (S := Nat) (fun k => k ≤ vars.length ∧ varT vars s = varTo vars s k) (fun k => [.v v, .v (.str s), .v (.int .i64 ((k : Int) - 1))]) (fun _ => σ) (fun k => k) (fun k ⟨hk, hok⟩ => ?_) vars.length ⟨Nat.le_refl _, rfl⟩
  refine W.to (fun n _ => by rw [spec_l4Var.L0_step]) ?_
  refine B.ite (fun hlt => ?_) fun hlt => ?_
  · obtain ⟨k, rfl⟩ : ∃ j, k = j + 1 := ⟨k - 1, by omega⟩
    have e1 : ((k + 1 : Nat) : Int) - 1 = (k : Int) := by omega
    rw [e1]
    have hx : vars[k]? = some vars[k] := List.getElem?_eq_getElem (by omega)
    generalize vars[k]'(by omega) = a at hx
    obtain ⟨r, p, hv, cs, hr, hP⟩ := h.at' hx
    cases hP with
    | mk =>
    have r0 : rdc σ r (p + 0) 1 = some [.str a.name] := rdc_sub hr 0 1 (by omega)
    have r1 : rdc σ r (p + 1) 1 = some [.int .i64 a.type] := rdc_sub hr 1 1 (by omega)
    rw [varTo, hx] at hok
    simp only [Option.map_some, Option.some.injEq, Option.getD_some] at hok
    have hw2 : IntKind.wrap .i64 ((k : Int) - 1) = (k : Int) - 1 := wrap_id (by omega) (by omega)
    by_cases hn : a.name = s
    · rw [if_pos hn] at hok
      try simp only [q_bind_some, castInt_int, q_castBool, q_castStr, q_castPtr, q_castFn, q_castAgg, q_castTuple, q_uncons, q_isNil, q_sl, q_nils, q_emp, q_ptr, q_nilp, q_fn, q_cond_true, q_cond_false, Bool.not_true, Bool.not_false, decide_true, decide_false, List.cons_append, List.nil_append, hv, r0, r1, hn, spec_l4Var.A0_ret]
      exact W.ret ⟨by rw [hok], rfl⟩
    · rw [if_neg hn] at hok
      try simp only [q_bind_some, castInt_int, q_castBool, q_castStr, q_castPtr, q_castFn, q_castAgg, q_castTuple, q_uncons, q_isNil, q_sl, q_nils, q_emp, q_ptr, q_nilp, q_fn, q_cond_true, q_cond_false, Bool.not_true, Bool.not_false, decide_true, decide_false, List.cons_append, List.nil_append, hv, r0, hn, hw2]
      exact W.again k ⟨by omega, hok⟩ (by omega) rfl rfl
  · obtain rfl : k = 0 := by omega
    try simp only [q_bind_some, castInt_int, q_castBool, q_castStr, q_castPtr, q_castFn, q_castAgg, q_castTuple, q_uncons, q_isNil, q_sl, q_nils, q_emp, q_ptr, q_nilp, q_fn, q_cond_true, q_cond_false, Bool.not_true, Bool.not_false, decide_true, decide_false, List.cons_append, List.nil_append, spec_l4Var.A0_x0]
    exact W.ret ⟨by rw [hok, varTo], rfl⟩
def appl (want : List Int) (t : Int) (ks : List Int) : Int × Int := if want.length ≠ ks.length then (0, 3) else chk want t ks
theorem l4Apply_runs {σ : Heap} {w v : V} {want ks : List Int} (h : RepS 1 IntRep σ w want) (g : RepS 1 IntRep σ v ks) (hl : want.length ≤ 1048576) (t : Int) : Runs G n_spec_l4Apply [w, .int .i64 t, v] σ (.tuple [.int .i64 (appl want t ks).1, .int .i64 (appl want t ks).2]) σ := by
  refine Runs.of (W.to (fun n _ => spec_l4Apply.eq n _ _ _ _) ?_)
  refine W.len h (W.len g ?_)
  unfold appl
  by_cases hlen : want.length = ks.length
  rotate_left
  · have hlen' : ¬ ((want.length : Int) = (ks.length : Int)) := by omega
    simp only [decide_eq_false hlen', Bool.not_false, cond_true]
    exact W.ret ⟨by simp [hlen], rfl⟩
  have hlen' : ((want.length : Int) = (ks.length : Int)) := by omega
  simp only [decide_eq_true hlen', Bool.not_true, cond_false]
  rw [if_neg (by simp [hlen]), chk_eq]
  refine W.loop (S := Nat) (fun i => i ≤ want.length ∧ ks.take i = want.take i) (fun i => [.v w, .v (.int .i64 t), .v v, .v (.int .i64 (i : Int))]) (fun _ => σ) (fun i => want.length - i) (fun i ⟨hi, hok⟩ => ?_) 0 ⟨Nat.zero_le _, rfl⟩
  refine W.to (fun n _ => by rw [spec_l4Apply.L0_step]) ?_
  refine B.len h (B.ite (fun hlt => ?_) fun hlt => ?_)
  · have hil : i < want.length := by omega
    have hx : want[i]? = some want[i] := List.getElem?_eq_getElem hil
    have hy : ks[i]? = some ks[i] := List.getElem?_eq_getElem (by omega)
    generalize want[i] = x at hx
    generalize ks[i]'(by omega) = y at hy
    obtain ⟨r, p, hv, cs, hr, hP⟩ := h.at' hx
    obtain ⟨r2, p2, hv2, cs2, hr2, hP2⟩ := g.at' hy
    unfold IntRep at hP hP2
    subst hP hP2
    by_cases hxy : x = y
    · subst hxy
      try simp only [q_bind_some, castInt_int, q_castBool, q_castStr, q_castPtr, q_castFn, q_castAgg, q_castTuple, q_uncons, q_isNil, q_sl, q_nils, q_emp, q_ptr, q_nilp, q_fn, q_cond_true, q_cond_false, Bool.not_true, Bool.not_false, decide_true, decide_false, List.cons_append, List.nil_append, hv, hr, hv2, hr2, wrap_next hil (by omega)]
      exact W.again (i + 1) ⟨by omega, by rw [take_next' hx, take_next' hy, hok]⟩ (by omega) rfl rfl
    · try simp only [q_bind_some, castInt_int, q_castBool, q_castStr, q_castPtr, q_castFn, q_castAgg, q_castTuple, q_uncons, q_isNil, q_sl, q_nils, q_emp, q_ptr, q_nilp, q_fn, q_cond_true, q_cond_false, Bool.not_true, Bool.not_false, decide_true, decide_false, List.cons_append, List.nil_append, hv, hr, hv2, hr2, hxy, spec_l4Apply.A0_ret]
      exact W.ret ⟨by rw [if_neg fun e => hxy (by rw [e, hx] at hy; injection hy)], rfl⟩
  · rw [List.take_of_length_le (by omega), List.take_of_length_le (by omega)] at hok
    try simp only [q_bind_some, castInt_int, q_castBool, q_castStr, q_castPtr, q_castFn, q_castAgg, q_castTuple, q_uncons, q_isNil, q_sl, q_nils, q_emp, q_ptr, q_nilp, q_fn, q_cond_true, q_cond_false, Bool.not_true, Bool.not_false, decide_true, decide_false, List.cons_append, List.nil_append, spec_l4Apply.A0_x0]
    exact W.ret ⟨by rw [if_pos hok], rfl⟩
theorem l4List_runs {σ : Heap} {v : V} {ks : List Int} (g : RepS 1 IntRep σ v ks) (hl : ks.length ≤ 1048576) : Runs G n_spec_l4List [v] σ (.tuple [.int .i64 (chk (List.replicate ks.length 1) 3 ks).1, .int .i64 (chk (List.replicate ks.length 1) 3 ks).2]) σ := by
  refine Runs.of (W.to (fun n _ => spec_l4List.eq n _ _) ?_)
  rw [chk_eq]
  refine W.loop (S := Nat) (fun i => i ≤ ks.length ∧ ks.take i = List.replicate i 1) (fun i => [.v v, .v (.int .i64 (i : Int))]) (fun _ => σ) (fun i => ks.length - i) (fun i ⟨hi, hok⟩ => ?_) 0 ⟨Nat.zero_le _, rfl⟩
  refine W.to (fun n _ => by rw [spec_l4List.L0_step]) ?_
  refine B.len g (B.ite (fun hlt => ?_) fun hlt => ?_)
  · have hil : i < ks.length := by omega
    have hy : ks[i]? = some ks[i] := List.getElem?_eq_getElem hil
    generalize ks[i] = y at hy
    obtain ⟨r2, p2, hv2, cs2, hr2, hP2⟩ := g.at' hy
    unfold IntRep at hP2
    subst hP2
    by_cases hxy : y = 1
    · subst hxy
      try simp only [q_bind_some, castInt_int, q_castBool, q_castStr, q_castPtr, q_castFn, q_castAgg, q_castTuple, q_uncons, q_isNil, q_sl, q_nils, q_emp, q_ptr, q_nilp, q_fn, q_cond_true, q_cond_false, Bool.not_true, Bool.not_false, decide_true, decide_false, List.cons_append, List.nil_append, hv2, hr2, wrap_next hil (by omega)]
      exact W.again (i + 1) ⟨by omega, by rw [take_next' hy, hok, List.replicate_succ']⟩ (by omega) rfl rfl
    · try simp only [q_bind_some, castInt_int, q_castBool, q_castStr, q_castPtr, q_castFn, q_castAgg, q_castTuple, q_uncons, q_isNil, q_sl, q_nils, q_emp, q_ptr, q_nilp, q_fn, q_cond_true, q_cond_false, Bool.not_true, Bool.not_false, decide_true, decide_false, List.cons_append, List.nil_append, hv2, hr2, hxy, spec_l4List.A0_ret]
      have hne : ¬ ks = List.replicate ks.length 1 := fun e => by
        have hm := List.mem_of_getElem? hy
        rw [e] at hm
        exact hxy (List.eq_of_mem_replicate hm)
      exact W.ret ⟨by rw [if_neg hne], rfl⟩
  · obtain rfl : i = ks.length := by omega
    rw [List.take_length] at hok
    try simp only [q_bind_some, castInt_int, q_castBool, q_castStr, q_castPtr, q_castFn, q_castAgg, q_castTuple, q_uncons, q_isNil, q_sl, q_nils, q_emp, q_ptr, q_nilp, q_fn, q_cond_true, q_cond_false, Bool.not_true, Bool.not_false, decide_true, decide_false, List.cons_append, List.nil_append, spec_l4List.A0_x0]
    exact W.ret ⟨by rw [if_pos hok], rfl⟩
/-- The reference's module and faces, behind a pointer. -/
def TyS (σ : Heap) (E : TyEnv) (p : Nat) : Prop := ∃ a1 a2 a3 a4, rdc σ p 0 4 = some [a1, a2, a3, a4] ∧ TyR σ E a1 a2 a3 a4
theorem TyS.le {σ σ' : Heap} {E : TyEnv} {p : Nat} (h : TyS σ E p) (hl : Lh σ σ') : TyS σ' E p := by
  obtain ⟨a1, a2, a3, a4, h1, h2⟩ := h
  exact ⟨a1, a2, a3, a4, hl.rdc h1, h2.le hl⟩
def SpecI (E : TyEnv) (p N : Nat) (x : TreeExpr) : Prop := ∀ (vars : List TreeArg) (σ : Heap) (v : V) (cs : List V), vars.length ≤ N → TyS σ E p → RepS 2 (TreeArg.Rep σ) σ v vars → TreeExpr.Rep σ cs x →
  Gives G n_pspec_l4In_expr [.ptr p 0, v, .agg cs] σ (.tuple [.int .i64 (tyE E vars x).1, .int .i64 (tyE E vars x).2])
theorem specKids_ends {E : TyEnv} {p N : Nat} {e : TreeExpr} (IH : ∀ x, x ∈ e.kids → SpecI E p N x) (hk8 : e.kids.length ≤ 8) {vars : List TreeArg} (hvl : vars.length ≤ N) {σ : Heap} {v : V} {cs : List V} (hE : TyS σ E p)
    (hv : RepS 2 (TreeArg.Rep σ) σ v vars) (h : TreeExpr.Rep σ cs e) : HM.Ends G n_pspec_l4In_kids [.ptr p 0, v, .agg cs] σ (KidsP σ (tyK E false e.name vars [] e.kids)) := by
  have hvm : ∀ {σ' : Heap}, Lh σ σ' → RepS 2 (TreeArg.Rep σ') σ' v vars := fun l => hv.mono l fun cs x _ hc => TreeArg.Rep.le l hc
  have hkv : ∀ out, kidV false e.name vars out = vars := fun out => by unfold kidV; rw [if_neg (by simp)]
  cases h with
  | mk hk =>
  rename_i a0
  refine HM.Ends.mk (W.to (fun k _ => pspec_l4In_kids.eq k _ _ _ _ _ _ _ _) ?_)
  refine W.loop (S := Nat × Heap × V × List Int) (fun s => s.1 ≤ e.kids.length ∧ s.2.2.2.length = s.1 ∧ tyK E false e.name vars [] e.kids = tyK E false e.name vars s.2.2.2 (e.kids.drop s.1) ∧ ∃ R, Ow σ s.2.1 s.2.2.1 s.2.2.2 R)
    (fun s => [.v (.ptr p 0), .v v, .box [.int .i64 e.kind, .int .i64 e.num, .str e.name, .str e.mod, a0], .v s.2.2.1, .v (.int .i64 (s.1 : Int))]) (fun s => s.2.1) (fun s => e.kids.length - s.1)
    (fun ⟨i, σi, vo, out⟩ ⟨hi, hol, heq, ⟨R, hO⟩⟩ => ?_) (0, hnew σ 1 [], .sl σ.length 0 0 true, []) ⟨Nat.zero_le _, rfl, rfl, ⟨_, Ow.start σ⟩⟩
  simp only at hi hol heq hO ⊢
  have hle := hO.le
  refine W.to (fun k _ => by rw [pspec_l4In_kids.L0_step]) ?_
  refine B.len hk (B.ite (fun hlt => ?_) fun hlt => ?_)
  rotate_left
  · obtain rfl : i = e.kids.length := by omega
    rw [List.drop_length, tyK] at heq
    try simp only [q_bind_some, castInt_int, q_castBool, q_castStr, q_castPtr, q_castFn, q_castAgg, q_castTuple, q_uncons, q_isNil, q_sl, q_nils, q_emp, q_ptr, q_nilp, q_fn, q_cond_true, q_cond_false, Bool.not_true, Bool.not_false, decide_true, decide_false, List.cons_append, List.nil_append, pspec_l4In_kids.A0_x0]
    refine W.ret ⟨hle, .inl ⟨by rw [heq], vo, rfl, ?_⟩⟩
    rw [heq]
    exact hO.rep
  have hil : i < e.kids.length := by omega
  have hx : e.kids[i]? = some e.kids[i] := List.getElem?_eq_getElem hil
  have hdr : e.kids.drop i = e.kids[i] :: e.kids.drop (i + 1) := List.drop_eq_getElem_cons hil
  generalize e.kids[i] = x at hx hdr
  have hmx := List.mem_of_getElem? hx
  have hnext := wrap_next hil (by omega)
  rw [hdr, tyK, hkv] at heq
  obtain ⟨r, q, hvx, cs, hr, hP⟩ := hk.at' hx
  have hr' := hle.rdc hr
  have hPx := fun {σ' : Heap} (l : Lh σ σ') => TreeExpr.Rep.le l x hP
  cases hP with
  | mk hkx =>
  try simp only [q_bind_some, castInt_int, q_castBool, q_castStr, q_castPtr, q_castFn, q_castAgg, q_castTuple, q_uncons, q_isNil, q_sl, q_nils, q_emp, q_ptr, q_nilp, q_fn, q_cond_true, q_cond_false, Bool.not_true, Bool.not_false, decide_true, decide_false, List.cons_append, List.nil_append, hvx, hr']
  have c := IH x hmx vars _ v _ hvl (hE.le hle) (hvm hle) (hPx hle)
  have hcode := tyE_code E vars x
  generalize tyE E vars x = tc at c hcode heq
  obtain ⟨t, code⟩ := tc
  simp only at c hcode heq
  refine B.give c fun σ2 l2 => ?_
  by_cases hc : code = 0
  rotate_left
  · rw [if_pos hc] at heq
    have hc' : 0 < code := by omega
    try simp only [q_bind_some, castInt_int, q_castBool, q_castStr, q_castPtr, q_castFn, q_castAgg, q_castTuple, q_uncons, q_isNil, q_sl, q_nils, q_emp, q_ptr, q_nilp, q_fn, q_cond_true, q_cond_false, Bool.not_true, Bool.not_false, decide_true, decide_false, List.cons_append, List.nil_append, hc', pspec_l4In_kids.A0_ret]
    exact W.ret ⟨hle.trans l2, .inr ⟨by rw [heq]; exact hc, by rw [heq]⟩⟩
  rw [if_neg (by simp [hc])] at heq
  obtain ⟨vo', σ3, R', g1, g2⟩ := (hO.up l2).add t (by omega)
  subst hc
  try simp only [q_bind_some, castInt_int, q_castBool, q_castStr, q_castPtr, q_castFn, q_castAgg, q_castTuple, q_uncons, q_isNil, q_sl, q_nils, q_emp, q_ptr, q_nilp, q_fn, q_cond_true, q_cond_false, Bool.not_true, Bool.not_false, decide_true, decide_false, List.cons_append, List.nil_append, g1, hnext]
  exact W.again (i + 1, σ3, vo', out ++ [t]) ⟨by show i + 1 ≤ e.kids.length; omega, by simp [hol], heq, ⟨R', g2⟩⟩ (by simp only; omega) rfl rfl
/-- Variables put into a row of one's own, and one more; a row is read meanwhile. -/
theorem with_var2 {τ : Heap} {r : Nat} {row : Row} (hr : τ[r]? = some (some row)) {v : V} {vars : List TreeArg} (h : RepS 2 (TreeArg.Rep τ) τ v vars) (hl : vars.length ≤ 2097152) (s : ByteArray) (t : Int) :
    ∃ cs v1 τ2 v2 τ3, vcells (prot [r] (hnew τ 2 [])) 2 v = some (vars.length, cs) ∧ vappend 2 24 (prot [r] (hnew τ 2 [])) (.sl τ.length 0 0 true) vars.length cs = some (v1, τ2) ∧
      vappend 2 24 (prot [r] (unprot [r] (hnew τ 2 []) τ2)) v1 1 [.str s, .int .i64 t] = some (v2, τ3) ∧ Lh τ (unprot [r] (unprot [r] (hnew τ 2 []) τ2) τ3) ∧
      RepS 2 (TreeArg.Rep (unprot [r] (unprot [r] (hnew τ 2 []) τ2) τ3)) (unprot [r] (unprot [r] (hnew τ 2 []) τ2) τ3) v2 (vars ++ [⟨s, t⟩]) := by
  have e46 : (2 : Nat) ^ 46 = 70368744177664 := by decide
  have hrl := get_lt hr
  obtain ⟨cs, v1, σ1, R, c1, c2, c3, c4, c5, c6, c7, _⟩ := clone_ok (bytes := 24) h (by omega) (by omega)
  obtain ⟨τ2, k1, k2⟩ := vappend_prots (rs := [r]) (fun r' o n lim e hc => by
    rw [List.mem_singleton] at hc
    injection e with e1
    omega) c2
  have hk : RepR 2 (QA σ1) σ1 v1 vars R := c4.keep (fun _ _ => rfl) fun cs x R h _ => by rw [h.2]; exact QA.of h.1
  obtain ⟨v2, σ2, R', g1, g2, g3, g4, g5, g6, g7⟩ := hk.app (bytes := 24) c5 (cs := [.str s, .int .i64 t]) (x := ⟨s, t⟩) (Rx := []) ⟨rfl, rfl⟩ rfl (fun cs x R h _ => h) (fun cs x R h j hj => by rw [h.2] at hj; exact (List.not_mem_nil hj).elim) (by simpa using c6) (by omega) (by omega)
  obtain ⟨τ3, k3, k4⟩ := vappend_prots (rs := [r]) (fun r' o n lim e hc => by
    rw [List.mem_singleton] at hc
    subst e
    cases hk with
    | sl r o n lim row l Rs h1 h2 h3 h4 h5 h6 h7 =>
      have := c7 r' (List.mem_cons_self ..)
      omega) g1
  refine ⟨cs, v1, τ2, v2, τ3, vcells_prot c1, k1, by rw [k2]; exact k3, ?_, ?_⟩
  · rw [k2, k4]
    have h1 := c3.len
    refine ⟨by omega, fun j row hj => ?_⟩
    have hjl := get_lt hj
    rw [g7 j (by omega) fun hc => by have := c7 j hc; omega]
    exact c3.row _ _ hj
  · rw [k2, k4]
    exact g2.rep fun cs x R _ hq => hq.rep
end Go.G

/- The reference's typer. -/
set_option linter.unusedVariables false
set_option linter.unusedSimpArgs false
namespace Go.G
open Go.HM Go.Proofs
theorem primT_len (s : ByteArray) : (primT s).1.length ≤ 3 := by
  unfold primT
  repeat' split
  all_goals simp
theorem primT_arity (s : ByteArray) (h : 0 ≤ arity s) : ((primT s).1.length : Int) = arity s := by
  by_cases h0 : s = ⟨#[43]⟩
  · subst h0; kernel_rfl
  by_cases h1 : s = ⟨#[45]⟩
  · subst h1; kernel_rfl
  by_cases h2 : s = ⟨#[42]⟩
  · subst h2; kernel_rfl
  by_cases h3 : s = ⟨#[47]⟩
  · subst h3; kernel_rfl
  by_cases h4 : s = ⟨#[37]⟩
  · subst h4; kernel_rfl
  by_cases h5 : s = ⟨#[60]⟩
  · subst h5; kernel_rfl
  by_cases h6 : s = ⟨#[60, 61]⟩
  · subst h6; kernel_rfl
  by_cases h7 : s = ⟨#[61]⟩
  · subst h7; kernel_rfl
  by_cases h8 : s = ⟨#[110, 111, 116]⟩
  · subst h8; kernel_rfl
  by_cases h9 : s = ⟨#[97, 116]⟩
  · subst h9; kernel_rfl
  by_cases h10 : s = ⟨#[108, 101, 110]⟩
  · subst h10; kernel_rfl
  by_cases h11 : s = ⟨#[112, 117, 116]⟩
  · subst h11; kernel_rfl
  by_cases h12 : s = ⟨#[106, 111, 105, 110]⟩
  · subst h12; kernel_rfl
  by_cases h13 : s = ⟨#[112, 114, 105, 110, 116]⟩
  · subst h13; kernel_rfl
  by_cases h14 : s = ⟨#[97, 110, 100]⟩
  · subst h14; kernel_rfl
  by_cases h15 : s = ⟨#[111, 114]⟩
  · subst h15; kernel_rfl
  simp only [arity, h0, h1, h2, h3, h4, h5, h6, h7, h8, h9, h10, h11, h12, h13, h14, h15, if_false] at h
  omega
theorem findSig_len {E : TyEnv} (hB : TyB E) (mod name : ByteArray) : (findSig E.m E.l mod name).1.args.length ≤ 1048576 := by
  have h1 := hB.m
  have h2 := hB.l
  rw [TreeMod.total_eq] at h1
  unfold findSig
  split
  · split
    · rename_i f hf
      have := totS_mem TreeFun.total (List.mem_of_find?_eq_some hf)
      rw [TreeFun.total_eq] at this
      simp only [sigOf, List.length_map]
      omega
    · simp [noSig]
  · split
    · split
      · rename_i f hf
        have h3 := totS_mem TypeFace.total (List.mem_of_find?_eq_some hf)
        rw [TypeFace.total_eq] at h3
        split
        · rename_i s hs
          have h4 := totS_mem FaceSig.total (List.mem_of_find?_eq_some hs)
          rw [FaceSig.total_eq] at h4
          simp only
          omega
        · simp [noSig]
      · simp [noSig]
    · simp [noSig]
theorem tyE_leaf {E : TyEnv} {vars : List TreeArg} {e : TreeExpr} (h : e.kids = []) : tyE E vars e = appT E vars e.kind e.name e.mod [] := by
  rw [tyE_eq, h, tyK]
  simp
theorem tyE_let {E : TyEnv} {vars : List TreeArg} {e k0 k1 : TreeExpr} (h6 : e.kind = 6) (h : e.kids = [k0, k1]) :
    tyE E vars e = if (tyE E vars k0).2 ≠ 0 then (0, (tyE E vars k0).2) else tyE E (vars ++ [⟨e.name, (tyE E vars k0).1⟩]) k1 := by
  have hb : decide (e.kind = 6) = true := decide_eq_true h6
  rw [tyE_eq, h, hb]
  have hv0 : kidV true e.name vars [] = vars := by unfold kidV; rw [if_neg (by simp)]
  rw [tyK, hv0]
  generalize tyE E vars k0 = r0
  obtain ⟨t0, c0⟩ := r0
  simp only
  by_cases hc : c0 = 0
  rotate_left
  · simp only [if_pos hc, ne_eq, hc, not_false_eq_true, if_true]
  subst hc
  have hv1 : kidV true e.name vars ([] ++ [t0]) = vars ++ [⟨e.name, t0⟩] := by unfold kidV; rw [if_pos ⟨rfl, rfl⟩]; rfl
  simp only [ne_eq, not_true, if_false]
  rw [tyK, hv1]
  have hcode := tyE_code E (vars ++ [⟨e.name, t0⟩]) k1
  generalize tyE E (vars ++ [⟨e.name, t0⟩]) k1 = r at hcode
  obtain ⟨t, c⟩ := r
  simp only at hcode ⊢
  by_cases hc1 : c = 0
  · subst hc1
    simp only [ne_eq, not_true, if_false]
    rw [tyK]
    simp [appT, h6]
  · have : t = 0 := by omega
    subst this
    simp [hc1]
set_option maxHeartbeats 4000000 in
theorem specExpr_gives {E : TyEnv} (hB : TyB E) {p : Nat} (e : TreeExpr) (N : Nat) (hR : Right e) (hN : N + e.deep ≤ 2097152) : SpecI E p N e := by
  have hRi := (right_iff e).1 hR
  have hd : 1 ≤ e.deep := by rw [TreeExpr.deep_eq]; omega
  have IH : ∀ x, x ∈ e.kids → ∀ M, M ≤ N + 1 → SpecI E p M x := fun x hx M hM =>
    specExpr_gives hB x M (hRi.2 x hx) (by have := deep_kid hx; omega)
  intro vars σ v cs hvl hE hv h
  have hn := hRi.1
  have hk8 : e.kids.length ≤ 8 := by
    rcases hn with h | h | h | h | h | h | h | h
    · omega
    · omega
    · omega
    · have := h.2.2.2
      have := arity_le e.name
      omega
    · omega
    · omega
    · omega
    · omega
  have hvm : ∀ {σ' : Heap}, Lh σ σ' → RepS 2 (TreeArg.Rep σ') σ' v vars := fun l => hv.mono l fun cs x _ hc => TreeArg.Rep.le l hc
  have hK := specKids_ends (fun x hx => IH x hx N (by omega)) hk8 hvl hE hv h
  have hle : ∀ {x : TreeExpr} {cs : List V} {σ' : Heap}, TreeExpr.Rep σ cs x → Lh σ σ' → TreeExpr.Rep σ' cs x := fun h l => TreeExpr.Rep.le l _ h
  cases h with
  | mk hk =>
  rename_i a0
  show Gives G n_pspec_l4In_expr [.ptr p 0, v, .agg [.int .i64 e.kind, .int .i64 e.num, .str e.name, .str e.mod, a0]] σ _
  refine Gives.of (W.to (fun k _ => pspec_l4In_expr.eq k _ _ _ _ _ _ _ _) ?_)
  have leaf : e.kids.length = 0 → tyE E vars e = appT E vars e.kind e.name e.mod [] := fun h0 => tyE_leaf (List.eq_nil_of_length_eq_zero h0)
  by_cases k1 : e.kind = 1
  · have hl := leaf (by rcases hn with h | h | h | h | h | h | h | h <;> omega)
    try simp only [q_bind_some, castInt_int, q_castBool, q_castStr, q_castPtr, q_castFn, q_castAgg, q_castTuple, q_uncons, q_isNil, q_sl, q_nils, q_emp, q_ptr, q_nilp, q_fn, q_cond_true, q_cond_false, Bool.not_true, Bool.not_false, decide_true, decide_false, List.cons_append, List.nil_append, k1]
    exact W.ret ⟨by rw [hl]; simp [appT, k1], Lh.refl _⟩
  by_cases k2 : e.kind = 2
  · have hl := leaf (by rcases hn with h | h | h | h | h | h | h | h <;> omega)
    try simp only [q_bind_some, castInt_int, q_castBool, q_castStr, q_castPtr, q_castFn, q_castAgg, q_castTuple, q_uncons, q_isNil, q_sl, q_nils, q_emp, q_ptr, q_nilp, q_fn, q_cond_true, q_cond_false, Bool.not_true, Bool.not_false, decide_true, decide_false, List.cons_append, List.nil_append, k2]
    exact W.ret ⟨by rw [hl]; simp [appT, k2], Lh.refl _⟩
  by_cases k3 : e.kind = 3
  · have hl := leaf (by rcases hn with h | h | h | h | h | h | h | h <;> omega)
    try simp only [q_bind_some, castInt_int, q_castBool, q_castStr, q_castPtr, q_castFn, q_castAgg, q_castTuple, q_uncons, q_isNil, q_sl, q_nils, q_emp, q_ptr, q_nilp, q_fn, q_cond_true, q_cond_false, Bool.not_true, Bool.not_false, decide_true, decide_false, List.cons_append, List.nil_append, k3]
    refine W.run (l4Var_runs hv (by omega) e.name) ?_
    try simp only [q_bind_some, castInt_int, q_castBool, q_castStr, q_castPtr, q_castFn, q_castAgg, q_castTuple, q_uncons, q_isNil, q_sl, q_nils, q_emp, q_ptr, q_nilp, q_fn, q_cond_true, q_cond_false, Bool.not_true, Bool.not_false, decide_true, decide_false, List.cons_append, List.nil_append]
    exact W.ret ⟨by rw [hl]; simp [appT, k3], Lh.refl _⟩
  by_cases k6 : e.kind = 6
  · have h2 : e.kids.length = 2 := by rcases hn with h | h | h | h | h | h | h | h <;> omega
    obtain ⟨x0, x1, hx01⟩ : ∃ x0 x1, e.kids = [x0, x1] := by
      match h : e.kids, h2 with
      | [a, b], _ => exact ⟨a, b, rfl⟩
    have htl := tyE_let (E := E) (vars := vars) k6 hx01
    have hlet : Gives G n_pspec_l4In_let [.ptr p 0, v, .agg [.int .i64 e.kind, .int .i64 e.num, .str e.name, .str e.mod, a0]] σ (.tuple [.int .i64 (tyE E vars e).1, .int .i64 (tyE E vars e).2]) := by
      rw [htl]
      refine Gives.of (W.to (fun k _ => pspec_l4In_let.eq k _ _ _ _ _ _ _ _) ?_)
      obtain ⟨r, q, hvx, cs, hr, hP⟩ := hk.at' (i := 0) (x := x0) (by rw [hx01]; rfl)
      obtain ⟨r1, q1, hvx1, cs1, hr1, hP1⟩ := hk.at' (i := 1) (x := x1) (by rw [hx01]; rfl)
      obtain ⟨row1, hrow1, _⟩ := hk.row_at hvx1
      have hvx' : vidx 5 a0 0 = some (r, q) := hvx
      have hvx1' : vidx 5 a0 1 = some (r1, q1) := hvx1
      have hPl := fun {σ' : Heap} (l : Lh σ σ') => hle hP1 l
      have c := IH x0 (by rw [hx01]; simp) N (by omega) vars σ v cs hvl hE hv hP
      cases hP with
      | mk hkx =>
      try simp only [q_bind_some, castInt_int, q_castBool, q_castStr, q_castPtr, q_castFn, q_castAgg, q_castTuple, q_uncons, q_isNil, q_sl, q_nils, q_emp, q_ptr, q_nilp, q_fn, q_cond_true, q_cond_false, Bool.not_true, Bool.not_false, decide_true, decide_false, List.cons_append, List.nil_append, hvx', hr]
      have hcode := tyE_code E vars x0
      generalize tyE E vars x0 = tc at c hcode
      obtain ⟨t, code⟩ := tc
      simp only at c hcode ⊢
      refine W.give c fun σ1 l1 => ?_
      by_cases hc : code = 0
      rotate_left
      · have hc' : 0 < code := by omega
        rw [if_pos hc]
        try simp only [q_bind_some, castInt_int, q_castBool, q_castStr, q_castPtr, q_castFn, q_castAgg, q_castTuple, q_uncons, q_isNil, q_sl, q_nils, q_emp, q_ptr, q_nilp, q_fn, q_cond_true, q_cond_false, Bool.not_true, Bool.not_false, decide_true, decide_false, List.cons_append, List.nil_append, hc']
        exact W.ret ⟨rfl, l1⟩
      subst hc
      rw [if_neg (by simp)]
      have hr1' := l1.rdc hr1
      cases hP1 with
      | mk hkx1 =>
      obtain ⟨cs2, v1, τ2, v2, τ3, w1, w2, w3, w4, w5⟩ := with_var2 (l1.row _ _ hrow1) (hvm l1) (by omega) e.name t
      try simp only [q_bind_some, castInt_int, q_castBool, q_castStr, q_castPtr, q_castFn, q_castAgg, q_castTuple, q_uncons, q_isNil, q_sl, q_nils, q_emp, q_ptr, q_nilp, q_fn, q_cond_true, q_cond_false, Bool.not_true, Bool.not_false, decide_true, decide_false, List.cons_append, List.nil_append, hvx1', hr1', unprots_new, unprots0, prots_len, w1, w2, w3]
      have c2 := IH x1 (by rw [hx01]; simp) (N + 1) (Nat.le_refl _) (vars ++ [⟨e.name, t⟩]) _ v2 _ (by simp; omega) (hE.le (l1.trans w4)) w5 (hPl (l1.trans w4))
      refine W.give c2 fun σ2 l2 => ?_
      try simp only [q_bind_some, castInt_int, q_castBool, q_castStr, q_castPtr, q_castFn, q_castAgg, q_castTuple, q_uncons, q_isNil, q_sl, q_nils, q_emp, q_ptr, q_nilp, q_fn, q_cond_true, q_cond_false, Bool.not_true, Bool.not_false, decide_true, decide_false, List.cons_append, List.nil_append]
      exact W.ret ⟨rfl, (l1.trans w4).trans l2⟩
    try simp only [q_bind_some, castInt_int, q_castBool, q_castStr, q_castPtr, q_castFn, q_castAgg, q_castTuple, q_uncons, q_isNil, q_sl, q_nils, q_emp, q_ptr, q_nilp, q_fn, q_cond_true, q_cond_false, Bool.not_true, Bool.not_false, decide_true, decide_false, List.cons_append, List.nil_append, k1, k2, k3, k6]
    have hlet' := hlet
    rw [k6] at hlet'
    refine W.give hlet' fun σ1 l1 => ?_
    try simp only [q_bind_some, castInt_int, q_castBool, q_castStr, q_castPtr, q_castFn, q_castAgg, q_castTuple, q_uncons, q_isNil, q_sl, q_nils, q_emp, q_ptr, q_nilp, q_fn, q_cond_true, q_cond_false, Bool.not_true, Bool.not_false, decide_true, decide_false, List.cons_append, List.nil_append]
    exact W.ret ⟨rfl, l1⟩
  have hb : decide (e.kind = 6) = false := decide_eq_false k6
  have hte := tyE_eq E vars e
  have hks := tyK_len E false e.name e.kids vars []
  rw [hb] at hte
  generalize tyK E false e.name vars [] e.kids = r at hK hte hks
  obtain ⟨ks, kc⟩ := r
  simp only [List.length_nil, Nat.zero_add] at hks hte
  have hkc := tyE_code E vars e
  simp only [decide_eq_false k1, decide_eq_false k2, decide_eq_false k3, decide_eq_false k6, cond_false]
  refine W.call hK ?_
  rintro w σ1 ⟨l1, ⟨hc, vk, rfl, hvk⟩ | ⟨hc, rfl⟩⟩
  rotate_left
  · simp only at hc
    rw [if_pos hc] at hte
    rw [hte] at hkc ⊢
    simp only at hkc
    have hc' : 0 < kc := by omega
    try simp only [q_bind_some, castInt_int, q_castBool, q_castStr, q_castPtr, q_castFn, q_castAgg, q_castTuple, q_uncons, q_isNil, q_sl, q_nils, q_emp, q_ptr, q_nilp, q_fn, q_cond_true, q_cond_false, Bool.not_true, Bool.not_false, decide_true, decide_false, List.cons_append, List.nil_append, hc']
    exact W.ret ⟨rfl, l1⟩
  simp only at hc hvk
  subst hc
  rw [if_neg (by simp)] at hte
  have hkl := hks rfl
  try simp only [q_bind_some, castInt_int, q_castBool, q_castStr, q_castPtr, q_castFn, q_castAgg, q_castTuple, q_uncons, q_isNil, q_sl, q_nils, q_emp, q_ptr, q_nilp, q_fn, q_cond_true, q_cond_false, Bool.not_true, Bool.not_false, decide_true, decide_false, List.cons_append, List.nil_append]
  rw [hte]
  by_cases k4 : e.kind = 4
  · try simp only [q_bind_some, castInt_int, q_castBool, q_castStr, q_castPtr, q_castFn, q_castAgg, q_castTuple, q_uncons, q_isNil, q_sl, q_nils, q_emp, q_ptr, q_nilp, q_fn, q_cond_true, q_cond_false, Bool.not_true, Bool.not_false, decide_true, decide_false, List.cons_append, List.nil_append, k4]
    refine W.call (specTypePrim_ends σ1 e.name) ?_
    rintro w3 σ3 ⟨vp, rfl, l3, hp⟩
    try simp only [q_bind_some, castInt_int, q_castBool, q_castStr, q_castPtr, q_castFn, q_castAgg, q_castTuple, q_uncons, q_isNil, q_sl, q_nils, q_emp, q_ptr, q_nilp, q_fn, q_cond_true, q_cond_false, Bool.not_true, Bool.not_false, decide_true, decide_false, List.cons_append, List.nil_append]
    refine W.run (l4Apply_runs hp (hvk.le l3) (by have := primT_len e.name; omega) _) ?_
    have hap : appT E vars 4 e.name e.mod ks = chk (primT e.name).1 (primT e.name).2 ks := by simp [appT]
    have har : (primT e.name).1.length = ks.length := by
      have h4 : (e.kids.length : Int) = arity e.name := by
        rcases hn with h | h | h | h | h | h | h | h
        · omega
        · omega
        · omega
        · exact h.2.2.2
        · omega
        · omega
        · omega
        · omega
      have := primT_arity e.name (by omega)
      omega
    have hapl : appl (primT e.name).1 (primT e.name).2 ks = chk (primT e.name).1 (primT e.name).2 ks := by unfold appl; rw [if_neg (by simp [har])]
    rw [hap, hapl]
    try simp only [q_bind_some, castInt_int, q_castBool, q_castStr, q_castPtr, q_castFn, q_castAgg, q_castTuple, q_uncons, q_isNil, q_sl, q_nils, q_emp, q_ptr, q_nilp, q_fn, q_cond_true, q_cond_false, Bool.not_true, Bool.not_false, decide_true, decide_false, List.cons_append, List.nil_append]
    exact W.ret ⟨rfl, l1.trans l3⟩
  by_cases k5 : e.kind = 5
  · have hl3 : ks.length = 3 := by rcases hn with h | h | h | h | h | h | h | h <;> omega
    obtain ⟨r, o, hv', hr⟩ := int_at hvk (i := 1) (by omega)
    have hv'' : vidx 1 vk 1 = some (r, o) := hv'
    try simp only [q_bind_some, castInt_int, q_castBool, q_castStr, q_castPtr, q_castFn, q_castAgg, q_castTuple, q_uncons, q_isNil, q_sl, q_nils, q_emp, q_ptr, q_nilp, q_fn, q_cond_true, q_cond_false, Bool.not_true, Bool.not_false, decide_true, decide_false, List.cons_append, List.nil_append, k5, hv'', hr, prots_len, unprots_new]
    have hp := newInts σ1 [2, ks.getD 1 0, ks.getD 1 0]
    have l3 : Lh σ1 (hnew σ1 1 ([2, ks.getD 1 0, ks.getD 1 0].map fun n => V.int .i64 n)) := Lh.new _ _ _
    refine W.run (l4Apply_runs hp (hvk.le l3) (by simp) _) ?_
    have hap : appT E vars 5 e.name e.mod ks = chk [2, ks.getD 1 0, ks.getD 1 0] (ks.getD 1 0) ks := by simp [appT]
    have hapl : appl [2, ks.getD 1 0, ks.getD 1 0] (ks.getD 1 0) ks = chk [2, ks.getD 1 0, ks.getD 1 0] (ks.getD 1 0) ks := by unfold appl; rw [if_neg (by simp [hl3])]
    rw [hap, hapl]
    try simp only [q_bind_some, castInt_int, q_castBool, q_castStr, q_castPtr, q_castFn, q_castAgg, q_castTuple, q_uncons, q_isNil, q_sl, q_nils, q_emp, q_ptr, q_nilp, q_fn, q_cond_true, q_cond_false, Bool.not_true, Bool.not_false, decide_true, decide_false, List.cons_append, List.nil_append]
    exact W.ret ⟨rfl, l1.trans l3⟩
  by_cases k8 : e.kind = 8
  · try simp only [q_bind_some, castInt_int, q_castBool, q_castStr, q_castPtr, q_castFn, q_castAgg, q_castTuple, q_uncons, q_isNil, q_sl, q_nils, q_emp, q_ptr, q_nilp, q_fn, q_cond_true, q_cond_false, Bool.not_true, Bool.not_false, decide_true, decide_false, List.cons_append, List.nil_append, k8]
    refine W.run (l4List_runs hvk (by omega)) ?_
    have hap : appT E vars 8 e.name e.mod ks = chk (List.replicate ks.length 1) 3 ks := by simp [appT]
    rw [hap]
    try simp only [q_bind_some, castInt_int, q_castBool, q_castStr, q_castPtr, q_castFn, q_castAgg, q_castTuple, q_uncons, q_isNil, q_sl, q_nils, q_emp, q_ptr, q_nilp, q_fn, q_cond_true, q_cond_false, Bool.not_true, Bool.not_false, decide_true, decide_false, List.cons_append, List.nil_append]
    exact W.ret ⟨rfl, l1⟩
  have k7 : e.kind = 7 := by rcases hn with h | h | h | h | h | h | h | h <;> omega
  obtain ⟨a1, a2, a3, a4, hpr, hTR⟩ := hE.le l1
  have r0 : rdc σ1 p (0 + 0) 3 = some [a1, a2, a3] := rdc_sub hpr 0 3 (by omega)
  have r3 : rdc σ1 p (0 + 3) 1 = some [a4] := rdc_sub hpr 3 1 (by omega)
  try simp only [q_bind_some, castInt_int, q_castBool, q_castStr, q_castPtr, q_castFn, q_castAgg, q_castTuple, q_uncons, q_isNil, q_sl, q_nils, q_emp, q_ptr, q_nilp, q_fn, q_cond_true, q_cond_false, Bool.not_true, Bool.not_false, decide_true, decide_false, List.cons_append, List.nil_append, k7, r0, r3]
  refine W.call (specTypeFind_ends hB.m hB.l hTR.m hTR.l e.mod e.name) ?_
  rintro w3 σ3 ⟨av, R3, rfl, hO3⟩
  try simp only [q_bind_some, castInt_int, q_castBool, q_castStr, q_castPtr, q_castFn, q_castAgg, q_castTuple, q_uncons, q_isNil, q_sl, q_nils, q_emp, q_ptr, q_nilp, q_fn, q_cond_true, q_cond_false, Bool.not_true, Bool.not_false, decide_true, decide_false, List.cons_append, List.nil_append]
  have hap : appT E vars 7 e.name e.mod ks = if (findSig E.m E.l e.mod e.name).2 = false then (0, 2) else appl (findSig E.m E.l e.mod e.name).1.args (findSig E.m E.l e.mod e.name).1.type ks := by simp [appT, appl]
  rw [hap]
  have hfl := findSig_len hB e.mod e.name
  generalize findSig E.m E.l e.mod e.name = fs at hO3 hfl
  obtain ⟨sg, there⟩ := fs
  cases there with
  | false =>
    try simp only [q_bind_some, castInt_int, q_castBool, q_castStr, q_castPtr, q_castFn, q_castAgg, q_castTuple, q_uncons, q_isNil, q_sl, q_nils, q_emp, q_ptr, q_nilp, q_fn, q_cond_true, q_cond_false, Bool.not_true, Bool.not_false, decide_true, decide_false, List.cons_append, List.nil_append]
    exact W.ret ⟨rfl, l1.trans hO3.le⟩
  | true =>
    simp only at hO3 hfl
    try simp only [q_bind_some, castInt_int, q_castBool, q_castStr, q_castPtr, q_castFn, q_castAgg, q_castTuple, q_uncons, q_isNil, q_sl, q_nils, q_emp, q_ptr, q_nilp, q_fn, q_cond_true, q_cond_false, Bool.not_true, Bool.not_false, decide_true, decide_false, List.cons_append, List.nil_append]
    refine W.run (l4Apply_runs hO3.rep (hvk.le hO3.le) hfl _) ?_
    try simp only [q_bind_some, castInt_int, q_castBool, q_castStr, q_castPtr, q_castFn, q_castAgg, q_castTuple, q_uncons, q_isNil, q_sl, q_nils, q_emp, q_ptr, q_nilp, q_fn, q_cond_true, q_cond_false, Bool.not_true, Bool.not_false, decide_true, decide_false, List.cons_append, List.nil_append]
    exact W.ret ⟨by simp, l1.trans hO3.le⟩
termination_by SizeOf.sizeOf e
decreasing_by
  cases e
  have := List.sizeOf_lt_of_mem hx
  simp at this ⊢
  omega
end Go.G

/- Types of modules: plain. -/
set_option linter.unusedVariables false
set_option linter.unusedSimpArgs false
namespace Go.G
open Go.HM Go.Proofs
def hasFace (l : List TypeFace) (u : ByteArray) : Bool := l.any fun f => decide (f.mod = u)
def useG (l : List TypeFace) : List ByteArray → Int → Option (Int × Int)
  | [], _ => none
  | u :: us, i => if hasFace l u = true then useG l us (i + 1) else some (1, i)
noncomputable def funC (E : TyEnv) (f : TreeFun) : Int := if (tyE E f.args f.body).2 = 0 ∧ (tyE E f.args f.body).1 ≠ f.type then 4 else (tyE E f.args f.body).2
noncomputable def funG (E : TyEnv) : List TreeFun → Int → Option (Int × Int)
  | [], _ => none
  | f :: fs, i => if funC E f = 0 then funG E fs (i + 1) else some (funC E f, i)
noncomputable def mainG (E : TyEnv) (n : Int) : List TreeExpr → Option (Int × Int)
  | [] => none
  | e :: es => if (tyE E [] e).2 = 0 then mainG E n es else some ((tyE E [] e).2, n)
noncomputable def modG (E : TyEnv) : Int × Int := ((useG E.l E.m.uses 0).or ((funG E E.m.funs 0).or (mainG E (E.m.funs.length : Int) E.m.main))).getD (0, 0)
noncomputable def typeMd (E : TyEnv) : Int × Int := if ModOk E.m then modG E else (5, 0)
def FitE (e : TreeExpr) : Prop := e.many ≤ 150 ∧ e.deep ≤ 16 ∧ Right e
noncomputable instance (e : TreeExpr) : Decidable (FitE e) := Classical.propDecidable _
noncomputable def typeEx (E : TyEnv) (vars : List TreeArg) (e : TreeExpr) : Int × Int := if ModOk E.m ∧ FitE e then tyE E vars e else (0, 5)
theorem typeEx_no {E : TyEnv} {vars : List TreeArg} {e : TreeExpr} (h : ¬ (ModOk E.m ∧ FitE e)) : typeEx E vars e = (0, 5) := if_neg h
theorem typeEx_ok {E : TyEnv} {vars : List TreeArg} {e : TreeExpr} (h1 : ModOk E.m) (h2 : FitE e) : typeEx E vars e = tyE E vars e := if_pos ⟨h1, h2⟩
theorem funC_b (E : TyEnv) (f : TreeFun) : 0 ≤ funC E f := by
  unfold funC
  have := tyE_code E f.args f.body
  split <;> omega
theorem body_in {m : TreeMod} {f : TreeFun} (h : f ∈ m.funs) : f.body ∈ bodies m := List.mem_append_left _ (List.mem_map.2 ⟨f, h, rfl⟩)
theorem main_in {m : TreeMod} {e : TreeExpr} (h : e ∈ m.main) : e ∈ bodies m := List.mem_append_right _ h
theorem body_deep {m : TreeMod} (hok : ModOk m) {e : TreeExpr} (h : e ∈ bodies m) : e.deep ≤ 16 := by
  obtain ⟨i, hi⟩ := List.getElem?_of_mem h
  exact (sizesOk_at _ _ _ _ hi ((modOk_iff m).1 hok).2.2.2.2.2.1).2
theorem body_right {m : TreeMod} (hok : ModOk m) {e : TreeExpr} (h : e ∈ bodies m) : Right e := ((modOk_iff m).1 hok).2.2.2.2.2.2.1 e h
theorem args_len {m : TreeMod} (hok : ModOk m) {f : TreeFun} (h : f ∈ m.funs) : f.args.length ≤ 4 := (((modOk_iff m).1 hok).2.2.2.2.1 f h).1
theorem wrc_new (σ : Heap) (x y : V) : wrc (hnew σ 1 [x]) σ.length 0 [y] = some (hnew σ 1 [y]) := by simp [wrc, hnew, setCells]
end Go.G

/- TypeMod of the program. -/
set_option linter.unusedVariables false
set_option linter.unusedSimpArgs false
namespace Go.G
open Go.HM Go.Proofs
theorem slices_ContainsFunc_impl_TypeFace_impl_TypeFace_gives {σ : Heap} {v : V} {l : List TypeFace} (hf : l.length ≤ 1073741824) (h : RepS 2 (TypeFace.Rep σ) σ v l) (f : FuncId) (cap : List V) (p : TypeFace → Bool)
    (hx : ∀ x, x ∈ l → ∀ σ' cs, Lh σ σ' → TypeFace.Rep σ' cs x → Gives G f ([.agg cs] ++ cap) σ' (.bool (p x))) : Gives G n_slices_ContainsFunc_impl_TypeFace_impl_TypeFace [v, .fn f cap] σ (.bool (l.any p)) := by
  refine Gives.of (W.to (fun k _ => slices_ContainsFunc_impl_TypeFace_impl_TypeFace.eq k _ _ _) ?_)
  refine W.give (slices_IndexFunc_impl_TypeFace_impl_TypeFace_gives hf h f cap p hx) fun σ1 l1 => ?_
  try simp only [q_bind_some, Option.bind_assoc, castInt_int, q_castBool, q_castStr, q_castPtr, q_castFn, q_castAgg, q_castTuple, q_uncons, q_isNil, q_sl, q_nils, q_emp, q_ptr, q_nilp, q_fn, q_cond_true, q_cond_false, Bool.not_true, Bool.not_false, decide_true, decide_false, castInt_bind, castBool_bind, castStr_bind, castPtr_bind, castFn_bind, castAgg_bind, castTuple_bind, uncons_bind, isNil_bind, one_bind, cond_bind, ite_bind_, List.cons_append, List.nil_append, fidx_any]
  exact W.ret ⟨rfl, l1⟩

set_option maxHeartbeats 2000000 in
theorem implTypeMod0_gives {E : TyEnv} (hB : TyB E) (hok : ModOk E.m) {σ : Heap} {cs : List V} (hm : TreeMod.Rep σ cs E.m) {v1 : V} (hl : RepS 2 (TypeFace.Rep σ) σ v1 E.l) : Gives G n_impl_typeMod [.agg cs, v1] σ (.agg [.int .i64 (modG E).1, .int .i64 (modG E).2]) := by
  have hml : ∀ {σ' : Heap}, Lh σ σ' → TreeMod.Rep σ' cs E.m := fun l => TreeMod.Rep.le l hm
  have hll : ∀ {σ' : Heap}, Lh σ σ' → RepS 2 (TypeFace.Rep σ') σ' v1 E.l := fun lA => hl.mono lA fun cs x _ hc => TypeFace.Rep.le lA hc
  have hlen := hB.l
  have hmt := hB.m
  rw [TreeMod.total_eq] at hmt
  cases hm with
  | mk p0 p1 p2 =>
  rename_i b0 b1 b2
  have hR : ∀ {σ' : Heap}, Lh σ σ' → TyR σ' E b0 b1 b2 v1 := fun l => TyR.mk (hml l) (hll l)
  refine Gives.of (W.to (fun k _ => impl_typeMod.eq k _ _ _ _ _) ?_)
  refine W.len p0 ?_
  refine W.loop (S := Nat × Heap) (fun s => s.1 ≤ E.m.uses.length ∧ Lh σ s.2 ∧ useG E.l E.m.uses 0 = useG E.l (E.m.uses.drop s.1) (s.1 : Int))
    (fun s => [.v v1, .box [b0, b1, b2], .box [.int .i64 0, .int .i64 0], .v b0, .v (.int .i64 (E.m.uses.length : Int)), .v (.int .i64 (s.1 : Int))]) (fun s => s.2) (fun s => E.m.uses.length - s.1) (fun ⟨i, σi⟩ ⟨hi, hle, heq⟩ => ?_) (0, σ) ⟨Nat.zero_le _, Lh.refl _, rfl⟩
  simp only at hi hle heq ⊢
  refine W.to (fun k _ => by rw [impl_typeMod.L0_step]) ?_
  refine B.ite (fun hlt => ?_) fun hlt => ?_
  · have hil : i < E.m.uses.length := by omega
    have hx : E.m.uses[i]? = some E.m.uses[i] := List.getElem?_eq_getElem hil
    have hdr : E.m.uses.drop i = E.m.uses[i] :: E.m.uses.drop (i + 1) := List.drop_eq_getElem_cons hil
    generalize E.m.uses[i] = u at hx hdr
    rw [hdr, useG] at heq
    obtain ⟨r, o, hv, cs', hr, hP⟩ := p0.at' hx
    unfold StrRep at hP
    subst hP
    have lN : Lh σi (hnew σi 1 [.str u]) := Lh.new _ _ _
    have hone : rdc (hnew σi 1 [.str u]) σi.length 0 1 = some [.str u] := by simp [rdc, hnew]
    try simp only [q_bind_some, castInt_int, q_castBool, q_castStr, q_castPtr, q_castFn, q_castAgg, q_castTuple, q_uncons, q_isNil, q_sl, q_nils, q_emp, q_ptr, q_nilp, q_fn, q_cond_true, q_cond_false, Bool.not_true, Bool.not_false, decide_true, decide_false, List.cons_append, List.nil_append, hv, hle.rdc hr, wrc_new]
    refine B.give (slices_ContainsFunc_impl_TypeFace_impl_TypeFace_gives (by omega) (hll (hle.trans lN)) n_impl_typeMod_1 [.ptr σi.length 0] (fun f => decide (f.mod = u)) fun y hy σ' cs hl' hP => ?_) fun σ2 l2 => ?_
    · cases hP with
      | mk hs =>
      refine Gives.of (W.to (fun k _ => impl_typeMod_1.eq k _ _ _ _) ?_)
      try simp only [q_bind_some, castInt_int, q_castBool, q_castStr, q_castPtr, q_castFn, q_castAgg, q_castTuple, q_uncons, q_isNil, q_sl, q_nils, q_emp, q_ptr, q_nilp, q_fn, q_cond_true, q_cond_false, Bool.not_true, Bool.not_false, decide_true, decide_false, List.cons_append, List.nil_append, hl'.rdc hone]
      exact W.ret ⟨rfl, Lh.refl _⟩
    have l2' := (hle.trans lN).trans l2
    show W _ _ _
    by_cases hu : hasFace E.l u = true
    · rw [if_pos hu] at heq
      have hu' : (E.l.any fun f => decide (f.mod = u)) = true := hu
      try simp only [q_bind_some, castInt_int, q_castBool, q_castStr, q_castPtr, q_castFn, q_castAgg, q_castTuple, q_uncons, q_isNil, q_sl, q_nils, q_emp, q_ptr, q_nilp, q_fn, q_cond_true, q_cond_false, Bool.not_true, Bool.not_false, decide_true, decide_false, List.cons_append, List.nil_append, hu', wrap_next hil (by omega)]
      exact W.again (i + 1, σ2) ⟨by show i + 1 ≤ E.m.uses.length; omega, l2', by simp only; rw [heq]; congr 1⟩ (by simp only; omega) rfl rfl
    · rw [if_neg hu] at heq
      have hu' : (E.l.any fun f => decide (f.mod = u)) = false := by
        cases h : hasFace E.l u with
        | true => exact absurd h hu
        | false => exact h
      try simp only [q_bind_some, castInt_int, q_castBool, q_castStr, q_castPtr, q_castFn, q_castAgg, q_castTuple, q_uncons, q_isNil, q_sl, q_nils, q_emp, q_ptr, q_nilp, q_fn, q_cond_true, q_cond_false, Bool.not_true, Bool.not_false, decide_true, decide_false, List.cons_append, List.nil_append, hu', impl_typeMod.A0_ret]
      exact W.ret ⟨by unfold modG; rw [heq]; rfl, l2'⟩
  obtain rfl : i = E.m.uses.length := by omega
  rw [List.drop_length, useG] at heq
  try simp only [q_bind_some, castInt_int, q_castBool, q_castStr, q_castPtr, q_castFn, q_castAgg, q_castTuple, q_uncons, q_isNil, q_sl, q_nils, q_emp, q_ptr, q_nilp, q_fn, q_cond_true, q_cond_false, Bool.not_true, Bool.not_false, decide_true, decide_false, List.cons_append, List.nil_append, impl_typeMod.A0_x0, one_of hl.flat]
  refine W.len p1 ?_
  refine W.loop (S := Nat × Heap) (fun s => s.1 ≤ E.m.funs.length ∧ Lh σ s.2 ∧ funG E E.m.funs 0 = funG E (E.m.funs.drop s.1) (s.1 : Int))
    (fun s => [.box [b0, b1, b2], .box [.int .i64 0, .int .i64 0], .box [b0, b1, b2, v1], .v b1, .v (.int .i64 (E.m.funs.length : Int)), .v (.int .i64 (s.1 : Int))]) (fun s => s.2) (fun s => E.m.funs.length - s.1) (fun ⟨j, σj⟩ ⟨hj, hlj, heqj⟩ => ?_) (0, σi) ⟨Nat.zero_le _, hle, rfl⟩
  simp only at hj hlj heqj ⊢
  refine W.to (fun k _ => by rw [impl_typeMod.L1_step]) ?_
  refine B.ite (fun hlt2 => ?_) fun hlt2 => ?_
  · have hil : j < E.m.funs.length := by omega
    have hx : E.m.funs[j]? = some E.m.funs[j] := List.getElem?_eq_getElem hil
    have hdr : E.m.funs.drop j = E.m.funs[j] :: E.m.funs.drop (j + 1) := List.drop_eq_getElem_cons hil
    generalize E.m.funs[j] = f at hx hdr
    have hmx := List.mem_of_getElem? hx
    rw [hdr, funG] at heqj
    obtain ⟨r, o, hv, cs', hr, hP⟩ := p1.at' hx
    cases hP with
    | mk q0 q1 =>
    have c := implExpr_gives hB (a1 := b0) (a2 := b1) (a3 := b2) (a4 := v1) f.body 4 (body_right hok (body_in hmx)) (by have := body_deep hok (body_in hmx); omega) f.args _ _ _ (args_len hok hmx) (hR hlj) (q0.mono hlj fun cs x _ hc => TreeArg.Rep.le hlj hc) (TreeExpr.Rep.mk (q1.mono hlj fun cs x _ hc => TreeExpr.Rep.le hlj x hc))
    have hcode := tyE_code E f.args f.body
    unfold funC at heqj
    generalize tyE E f.args f.body = tc at c hcode heqj
    obtain ⟨t, code⟩ := tc
    simp only at c hcode heqj
    try simp only [q_bind_some, castInt_int, q_castBool, q_castStr, q_castPtr, q_castFn, q_castAgg, q_castTuple, q_uncons, q_isNil, q_sl, q_nils, q_emp, q_ptr, q_nilp, q_fn, q_cond_true, q_cond_false, Bool.not_true, Bool.not_false, decide_true, decide_false, List.cons_append, List.nil_append, hv, hlj.rdc hr]
    refine B.give c fun σ2 l2 => ?_
    have l2' := hlj.trans l2
    by_cases hc : code = 0
    · subst hc
      by_cases ht : t = f.type
      · subst ht
        try simp only [q_bind_some, castInt_int, q_castBool, q_castStr, q_castPtr, q_castFn, q_castAgg, q_castTuple, q_uncons, q_isNil, q_sl, q_nils, q_emp, q_ptr, q_nilp, q_fn, q_cond_true, q_cond_false, Bool.not_true, Bool.not_false, decide_true, decide_false, List.cons_append, List.nil_append, wrap_next hil (by omega)]
        exact W.again (j + 1, σ2) ⟨by show j + 1 ≤ E.m.funs.length; omega, l2', by simp only; rw [heqj]; simp⟩ (by simp only; omega) rfl rfl
      · have hq : (if (0 : Int) = 0 ∧ t ≠ f.type then (4 : Int) else 0) = 4 := if_pos ⟨rfl, ht⟩
        rw [hq, if_neg (by decide)] at heqj
        have h40 : decide ((4 : Nat) = 0) = false := rfl
        try simp only [q_bind_some, castInt_int, q_castBool, q_castStr, q_castPtr, q_castFn, q_castAgg, q_castTuple, q_uncons, q_isNil, q_sl, q_nils, q_emp, q_ptr, q_nilp, q_fn, q_cond_true, q_cond_false, Bool.not_true, Bool.not_false, decide_true, decide_false, List.cons_append, List.nil_append, ht, h40, impl_typeMod.A1_ret]
        exact W.ret ⟨by unfold modG; rw [heq, heqj]; rfl, l2'⟩
    · have hq : (if code = 0 ∧ t ≠ f.type then (4 : Int) else code) = code := if_neg fun h => hc h.1
      rw [hq, if_neg hc] at heqj
      try simp only [q_bind_some, castInt_int, q_castBool, q_castStr, q_castPtr, q_castFn, q_castAgg, q_castTuple, q_uncons, q_isNil, q_sl, q_nils, q_emp, q_ptr, q_nilp, q_fn, q_cond_true, q_cond_false, Bool.not_true, Bool.not_false, decide_true, decide_false, List.cons_append, List.nil_append, hc, impl_typeMod.A1_ret]
      exact W.ret ⟨by unfold modG; rw [heq, heqj]; rfl, l2'⟩
  obtain rfl : j = E.m.funs.length := by omega
  rw [List.drop_length, funG] at heqj
  try simp only [q_bind_some, castInt_int, q_castBool, q_castStr, q_castPtr, q_castFn, q_castAgg, q_castTuple, q_uncons, q_isNil, q_sl, q_nils, q_emp, q_ptr, q_nilp, q_fn, q_cond_true, q_cond_false, Bool.not_true, Bool.not_false, decide_true, decide_false, List.cons_append, List.nil_append, impl_typeMod.A1_x2]
  refine W.len p2 ?_
  refine W.loop (S := Nat × Heap) (fun s => s.1 ≤ E.m.main.length ∧ Lh σ s.2 ∧ mainG E (E.m.funs.length : Int) E.m.main = mainG E (E.m.funs.length : Int) (E.m.main.drop s.1))
    (fun s => [.box [b0, b1, b2], .box [.int .i64 0, .int .i64 0], .box [b0, b1, b2, v1], .v b2, .v (.int .i64 (E.m.main.length : Int)), .v (.int .i64 (s.1 : Int))]) (fun s => s.2) (fun s => E.m.main.length - s.1) (fun ⟨z, σz⟩ ⟨hz, hlz, heqz⟩ => ?_) (0, σj) ⟨Nat.zero_le _, hlj, rfl⟩
  simp only at hz hlz heqz ⊢
  refine W.to (fun k _ => by rw [impl_typeMod.L2_step]) ?_
  refine B.ite (fun hlt3 => ?_) fun hlt3 => ?_
  · have hil : z < E.m.main.length := by omega
    have hx : E.m.main[z]? = some E.m.main[z] := List.getElem?_eq_getElem hil
    have hdr : E.m.main.drop z = E.m.main[z] :: E.m.main.drop (z + 1) := List.drop_eq_getElem_cons hil
    generalize E.m.main[z] = e at hx hdr
    have hmx := List.mem_of_getElem? hx
    rw [hdr, mainG] at heqz
    obtain ⟨r, o, hv, cs', hr, hP⟩ := p2.at' hx
    have c := implExpr_gives hB (a1 := b0) (a2 := b1) (a3 := b2) (a4 := v1) e 0 (body_right hok (main_in hmx)) (by have := body_deep hok (main_in hmx); omega) [] _ .nils _ (Nat.le_refl _) (hR hlz) .nils (TreeExpr.Rep.le hlz e hP)
    cases hP with
    | mk q0 =>
    have hcode := tyE_code E [] e
    generalize tyE E [] e = tc at c hcode heqz
    obtain ⟨t, code⟩ := tc
    simp only at c hcode heqz
    try simp only [q_bind_some, castInt_int, q_castBool, q_castStr, q_castPtr, q_castFn, q_castAgg, q_castTuple, q_uncons, q_isNil, q_sl, q_nils, q_emp, q_ptr, q_nilp, q_fn, q_cond_true, q_cond_false, Bool.not_true, Bool.not_false, decide_true, decide_false, List.cons_append, List.nil_append, hv, hlz.rdc hr]
    refine B.give c fun σ2 l2 => ?_
    have l2' := hlz.trans l2
    by_cases hc : code = 0
    · subst hc
      try simp only [q_bind_some, castInt_int, q_castBool, q_castStr, q_castPtr, q_castFn, q_castAgg, q_castTuple, q_uncons, q_isNil, q_sl, q_nils, q_emp, q_ptr, q_nilp, q_fn, q_cond_true, q_cond_false, Bool.not_true, Bool.not_false, decide_true, decide_false, List.cons_append, List.nil_append, wrap_next hil (by omega)]
      exact W.again (z + 1, σ2) ⟨by show z + 1 ≤ E.m.main.length; omega, l2', by simp only; rw [heqz]; simp⟩ (by simp only; omega) rfl rfl
    · try simp only [q_bind_some, castInt_int, q_castBool, q_castStr, q_castPtr, q_castFn, q_castAgg, q_castTuple, q_uncons, q_isNil, q_sl, q_nils, q_emp, q_ptr, q_nilp, q_fn, q_cond_true, q_cond_false, Bool.not_true, Bool.not_false, decide_true, decide_false, List.cons_append, List.nil_append, hc]
      refine B.len p1 ?_
      try simp only [q_bind_some, castInt_int, q_castBool, q_castStr, q_castPtr, q_castFn, q_castAgg, q_castTuple, q_uncons, q_isNil, q_sl, q_nils, q_emp, q_ptr, q_nilp, q_fn, q_cond_true, q_cond_false, Bool.not_true, Bool.not_false, decide_true, decide_false, List.cons_append, List.nil_append, impl_typeMod.A2_ret]
      rw [if_neg hc] at heqz
      exact W.ret ⟨by unfold modG; rw [heq, heqj, heqz]; rfl, l2'⟩
  obtain rfl : z = E.m.main.length := by omega
  rw [List.drop_length, mainG] at heqz
  try simp only [q_bind_some, castInt_int, q_castBool, q_castStr, q_castPtr, q_castFn, q_castAgg, q_castTuple, q_uncons, q_isNil, q_sl, q_nils, q_emp, q_ptr, q_nilp, q_fn, q_cond_true, q_cond_false, Bool.not_true, Bool.not_false, decide_true, decide_false, List.cons_append, List.nil_append, impl_typeMod.A2_x4]
  exact W.ret ⟨by unfold modG; rw [heq, heqj, heqz]; rfl, hlz⟩
theorem implTypeMod_gives {E : TyEnv} (hB : TyB E) (hF : E.m.Fit) {σ : Heap} {cs : List V} (hm : TreeMod.Rep σ cs E.m) {v1 : V} (hl : RepS 2 (TypeFace.Rep σ) σ v1 E.l) : Gives G n_impl_TypeMod [.agg cs, v1] σ (.agg [.int .i64 (typeMd E).1, .int .i64 (typeMd E).2]) := by
  have c1 := implTreeOk_gives hF hB.m hm
  have hml : ∀ {σ' : Heap}, Lh σ σ' → TreeMod.Rep σ' cs E.m := fun l => TreeMod.Rep.le l hm
  cases hm with
  | mk p0 p1 p2 =>
  refine Gives.of (W.to (fun k _ => impl_TypeMod.eq k _ _ _ _ _) ?_)
  refine W.give c1 fun σ1 l1 => ?_
  by_cases hok : ModOk E.m
  rotate_left
  · try simp only [q_bind_some, castInt_int, q_castBool, q_castStr, q_castPtr, q_castFn, q_castAgg, q_castTuple, q_uncons, q_isNil, q_sl, q_nils, q_emp, q_ptr, q_nilp, q_fn, q_cond_true, q_cond_false, Bool.not_true, Bool.not_false, decide_true, decide_false, List.cons_append, List.nil_append, decide_eq_false hok]
    exact W.ret ⟨by rw [typeMd, if_neg hok], l1⟩
  try simp only [q_bind_some, castInt_int, q_castBool, q_castStr, q_castPtr, q_castFn, q_castAgg, q_castTuple, q_uncons, q_isNil, q_sl, q_nils, q_emp, q_ptr, q_nilp, q_fn, q_cond_true, q_cond_false, Bool.not_true, Bool.not_false, decide_true, decide_false, List.cons_append, List.nil_append, decide_eq_true hok]
  refine W.give (implTypeMod0_gives hB hok (hml l1) (hl.mono l1 fun cs x _ hc => TypeFace.Rep.le l1 hc)) fun σ2 l2 => ?_
  try simp only [q_bind_some, castInt_int, q_castBool, q_castStr, q_castPtr, q_castFn, q_castAgg, q_castTuple, q_uncons, q_isNil, q_sl, q_nils, q_emp, q_ptr, q_nilp, q_fn, q_cond_true, q_cond_false, Bool.not_true, Bool.not_false, decide_true, decide_false, List.cons_append, List.nil_append]
  exact W.ret ⟨by rw [typeMd, if_pos hok], l1.trans l2⟩
end Go.G

/- TypeMod of the reference. -/
set_option linter.unusedVariables false
set_option linter.unusedSimpArgs false
namespace Go.G
open Go.HM Go.Proofs
theorem l4Has_runs {σ : Heap} {v : V} {l : List TypeFace} (h : RepS 2 (TypeFace.Rep σ) σ v l) (hl : l.length ≤ 1048576) (s : ByteArray) : Runs G n_spec_l4Has [v, .str s] σ (.bool (hasFace l s)) σ := by
  refine Runs.of (W.to (fun n _ => spec_l4Has.eq n _ _ _) ?_)
  refine W.loop (S := Nat) (fun i => i ≤ l.length ∧ ∀ f, f ∈ l.take i → f.mod ≠ s) (fun i => [.v v, .v (.str s), .v (.int .i64 (i : Int))]) (fun _ => σ) (fun i => l.length - i) (fun i ⟨hi, hok⟩ => ?_) 0 ⟨Nat.zero_le _, fun f hf => by simp at hf⟩
  refine W.to (fun n _ => by rw [spec_l4Has.L0_step]) ?_
  refine B.len h (B.ite (fun hlt => ?_) fun hlt => ?_)
  · have hil : i < l.length := by omega
    have hx : l[i]? = some l[i] := List.getElem?_eq_getElem hil
    generalize l[i] = x at hx
    obtain ⟨r, p, hv, cs, hr, hP⟩ := h.at' hx
    cases hP with
    | mk hs =>
    rename_i a0
    have r0 : rdc σ r (p + 0) 1 = some [.str x.mod] := rdc_sub hr 0 1 (by omega)
    by_cases hn : x.mod = s
    · try simp only [q_bind_some, castInt_int, q_castBool, q_castStr, q_castPtr, q_castFn, q_castAgg, q_castTuple, q_uncons, q_isNil, q_sl, q_nils, q_emp, q_ptr, q_nilp, q_fn, q_cond_true, q_cond_false, Bool.not_true, Bool.not_false, decide_true, decide_false, List.cons_append, List.nil_append, hv, r0, hn, spec_l4Has.A0_ret]
      have : hasFace l s = true := List.any_eq_true.2 ⟨x, List.mem_of_getElem? hx, decide_eq_true hn⟩
      exact W.ret ⟨by rw [this], rfl⟩
    · try simp only [q_bind_some, castInt_int, q_castBool, q_castStr, q_castPtr, q_castFn, q_castAgg, q_castTuple, q_uncons, q_isNil, q_sl, q_nils, q_emp, q_ptr, q_nilp, q_fn, q_cond_true, q_cond_false, Bool.not_true, Bool.not_false, decide_true, decide_false, List.cons_append, List.nil_append, hv, r0, hn, wrap_next hil (by omega)]
      refine W.again (i + 1) ⟨by omega, fun f hf => ?_⟩ (by omega) rfl rfl
      rw [take_next' hx] at hf
      rcases List.mem_append.1 hf with h | h
      · exact hok f h
      · simp at h; rw [h]; exact hn
  · rw [List.take_of_length_le (by omega)] at hok
    try simp only [q_bind_some, castInt_int, q_castBool, q_castStr, q_castPtr, q_castFn, q_castAgg, q_castTuple, q_uncons, q_isNil, q_sl, q_nils, q_emp, q_ptr, q_nilp, q_fn, q_cond_true, q_cond_false, Bool.not_true, Bool.not_false, decide_true, decide_false, List.cons_append, List.nil_append, spec_l4Has.A0_x0]
    have : hasFace l s = false := by
      unfold hasFace
      rw [List.any_eq_false]
      exact fun f hf => by simp [hok f hf]
    exact W.ret ⟨by rw [this], rfl⟩
theorem l4Fun_gives {E : TyEnv} (hB : TyB E) (hok : ModOk E.m) {p : Nat} {f : TreeFun} (hmx : f ∈ E.m.funs) {σ : Heap} (hS : TyS σ E p) {cs : List V} (h : TreeFun.Rep σ cs f) : Gives G n_pspec_l4In_fun [.ptr p 0, .agg cs] σ (.int .i64 (funC E f)) := by
  cases h with
  | mk q0 q1 =>
  have c := specExpr_gives hB (p := p) f.body 4 (body_right hok (body_in hmx)) (by have := body_deep hok (body_in hmx); omega) f.args _ _ _ (args_len hok hmx) hS q0 (TreeExpr.Rep.mk q1)
  refine Gives.of (W.to (fun k _ => pspec_l4In_fun.eq k _ _ _ _ _ _ _ _ _ _ _) ?_)
  unfold funC
  generalize tyE E f.args f.body = tc at c
  obtain ⟨t, code⟩ := tc
  simp only at c ⊢
  refine W.give c fun σ2 l2 => ?_
  by_cases hc : code = 0
  · subst hc
    by_cases ht : t = f.type
    · try simp only [q_bind_some, castInt_int, q_castBool, q_castStr, q_castPtr, q_castFn, q_castAgg, q_castTuple, q_uncons, q_isNil, q_sl, q_nils, q_emp, q_ptr, q_nilp, q_fn, q_cond_true, q_cond_false, Bool.not_true, Bool.not_false, decide_true, decide_false, List.cons_append, List.nil_append, ht]
      exact W.ret ⟨by simp, l2⟩
    · try simp only [q_bind_some, castInt_int, q_castBool, q_castStr, q_castPtr, q_castFn, q_castAgg, q_castTuple, q_uncons, q_isNil, q_sl, q_nils, q_emp, q_ptr, q_nilp, q_fn, q_cond_true, q_cond_false, Bool.not_true, Bool.not_false, decide_true, decide_false, List.cons_append, List.nil_append, ht]
      exact W.ret ⟨by simp [ht], l2⟩
  · try simp only [q_bind_some, castInt_int, q_castBool, q_castStr, q_castPtr, q_castFn, q_castAgg, q_castTuple, q_uncons, q_isNil, q_sl, q_nils, q_emp, q_ptr, q_nilp, q_fn, q_cond_true, q_cond_false, Bool.not_true, Bool.not_false, decide_true, decide_false, List.cons_append, List.nil_append, hc]
    exact W.ret ⟨by simp [hc], l2⟩
set_option maxHeartbeats 2000000 in
theorem specTypeMod_gives {E : TyEnv} (hB : TyB E) (hF : E.m.Fit) {σ : Heap} {cs : List V} (hm : TreeMod.Rep σ cs E.m) {v1 : V} (hl : RepS 2 (TypeFace.Rep σ) σ v1 E.l) : Gives G n_spec_TypeMod [.agg cs, v1] σ (.agg [.int .i64 (typeMd E).1, .int .i64 (typeMd E).2]) := by
  have c1 := specTreeOk_gives hF hB.m hm
  have hml : ∀ {σ' : Heap}, Lh σ σ' → TreeMod.Rep σ' cs E.m := fun l => TreeMod.Rep.le l hm
  have hll : ∀ {σ' : Heap}, Lh σ σ' → RepS 2 (TypeFace.Rep σ') σ' v1 E.l := fun lA => hl.mono lA fun cs x _ hc => TypeFace.Rep.le lA hc
  have hlen := hB.l
  have hmt := hB.m
  rw [TreeMod.total_eq] at hmt
  cases hm with
  | mk p0 p1 p2 =>
  rename_i b0 b1 b2
  refine Gives.of (W.to (fun k _ => spec_TypeMod.eq k _ _ _ _ _) ?_)
  refine W.give c1 fun σ1 l1 => ?_
  by_cases hok : ModOk E.m
  rotate_left
  · try simp only [q_bind_some, castInt_int, q_castBool, q_castStr, q_castPtr, q_castFn, q_castAgg, q_castTuple, q_uncons, q_isNil, q_sl, q_nils, q_emp, q_ptr, q_nilp, q_fn, q_cond_true, q_cond_false, Bool.not_true, Bool.not_false, decide_true, decide_false, List.cons_append, List.nil_append, decide_eq_false hok]
    exact W.ret ⟨by rw [typeMd, if_neg hok], l1⟩
  try simp only [q_bind_some, castInt_int, q_castBool, q_castStr, q_castPtr, q_castFn, q_castAgg, q_castTuple, q_uncons, q_isNil, q_sl, q_nils, q_emp, q_ptr, q_nilp, q_fn, q_cond_true, q_cond_false, Bool.not_true, Bool.not_false, decide_true, decide_false, List.cons_append, List.nil_append, decide_eq_true hok]
  rw [typeMd, if_pos hok]
  refine W.loop (S := Nat) (fun i => i ≤ E.m.uses.length ∧ useG E.l E.m.uses 0 = useG E.l (E.m.uses.drop i) (i : Int))
    (fun i => [.v v1, .box [b0, b1, b2], .box [.int .i64 0, .int .i64 0], .v (.int .i64 (i : Int))]) (fun _ => σ1) (fun i => E.m.uses.length - i) (fun i ⟨hi, heq⟩ => ?_) 0 ⟨Nat.zero_le _, rfl⟩
  refine W.to (fun k _ => by rw [spec_TypeMod.L0_step]) ?_
  refine B.len p0 (B.ite (fun hlt => ?_) fun hlt => ?_)
  · have hil : i < E.m.uses.length := by omega
    have hx : E.m.uses[i]? = some E.m.uses[i] := List.getElem?_eq_getElem hil
    have hdr : E.m.uses.drop i = E.m.uses[i] :: E.m.uses.drop (i + 1) := List.drop_eq_getElem_cons hil
    generalize E.m.uses[i] = u at hx hdr
    rw [hdr, useG] at heq
    obtain ⟨r, o, hv, cs', hr, hP⟩ := p0.at' hx
    unfold StrRep at hP
    subst hP
    try simp only [q_bind_some, castInt_int, q_castBool, q_castStr, q_castPtr, q_castFn, q_castAgg, q_castTuple, q_uncons, q_isNil, q_sl, q_nils, q_emp, q_ptr, q_nilp, q_fn, q_cond_true, q_cond_false, Bool.not_true, Bool.not_false, decide_true, decide_false, List.cons_append, List.nil_append, hv, l1.rdc hr]
    refine B.run (l4Has_runs (hll l1) (by omega) u) ?_
    by_cases hu : hasFace E.l u = true
    · rw [if_pos hu] at heq
      try simp only [q_bind_some, castInt_int, q_castBool, q_castStr, q_castPtr, q_castFn, q_castAgg, q_castTuple, q_uncons, q_isNil, q_sl, q_nils, q_emp, q_ptr, q_nilp, q_fn, q_cond_true, q_cond_false, Bool.not_true, Bool.not_false, decide_true, decide_false, List.cons_append, List.nil_append, hu, wrap_next hil (by omega)]
      exact W.again (i + 1) ⟨by omega, by rw [heq]; congr 1⟩ (by omega) rfl rfl
    · rw [if_neg hu] at heq
      have hu' : hasFace E.l u = false := by simpa using hu
      try simp only [q_bind_some, castInt_int, q_castBool, q_castStr, q_castPtr, q_castFn, q_castAgg, q_castTuple, q_uncons, q_isNil, q_sl, q_nils, q_emp, q_ptr, q_nilp, q_fn, q_cond_true, q_cond_false, Bool.not_true, Bool.not_false, decide_true, decide_false, List.cons_append, List.nil_append, hu', spec_TypeMod.A0_ret]
      exact W.ret ⟨by unfold modG; rw [heq]; rfl, l1⟩
  obtain rfl : i = E.m.uses.length := by omega
  rw [List.drop_length, useG] at heq
  have lN : Lh σ1 (hnew σ1 4 [b0, b1, b2, v1]) := Lh.new _ _ _
  have hS : ∀ {σ' : Heap}, Lh (hnew σ1 4 [b0, b1, b2, v1]) σ' → TyS σ' E σ1.length := fun l => TyS.le ⟨b0, b1, b2, v1, by simp [rdc, hnew], hml (l1.trans lN), hll (l1.trans lN)⟩ l
  try simp only [q_bind_some, castInt_int, q_castBool, q_castStr, q_castPtr, q_castFn, q_castAgg, q_castTuple, q_uncons, q_isNil, q_sl, q_nils, q_emp, q_ptr, q_nilp, q_fn, q_cond_true, q_cond_false, Bool.not_true, Bool.not_false, decide_true, decide_false, List.cons_append, List.nil_append, spec_TypeMod.A0_x0, one_of hl.flat]
  generalize hσ : hnew σ1 4 [b0, b1, b2, v1] = σN at lN hS
  have l1N := l1.trans lN
  refine W.loop (S := Nat × Heap) (fun s => s.1 ≤ E.m.funs.length ∧ Lh σN s.2 ∧ funG E E.m.funs 0 = funG E (E.m.funs.drop s.1) (s.1 : Int))
    (fun s => [.box [b0, b1, b2], .box [.int .i64 0, .int .i64 0], .v (.ptr σ1.length 0), .v (.int .i64 (s.1 : Int))]) (fun s => s.2) (fun s => E.m.funs.length - s.1) (fun ⟨j, σj⟩ ⟨hj, hlj', heqj⟩ => ?_) (0, σN) ⟨Nat.zero_le _, Lh.refl _, rfl⟩
  simp only at hj hlj' heqj ⊢
  have hlj := l1N.trans hlj'
  refine W.to (fun k _ => by rw [spec_TypeMod.L1_step]) ?_
  refine B.len p1 (B.ite (fun hlt2 => ?_) fun hlt2 => ?_)
  · have hil : j < E.m.funs.length := by omega
    have hx : E.m.funs[j]? = some E.m.funs[j] := List.getElem?_eq_getElem hil
    have hdr : E.m.funs.drop j = E.m.funs[j] :: E.m.funs.drop (j + 1) := List.drop_eq_getElem_cons hil
    generalize E.m.funs[j] = f at hx hdr
    have hmx := List.mem_of_getElem? hx
    rw [hdr, funG] at heqj
    obtain ⟨r, o, hv, cs', hr, hP⟩ := p1.at' hx
    have c := l4Fun_gives hB hok hmx (hS hlj') (TreeFun.Rep.le hlj hP)
    have hcb := funC_b E f
    generalize funC E f = code at c hcb heqj
    cases hP with
    | mk q0 q1 =>
    try simp only [q_bind_some, castInt_int, q_castBool, q_castStr, q_castPtr, q_castFn, q_castAgg, q_castTuple, q_uncons, q_isNil, q_sl, q_nils, q_emp, q_ptr, q_nilp, q_fn, q_cond_true, q_cond_false, Bool.not_true, Bool.not_false, decide_true, decide_false, List.cons_append, List.nil_append, hv, hlj.rdc hr]
    refine B.give c fun σ2 l2 => ?_
    by_cases hc : code = 0
    · rw [if_pos hc] at heqj
      have hc' : ¬ (0 < code) := by omega
      try simp only [q_bind_some, castInt_int, q_castBool, q_castStr, q_castPtr, q_castFn, q_castAgg, q_castTuple, q_uncons, q_isNil, q_sl, q_nils, q_emp, q_ptr, q_nilp, q_fn, q_cond_true, q_cond_false, Bool.not_true, Bool.not_false, decide_true, decide_false, List.cons_append, List.nil_append, hc', wrap_next hil (by omega)]
      exact W.again (j + 1, σ2) ⟨by show j + 1 ≤ E.m.funs.length; omega, hlj'.trans l2, by simp only; rw [heqj]; congr 1⟩ (by simp only; omega) rfl rfl
    · rw [if_neg hc] at heqj
      have hc' : 0 < code := by omega
      try simp only [q_bind_some, castInt_int, q_castBool, q_castStr, q_castPtr, q_castFn, q_castAgg, q_castTuple, q_uncons, q_isNil, q_sl, q_nils, q_emp, q_ptr, q_nilp, q_fn, q_cond_true, q_cond_false, Bool.not_true, Bool.not_false, decide_true, decide_false, List.cons_append, List.nil_append, hc', spec_TypeMod.A1_ret]
      exact W.ret ⟨by unfold modG; rw [heq, heqj]; rfl, hlj.trans l2⟩
  obtain rfl : j = E.m.funs.length := by omega
  rw [List.drop_length, funG] at heqj
  try simp only [q_bind_some, castInt_int, q_castBool, q_castStr, q_castPtr, q_castFn, q_castAgg, q_castTuple, q_uncons, q_isNil, q_sl, q_nils, q_emp, q_ptr, q_nilp, q_fn, q_cond_true, q_cond_false, Bool.not_true, Bool.not_false, decide_true, decide_false, List.cons_append, List.nil_append, spec_TypeMod.A1_x2]
  have hm1 : E.m.main.length ≤ 1 := ((modOk_iff E.m).1 hok).2.2.1
  refine W.len p2 (W.ite (fun hlt3 => ?_) fun hlt3 => ?_)
  · obtain ⟨e, he⟩ : ∃ e, E.m.main = [e] := by
      match h : E.m.main, hm1, hlt3 with
      | [], _, h0 => simp at h0
      | [e], _, _ => exact ⟨e, rfl⟩
      | a :: b :: t, h1, _ => simp at h1
    have hmx : e ∈ E.m.main := by rw [he]; simp
    obtain ⟨r, o, hv, cs', hr, hP⟩ := p2.at' (i := 0) (x := e) (by rw [he]; rfl)
    have hv' : vidx 5 b2 0 = some (r, o) := hv
    have c := specExpr_gives hB (p := σ1.length) e 0 (body_right hok (main_in hmx)) (by have := body_deep hok (main_in hmx); omega) [] _ .nils _ (Nat.le_refl _) (hS hlj') .nils (TreeExpr.Rep.le hlj e hP)
    cases hP with
    | mk q0 =>
    have hmg : mainG E (E.m.funs.length : Int) E.m.main = if (tyE E [] e).2 = 0 then none else some ((tyE E [] e).2, (E.m.funs.length : Int)) := by rw [he, mainG, mainG]
    have hcode := tyE_code E [] e
    generalize tyE E [] e = tc at c hcode hmg
    obtain ⟨t, code⟩ := tc
    simp only at c hcode hmg
    try simp only [q_bind_some, castInt_int, q_castBool, q_castStr, q_castPtr, q_castFn, q_castAgg, q_castTuple, q_uncons, q_isNil, q_sl, q_nils, q_emp, q_ptr, q_nilp, q_fn, q_cond_true, q_cond_false, Bool.not_true, Bool.not_false, decide_true, decide_false, List.cons_append, List.nil_append, hv', hlj.rdc hr]
    refine W.give c fun σ2 l2 => ?_
    by_cases hc : code = 0
    · subst hc
      try simp only [q_bind_some, castInt_int, q_castBool, q_castStr, q_castPtr, q_castFn, q_castAgg, q_castTuple, q_uncons, q_isNil, q_sl, q_nils, q_emp, q_ptr, q_nilp, q_fn, q_cond_true, q_cond_false, Bool.not_true, Bool.not_false, decide_true, decide_false, List.cons_append, List.nil_append]
      exact W.ret ⟨by unfold modG; rw [heq, heqj, hmg]; simp, hlj.trans l2⟩
    · have hc' : 0 < code := by omega
      try simp only [q_bind_some, castInt_int, q_castBool, q_castStr, q_castPtr, q_castFn, q_castAgg, q_castTuple, q_uncons, q_isNil, q_sl, q_nils, q_emp, q_ptr, q_nilp, q_fn, q_cond_true, q_cond_false, Bool.not_true, Bool.not_false, decide_true, decide_false, List.cons_append, List.nil_append, hc']
      refine W.len p1 ?_
      exact W.ret ⟨by unfold modG; rw [heq, heqj, hmg]; simp [hc], hlj.trans l2⟩
  · have he : E.m.main = [] := List.eq_nil_of_length_eq_zero (by omega)
    exact W.ret ⟨by unfold modG; rw [heq, heqj, he, mainG]; rfl, hlj⟩
end Go.G

/- What the law on TypeMod computes. -/
set_option linter.unusedVariables false
set_option linter.unusedSimpArgs false
namespace Go.G
open Go.HM Go.Proofs
theorem FnExactTypeMod_law {σ : Heap} {y0 : TreeMod} (f0 : TreeMod.Fit y0) {xs0 : List V} (r0 : TreeMod.Rep σ xs0 y0) {y1 : List TypeFace} (f1 : fitL TypeFace.Fit y1) {w1 : V} (r1 : RepS 2 (TypeFace.Rep σ) σ w1 y1) :
    ∃ σ', Runs G n_laws_FnExactTypeMod [.agg xs0, w1] σ (.bool true) σ' := by
  refine Ends.true (Ends.mk ?_)
  have c0 := szTreeMod_runs y0 f0 r0 (b := 1048576) (by omega) (by omega)
  have q0 := r0
  cases q0 with
  | mk p0 p1 p2 =>
  refine W.to (fun k _ => laws_FnExactTypeMod.eq k _ _ _ _ _) ?_
  refine W.run c0 ?_
  try simp only [q_bind_some, castInt_int, q_castBool, q_castStr, q_castPtr, q_castFn, q_castAgg, q_castTuple, q_uncons, q_isNil, q_sl, q_nils, q_emp, q_ptr, q_nilp, q_fn, q_cond_true, q_cond_false, Bool.not_true, Bool.not_false, decide_true, decide_false, List.cons_append, List.nil_append]
  refine W.ite (fun _ => W.ret rfl) fun hs => ?_
  have ht : y0.total ≤ 1048576 := by have := sub_cases 1048576 y0.total; omega
  have hb0 : 0 ≤ sub 1048576 y0.total ∧ sub 1048576 y0.total ≤ 1048576 := by have := sub_cases 1048576 y0.total; omega
  refine W.run (szTypeFaceS_runs f1.1 r1 (fun x hx cs b hr h0 h1 => szTypeFace_runs x (f1.2 x hx) hr h0 h1) (b := sub 1048576 y0.total) hb0.1 (by omega)) ?_
  try simp only [q_bind_some, castInt_int, q_castBool, q_castStr, q_castPtr, q_castFn, q_castAgg, q_castTuple, q_uncons, q_isNil, q_sl, q_nils, q_emp, q_ptr, q_nilp, q_fn, q_cond_true, q_cond_false, Bool.not_true, Bool.not_false, decide_true, decide_false, List.cons_append, List.nil_append]
  refine W.ite (fun _ => W.ret rfl) fun hs1 => ?_
  have ht1 : y1.length + totS TypeFace.total y1 ≤ 1048576 := by have := sub_cases (sub 1048576 y0.total) (y1.length + totS TypeFace.total y1); omega
  have toM : ∀ {σ' : Heap}, Lh σ σ' → _ := fun {σ'} hl => toTreeMod_runs y0 ht (σ := σ') (r0.le hl)
  have toF : ∀ {σ' : Heap}, Lh σ σ' → _ := fun {σ'} hl => toTypeFaceS_runs (σ := σ') ht1 (r1.mono hl fun cs x _ h => TypeFace.Rep.le hl h) (fun x hx ht σ cs hr => toTypeFace_runs x ht hr)
  have upF : ∀ {a b : Heap} {v : V}, Lh a b → RepS 2 (TypeFace.Rep a) a v y1 → RepS 2 (TypeFace.Rep b) b v y1 := fun hl h => h.mono hl fun cs x _ h => TypeFace.Rep.le hl h
  have hB : TyB ⟨y0, y1⟩ := ⟨ht, ht1⟩
  obtain ⟨cs1, σ1, c1, l1, r11⟩ := toM (Lh.refl σ)
  have d1 := r11.le (Lh.wipe _ _)
  obtain ⟨v2, σ2, c2, l2, r12⟩ := toF l1
  have q1 := d1
  cases q1 with
  | mk g0 g1 g2 =>
  refine W.run c1 ?_
  try simp only [q_bind_some, castInt_int, q_castBool, q_castStr, q_castPtr, q_castFn, q_castAgg, q_castTuple, q_uncons, q_isNil, q_sl, q_nils, q_emp, q_ptr, q_nilp, q_fn, q_cond_true, q_cond_false, Bool.not_true, Bool.not_false, decide_true, decide_false, List.cons_append, List.nil_append]
  refine W.run c2 ?_
  try simp only [q_bind_some, castInt_int, q_castBool, q_castStr, q_castPtr, q_castFn, q_castAgg, q_castTuple, q_uncons, q_isNil, q_sl, q_nils, q_emp, q_ptr, q_nilp, q_fn, q_cond_true, q_cond_false, Bool.not_true, Bool.not_false, decide_true, decide_false, List.cons_append, List.nil_append]
  refine W.give (specTypeMod_gives hB f0 (d1.le l2) (upF (Lh.wipe _ _) r12)) fun σ3 l3' => ?_
  try simp only [q_bind_some, castInt_int, q_castBool, q_castStr, q_castPtr, q_castFn, q_castAgg, q_castTuple, q_uncons, q_isNil, q_sl, q_nils, q_emp, q_ptr, q_nilp, q_fn, q_cond_true, q_cond_false, Bool.not_true, Bool.not_false, decide_true, decide_false, List.cons_append, List.nil_append]
  have l3 := (l1.trans l2).trans l3'
  obtain ⟨cs4, σ4, c4, l4, r4⟩ := toM l3
  have d4 := r4.le (Lh.wipe _ _)
  have q4 := d4
  cases q4 with
  | mk g0 g1 g2 =>
  refine W.run c4 ?_
  try simp only [q_bind_some, castInt_int, q_castBool, q_castStr, q_castPtr, q_castFn, q_castAgg, q_castTuple, q_uncons, q_isNil, q_sl, q_nils, q_emp, q_ptr, q_nilp, q_fn, q_cond_true, q_cond_false, Bool.not_true, Bool.not_false, decide_true, decide_false, List.cons_append, List.nil_append]
  obtain ⟨v5, σ5, c5, l5, r5⟩ := toF (l3.trans l4)
  have d5 := upF (Lh.wipe _ _) r5
  refine W.run c5 ?_
  try simp only [q_bind_some, castInt_int, q_castBool, q_castStr, q_castPtr, q_castFn, q_castAgg, q_castTuple, q_uncons, q_isNil, q_sl, q_nils, q_emp, q_ptr, q_nilp, q_fn, q_cond_true, q_cond_false, Bool.not_true, Bool.not_false, decide_true, decide_false, List.cons_append, List.nil_append]
  refine W.give (implTypeMod_gives hB f0 (d4.le l5) d5) fun σ6 l6' => ?_
  try simp only [q_bind_some, castInt_int, q_castBool, q_castStr, q_castPtr, q_castFn, q_castAgg, q_castTuple, q_uncons, q_isNil, q_sl, q_nils, q_emp, q_ptr, q_nilp, q_fn, q_cond_true, q_cond_false, Bool.not_true, Bool.not_false, decide_true, decide_false, List.cons_append, List.nil_append]
  have l36 := (l4.trans l5).trans l6'
  have eqT : Runs G n_laws_eqTypeFault [.agg [.int .i64 (typeMd ⟨y0, y1⟩).1, .int .i64 (typeMd ⟨y0, y1⟩).2], .agg [.int .i64 (typeMd ⟨y0, y1⟩).1, .int .i64 (typeMd ⟨y0, y1⟩).2]] σ6 (.bool true) σ6 := by
    refine Runs.of (W.to (fun k _ => laws_eqTypeFault.eq k _ _ _ _ _) ?_)
    try simp only [q_bind_some, castInt_int, q_castBool, q_castStr, q_castPtr, q_castFn, q_castAgg, q_castTuple, q_uncons, q_isNil, q_sl, q_nils, q_emp, q_ptr, q_nilp, q_fn, q_cond_true, q_cond_false, Bool.not_true, Bool.not_false, decide_true, decide_false, List.cons_append, List.nil_append]
    exact W.ret ⟨rfl, rfl⟩
  refine W.run eqT ?_
  try simp only [q_bind_some, castInt_int, q_castBool, q_castStr, q_castPtr, q_castFn, q_castAgg, q_castTuple, q_uncons, q_isNil, q_sl, q_nils, q_emp, q_ptr, q_nilp, q_fn, q_cond_true, q_cond_false, Bool.not_true, Bool.not_false, decide_true, decide_false, List.cons_append, List.nil_append]
  obtain ⟨cs7, σ7, c7, l7, r7⟩ := toM (l3.trans l36)
  have d7 := r7.le (Lh.wipe _ _)
  have q7 := d7
  cases q7 with
  | mk g0 g1 g2 =>
  refine W.run c7 ?_
  try simp only [q_bind_some, castInt_int, q_castBool, q_castStr, q_castPtr, q_castFn, q_castAgg, q_castTuple, q_uncons, q_isNil, q_sl, q_nils, q_emp, q_ptr, q_nilp, q_fn, q_cond_true, q_cond_false, Bool.not_true, Bool.not_false, decide_true, decide_false, List.cons_append, List.nil_append]
  have l47 := (l5.trans l6').trans l7
  obtain ⟨be, ce, hbe⟩ := eqTreeMod_runs y0 y0 f0 (d4.le l47) d7
  obtain rfl := hbe.2 rfl
  refine W.run ce ?_
  try simp only [q_bind_some, castInt_int, q_castBool, q_castStr, q_castPtr, q_castFn, q_castAgg, q_castTuple, q_uncons, q_isNil, q_sl, q_nils, q_emp, q_ptr, q_nilp, q_fn, q_cond_true, q_cond_false, Bool.not_true, Bool.not_false, decide_true, decide_false, List.cons_append, List.nil_append]
  obtain ⟨v8, σ8, c8, l8, r8⟩ := toF ((l3.trans l36).trans l7)
  have d8 := upF (Lh.wipe _ _) r8
  refine W.run c8 ?_
  try simp only [q_bind_some, castInt_int, q_castBool, q_castStr, q_castPtr, q_castFn, q_castAgg, q_castTuple, q_uncons, q_isNil, q_sl, q_nils, q_emp, q_ptr, q_nilp, q_fn, q_cond_true, q_cond_false, Bool.not_true, Bool.not_false, decide_true, decide_false, List.cons_append, List.nil_append]
  have l58 := (l6'.trans l7).trans l8
  obtain ⟨bf, cf, hbf⟩ := eqTypeFaceS_runs f1.1 (upF l58 d5) d8 (fun x hx y cs cs' hr hr' => eqTypeFace_runs x y (f1.2 x hx) hr hr')
  obtain rfl := hbf.2 rfl
  refine W.run cf ?_
  try simp only [q_bind_some, castInt_int, q_castBool, q_castStr, q_castPtr, q_castFn, q_castAgg, q_castTuple, q_uncons, q_isNil, q_sl, q_nils, q_emp, q_ptr, q_nilp, q_fn, q_cond_true, q_cond_false, Bool.not_true, Bool.not_false, decide_true, decide_false, List.cons_append, List.nil_append]
  exact W.ret rfl
end Go.G
