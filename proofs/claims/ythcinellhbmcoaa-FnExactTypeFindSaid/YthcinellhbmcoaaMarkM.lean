/- The marks of modules and faces that are handed over. After markgen (MkF) and rowgen (RwF). -/
import Derived.Test.YthcinellhbmcoaaRwF
import Derived.Test.YthcinellhbmcoaaXM
set_option linter.unusedVariables false
set_option linter.unusedSimpArgs false
namespace Go.X
open Go.HM Go.Proofs
theorem maxS_mem {α : Type} (f : α → Nat) : ∀ {l : List α} {x : α}, x ∈ l → f x ≤ maxS f l
  | y :: l, x, h => by
    rw [maxS]
    rcases List.mem_cons.1 h with rfl | h
    · omega
    · have := maxS_mem f h
      omega
theorem PTreeExpr.of {σ : Heap} (hw : ∀ (r : Nat) row, σ[r]? = some (some row) → row.ro = false) : ∀ (d : Nat) (r o : Nat) (cs : List V) (x : TreeExpr), x.deep ≤ d → rdc σ r o 5 = some cs → TreeExpr.Rep σ cs x → ∃ ls, PTreeExpr d σ r o ls ∧ ls.length ≤ 8 + 8 * x.total
  | 0, r, o, cs, x, hd, _, _ => by rw [TreeExpr.deep_eq] at hd; omega
  | d + 1, r, o, cs, x, hd, hr, h => by
    rw [TreeExpr.deep_eq] at hd
    obtain ⟨row0, hrow0, _, _⟩ := rdc_some hr
    have hw0 : ∃ row, σ[r]? = some (some row) ∧ row.ro = false := ⟨row0, hrow0, hw r row0 hrow0⟩
    cases h with
    | mk h1 =>
    obtain ⟨l1, k1, b1⟩ := h1.lv (P := PTreeExpr d σ) (c := (fun y => 8 + 8 * TreeExpr.total y)) hw (fun r o cs y hy hw' hr hq => PTreeExpr.of hw d r o cs y (by have := maxS_mem TreeExpr.deep hy; omega) hr hq)
    rw [totS_lin] at b1
    refine ⟨_, ⟨_, l1, fl_of (f := 0) (x := .int .i64 x.kind) hw0 hr rfl rfl, fl_of (f := 1) (x := .int .i64 x.num) hw0 hr rfl rfl, fl_of (f := 2) (x := .str x.name) hw0 hr rfl trivial, fl_of (f := 3) (x := .str x.mod) hw0 hr rfl trivial, cl_of (f := 4) hr rfl h1.isSl, k1, rfl⟩, ?_⟩
    rw [TreeExpr.total_eq]
    simp only [List.length_append, List.length_cons, List.length_nil]
    omega
theorem PTreeFun.of {σ : Heap} (hw : ∀ (r : Nat) row, σ[r]? = some (some row) → row.ro = false) (d : Nat) (r o : Nat) (cs : List V) (x : TreeFun) (hd : x.body.deep ≤ d) (hr : rdc σ r o 9 = some cs) (h : TreeFun.Rep σ cs x) : ∃ ls, PTreeFun d σ r o ls ∧ ls.length ≤ 8 + 8 * x.total := by
  rw [TreeExpr.deep_eq] at hd
  obtain ⟨row0, hrow0, _, _⟩ := rdc_some hr
  have hw0 : ∃ row, σ[r]? = some (some row) ∧ row.ro = false := ⟨row0, hrow0, hw r row0 hrow0⟩
  cases h with
  | mk h1 h2 =>
  obtain ⟨l1, k1, b1⟩ := h1.lv (P := PTreeArg σ) (c := (fun y => 8 + 8 * TreeArg.total y)) hw (fun r o cs y _ hw' hr hq => PTreeArg.of r o cs y hw hr hq)
  obtain ⟨l2, k2, b2⟩ := h2.lv (P := PTreeExpr d σ) (c := (fun y => 8 + 8 * TreeExpr.total y)) hw (fun r o cs y hy hw' hr hq => PTreeExpr.of hw d r o cs y (by have := maxS_mem TreeExpr.deep hy; omega) hr hq)
  rw [totS_lin] at b1 b2
  refine ⟨_, ⟨_, l1, _, l2, fl_of (f := 0) (x := .str x.name) hw0 hr rfl trivial, fl_of (f := 1) (x := .bool x.pub) hw0 hr rfl trivial, cl_of (f := 2) hr rfl h1.isSl, k1, fl_of (f := 3) (x := .int .i64 x.type) hw0 hr rfl rfl,
    fl_of (f := 4) (x := .int .i64 x.body.kind) hw0 hr rfl rfl, fl_of (f := 5) (x := .int .i64 x.body.num) hw0 hr rfl rfl, fl_of (f := 6) (x := .str x.body.name) hw0 hr rfl trivial, fl_of (f := 7) (x := .str x.body.mod) hw0 hr rfl trivial, cl_of (f := 8) hr rfl h2.isSl, k2, rfl⟩, ?_⟩
  rw [TreeFun.total_eq, TreeExpr.total_eq]
  simp only [List.length_append, List.length_cons, List.length_nil]
  omega
/-- Rows that hold none of the places stay. -/
theorem marked_out {τ σ : Heap} {n : Nat} {L : List Leaf} (hc : ∀ k r o, (k, r, o) ∈ L → cellAt τ r o ≠ none) {j : Nat} (hj : ∀ row, τ[j]? ≠ some (some row)) : (wrs σ n L)[j]? = σ[j]? := wrs_out L fun l hl he => by
  obtain ⟨k, r, o⟩ := l
  cases hx : cellAt τ r o with
  | none => exact hc k r o hl hx
  | some x =>
    obtain ⟨row, h1, _⟩ := cellAt_some hx
    simp only at he
    subst he
    exact hj row h1
/-- The marks of a module in a window of the heap. -/
theorem mod_marks {lo hi : Nat} {σ : Heap} {cs : List V} {m : TreeMod} (h : TreeMod.Rep (win lo hi σ) cs m) (ht : m.total ≤ 1048576) :
    ∃ L : List Leaf, Runs G n_laws_markTreeMod [.agg cs, .int .i64 1] σ (.int .i64 ((1 + L.length : Nat) : Int)) (wrs σ 1 L) ∧ Shp (win lo hi σ) (wrs σ 1 L) ∧ L.length ≤ 33554432 ∧ (∀ k r o, (k, r, o) ∈ L → cellAt (win lo hi σ) r o ≠ none) := by
  have hw : ∀ (r : Nat) row, (win lo hi σ)[r]? = some (some row) → row.ro = false := fun r row hr => (win_get.1 hr).2.2
  have htot := ht
  rw [TreeMod.total_eq] at ht
  have hdeep : ∀ e : TreeExpr, e.total ≤ 1048576 → e.deep ≤ 1048577 := fun e he => by
    have := TreeExpr.deep_le e
    have := TreeExpr.many_le e
    omega
  cases h with
  | mk h0 h1 h2 =>
  obtain ⟨l0, v0, b0⟩ := h0.lv (P := PString (win lo hi σ)) (c := fun _ => 8) hw (fun r o cs x _ hw' hr hq => PString.of r o cs x hw' hr hq)
  obtain ⟨l1, v1, b1⟩ := h1.lv (P := PTreeFun 1048577 (win lo hi σ)) (c := fun y => 8 + 8 * TreeFun.total y) hw (fun r o cs x hx hw' hr hq => PTreeFun.of hw 1048577 r o cs x (hdeep _ (by have := totS_mem TreeFun.total hx; have := TreeFun.total_eq x; omega)) hr hq)
  obtain ⟨l2, v2, b2⟩ := h2.lv (P := PTreeExpr 1048577 (win lo hi σ)) (c := fun y => 8 + 8 * TreeExpr.total y) hw (fun r o cs x hx hw' hr hq => PTreeExpr.of hw 1048577 r o cs x (hdeep _ (by have := totS_mem TreeExpr.total hx; omega)) hr hq)
  rw [totS_eight] at b0
  rw [totS_lin] at b1 b2
  obtain ⟨m0, s0⟩ := markStringS_lv (σ0 := win lo hi σ) (σ := σ) (n := 1) (A := []) (Shp.lh (Lh.win lo hi σ)) v0 (Nat.le_refl _) (by simp only [List.length_nil]; omega)
  simp only [List.nil_append] at m0 s0
  obtain ⟨m1, s1⟩ := markTreeFunS_lv (n := 1) s0 v1 (Nat.le_refl _) (by omega)
  obtain ⟨m2, s2⟩ := markTreeExprS_lv (n := 1) s1 v2 (Nat.le_refl _) (by rw [List.length_append]; omega)
  refine ⟨l0.flatten ++ l1.flatten ++ l2.flatten, ?_, s2, by simp only [List.length_append]; omega, fun k r o hm => ?_⟩
  · refine Runs.of (W.to (fun k _ => laws_markTreeMod.eq k _ _ _ _ _) ?_)
    refine W.run m0 ?_
    try simp only [q_bind_some, castInt_int, q_castBool, q_castStr, q_castPtr, q_castFn, q_castAgg, q_castTuple, q_uncons, q_isNil, q_sl, q_nils, q_emp, q_ptr, q_nilp, q_fn, q_cond_true, q_cond_false, Bool.not_true, Bool.not_false, decide_true, decide_false, List.cons_append, List.nil_append]
    refine W.run m1 ?_
    try simp only [q_bind_some, castInt_int, q_castBool, q_castStr, q_castPtr, q_castFn, q_castAgg, q_castTuple, q_uncons, q_isNil, q_sl, q_nils, q_emp, q_ptr, q_nilp, q_fn, q_cond_true, q_cond_false, Bool.not_true, Bool.not_false, decide_true, decide_false, List.cons_append, List.nil_append]
    refine W.run m2 ?_
    try simp only [q_bind_some, castInt_int, q_castBool, q_castStr, q_castPtr, q_castFn, q_castAgg, q_castTuple, q_uncons, q_isNil, q_sl, q_nils, q_emp, q_ptr, q_nilp, q_fn, q_cond_true, q_cond_false, Bool.not_true, Bool.not_false, decide_true, decide_false, List.cons_append, List.nil_append]
    exact W.ret ⟨by simp only [List.length_append], rfl⟩
  · rcases List.mem_append.1 hm with hm | hm
    · rcases List.mem_append.1 hm with hm | hm
      · exact v0.cells (fun r o ls h => PString.cells h) k r o hm
      · exact v1.cells (fun r o ls h => PTreeFun.cells h) k r o hm
    · exact v2.cells (fun r o ls h => PTreeExpr.cells h) k r o hm
theorem Lh.winMono {lo lo' hi : Nat} {σ : Heap} (h : lo ≤ lo') : Lh (HM.win lo' hi σ) (HM.win lo hi σ) := ⟨by rw [win_length, win_length]; exact Nat.le_refl _, fun j row hj => by
  obtain ⟨⟨h1, h2⟩, h3, h4⟩ := win_get.1 hj
  exact win_get.2 ⟨⟨by omega, h2⟩, h3, h4⟩⟩
/-- And of faces behind it. -/
theorem faces_marks {lo hi : Nat} {σ : Heap} {A : List Leaf} {v : V} {l : List TypeFace} (s : Shp (win lo hi σ) (wrs σ 1 A)) (hA : A.length ≤ 33554432) (hAc : ∀ k r o, (k, r, o) ∈ A → cellAt (win lo hi σ) r o ≠ none) (h : RepS 2 (TypeFace.Rep (win lo hi σ)) (win lo hi σ) v l) (ht : l.length + totS TypeFace.total l ≤ 1048576) :
    ∃ L : List Leaf, Runs G n_laws_markTypeFaceS [v, .int .i64 ((1 + A.length : Nat) : Int)] (wrs σ 1 A) (.int .i64 ((1 + L.length : Nat) : Int)) (wrs σ 1 L) ∧ ∀ j, (j < lo ∨ hi ≤ j) → (wrs σ 1 L)[j]? = σ[j]? := by
  have hw : ∀ (r : Nat) row, (win lo hi σ)[r]? = some (some row) → row.ro = false := fun r row hr => (win_get.1 hr).2.2
  obtain ⟨ls, hlv, hb⟩ := h.lv (P := PTypeFace (win lo hi σ)) (c := fun y => 8 + 8 * TypeFace.total y) hw (fun r o cs x _ _ hr hq => PTypeFace.of r o cs x hw hr hq)
  rw [totS_lin] at hb
  obtain ⟨m, _⟩ := markTypeFaceS_lv (n := 1) s hlv (Nat.le_refl _) (by omega)
  refine ⟨A ++ ls.flatten, m, fun j hj => marked_out (τ := win lo hi σ) (fun k r o hm => ?_) fun row hrow => ?_⟩
  · rcases List.mem_append.1 hm with hm | hm
    · exact hAc k r o hm
    · exact hlv.cells (fun r o ls h => PTypeFace.cells h) k r o hm
  · obtain ⟨⟨h1, h2⟩, _⟩ := win_get.1 hrow
    omega
end Go.X
