/- Right expressions, all through. -/
import Derived.Test.YthcinellhbmcoaaQ
import Derived.Test.YthcinellhbmcoaaEF0
import Derived.Test.YthcinellhbmcoaaEF1
set_option linter.unusedVariables false
set_option linter.unusedSimpArgs false
namespace Go.X3
open Go.HM Go.Proofs
inductive Right : TreeExpr → Prop where
  | mk {e : TreeExpr} : NodeOk e → (∀ x, x ∈ e.kids → Right x) → Right e
theorem right_iff (e : TreeExpr) : Right e ↔ NodeOk e ∧ ∀ x, x ∈ e.kids → Right x := ⟨fun h => by cases h with | mk a b => exact ⟨a, b⟩, fun h => .mk h.1 h.2⟩
noncomputable instance (e : TreeExpr) : Decidable (Right e) := Classical.propDecidable _
noncomputable def has {α : Type} (P : α → Prop) (l : List α) : Bool := @decide (∃ x, x ∈ l ∧ P x) (Classical.propDecidable _)
theorem has_true {α : Type} {P : α → Prop} {l : List α} : has P l = true ↔ ∃ x, x ∈ l ∧ P x := by simp [has]
theorem has_false {α : Type} {P : α → Prop} {l : List α} : has P l = false ↔ ∀ x, x ∈ l → ¬ P x := by simp [has]
theorem containsExpr_gives {σ : Heap} {v : V} {l : List TreeExpr} (hf : l.length ≤ 9223372036854775807) (h : RepS 5 (TreeExpr.Rep σ) σ v l) (f : FuncId) (P : TreeExpr → Prop)
    (hx : ∀ x, x ∈ l → ∀ σ cs, TreeExpr.Rep σ cs x → ∃ b, (b = true ↔ P x) ∧ Gives G f [.agg cs] σ (.bool b)) : Gives G n_slices_ContainsFunc_impl_TreeExpr_impl_TreeExpr [v, .fn f []] σ (.bool (has P l)) := by
  obtain ⟨w, σ', ⟨hl, n, hn, rfl⟩, he⟩ := loop (L := slices_IndexFunc_impl_TreeExpr_impl_TreeExpr.L0) (A := slices_IndexFunc_impl_TreeExpr_impl_TreeExpr.A0) (S := Nat × Heap)
    (Inv := fun s => s.1 ≤ l.length ∧ Lh σ s.2 ∧ ∀ x, x ∈ l.take s.1 → ¬ P x) (Good := fun w σ' => Lh σ σ' ∧ ∃ n : Int, (0 ≤ n ↔ ∃ x, x ∈ l ∧ P x) ∧ w = .int .i64 n)
    (vals := fun s => [.v v, .v (.fn f []), .v (.int .i64 (l.length : Int)), .v (.int .i64 (s.1 : Int))]) (hp := fun s => s.2) (far := fun s => l.length - s.1) (fun ⟨i, σi⟩ ⟨hi, hle, hok⟩ => by
      simp only at hi hle hok ⊢
      have hle' : RepS 5 (TreeExpr.Rep σi) σi v l := h.mono hle fun cs x _ hc => TreeExpr.Rep.le hle x hc
      by_cases hlt : i < l.length
      · obtain ⟨r, o, hv, cs, hr, hP⟩ := hle'.at hlt
        have hm : l[i] ∈ l := List.getElem_mem hlt
        obtain ⟨b, hb, σ1, l1, c1⟩ := hx _ hm σi cs hP
        have ht := take_next hlt
        generalize l[i] = x at hP hm hb ht
        cases hP with
        | mk hk =>
        have hw : IntKind.wrap .i64 ((i : Int) + 1) = ((i + 1 : Nat) : Int) := wrap_id (by omega) (by omega)
        cases b with
        | true =>
          refine .inl ⟨.int .i64 (i : Int), σ1, ⟨hle.trans l1, (i : Int), ?_, rfl⟩, c1.mono fun k e1 m => ?_⟩
          · exact ⟨fun _ => ⟨x, hm, hb.1 rfl⟩, fun _ => by omega⟩
          · rw [slices_IndexFunc_impl_TreeExpr_impl_TreeExpr.L0_step]
            simp [hlt, hv, hr, e1, slices_IndexFunc_impl_TreeExpr_impl_TreeExpr.A0_ret]
        | false =>
          refine .inr ⟨(i + 1, σ1), ⟨hlt, hle.trans l1, fun y hy => ?_⟩, by simp only; omega, c1.mono fun k e1 m => ?_⟩
          · rw [ht] at hy
            rcases List.mem_append.1 hy with h1 | h1
            · exact hok y h1
            · simp at h1; rw [h1]; intro hc; have := hb.2 hc; cases this
          · rw [slices_IndexFunc_impl_TreeExpr_impl_TreeExpr.L0_step]
            simp [hlt, hv, hr, e1]
            rw [hw]
            rfl
      · refine .inl ⟨.int .i64 (-1), σi, ⟨hle, -1, ?_, rfl⟩, Ev.now fun k m => ?_⟩
        · rw [List.take_of_length_le (by omega)] at hok
          simp
          exact hok
        · rw [slices_IndexFunc_impl_TreeExpr_impl_TreeExpr.L0_step]
          simp [hlt, slices_IndexFunc_impl_TreeExpr_impl_TreeExpr.A0_x0]) (0, σ) ⟨Nat.zero_le _, Lh.refl _, fun x hx => by simp at hx⟩
  have c2 : Runs G n_slices_IndexFunc_impl_TreeExpr_impl_TreeExpr [v, .fn f []] σ (.int .i64 n) σ' := Runs.mk ((Ev.far l.length he).mono fun k ⟨e, hk⟩ => by
    rw [slices_IndexFunc_impl_TreeExpr_impl_TreeExpr.eq, h.vlen]
    exact e k (by simpa using hk))
  refine Gives.mk hl (c2.mono fun k e => ?_)
  rw [slices_ContainsFunc_impl_TreeExpr_impl_TreeExpr.eq, e]
  have : has P l = decide (0 ≤ n) := by
    by_cases h0 : 0 ≤ n
    · rw [has_true.2 (hn.1 h0)]; simp [h0]
    · rw [has_false.2 fun x hx hp => h0 (hn.2 ⟨x, hx, hp⟩)]; simp [h0]
  rw [this]
  rfl
theorem fit_kids {e : TreeExpr} (h : e.Fit) : e.kids.length ≤ 9223372036854775807 ∧ ∀ x, x ∈ e.kids → x.Fit := by cases h with | mk f0 f1 f2 f3 f4 f5 => exact ⟨f4, f5⟩
theorem isRight_gives (e : TreeExpr) (hf : e.Fit) {σ : Heap} {cs : List V} (hr : TreeExpr.Rep σ cs e) : Gives G n_impl_TreeExpr_isRight [.agg cs] σ (.bool (decide (Right e))) := by
  have ih : ∀ x, x ∈ e.kids → ∀ σ cs, TreeExpr.Rep σ cs x → ∃ b, (b = true ↔ ¬ Right x) ∧ Gives G n_impl_TreeExpr_isRight_1 [.agg cs] σ (.bool b) := fun x hx σ cs hr => by
    obtain ⟨σ1, l1, c1⟩ := isRight_gives x ((fit_kids hf).2 x hx) hr
    refine ⟨!decide (Right x), by simp, Gives.mk l1 (c1.mono fun k e1 => ?_)⟩
    cases hr with
    | mk hk =>
    rw [impl_TreeExpr_isRight_1.eq, e1]
    rfl
  obtain ⟨σ1, l1, c1⟩ := partsOk_gives hf hr
  cases hr with
  | mk h =>
  rename_i a
  by_cases hn : NodeOk e
  · obtain ⟨σ2, l2, c2⟩ := containsExpr_gives (fit_kids hf).1 (h.mono l1 fun cs x _ hc => TreeExpr.Rep.le l1 x hc) n_impl_TreeExpr_isRight_1 (fun x => ¬ Right x) ih
    refine Gives.mk (l1.trans l2) ((c1.and c2).mono fun k ⟨e1, e2⟩ => ?_)
    rw [impl_TreeExpr_isRight.eq, e1]
    simp only [Option.bind_some, castBool_bool, hn, decide_true, cond_true, e2]
    have : (!has (fun x => ¬ Right x) e.kids) = decide (Right e) := by
      by_cases hr : Right e
      · rw [has_false.2 fun x hx hp => hp (((right_iff e).1 hr).2 x hx)]; simp [hr]
      · have : has (fun x => ¬ Right x) e.kids = true := Classical.byContradiction fun hc => hr (.mk hn fun x hx => Classical.byContradiction fun hp => hc (has_true.2 ⟨x, hx, hp⟩))
        rw [this]; simp [hr]
    rw [this]
  · refine Gives.mk l1 (c1.mono fun k e1 => ?_)
    have : ¬ Right e := fun hr => hn ((right_iff e).1 hr).1
    rw [impl_TreeExpr_isRight.eq, e1]
    simp [hn, this]
termination_by SizeOf.sizeOf e
decreasing_by
  cases e
  have := List.sizeOf_lt_of_mem hx
  simp at this ⊢
  omega
theorem exprOk_gives (e : TreeExpr) (hf : e.Fit) (ht : e.total ≤ 1048576) {σ : Heap} {cs : List V} (hr : TreeExpr.Rep σ cs e) : ∃ b, (b = true ↔ e.many ≤ 150 ∧ e.deep ≤ 16 ∧ Right e) ∧ Gives G n_impl_exprOk [.agg cs] σ (.bool b) := by
  have c1 := implTreeNodes_runs e ht hr
  obtain ⟨σ2, l2, c2⟩ := isRight_gives e hf hr
  cases hr with
  | mk h =>
  by_cases h1 : e.many ≤ 150
  · by_cases h2 : e.deep ≤ 16
    · refine ⟨decide (Right e), by simp [h1, h2], Gives.mk l2 ((c1.and c2).mono fun k ⟨e1, e2⟩ => ?_)⟩
      have h1' : (e.many : Int) ≤ 150 := by omega
      have h2' : (e.deep : Int) ≤ 16 := by omega
      rw [impl_exprOk.eq]
      simp only [e1, Option.bind_some, castTuple_tuple, uncons_cons, castInt_int, isNil_nil, h1', h2', decide_true, cond_true, e2, castBool_bool]
    · refine ⟨false, by simp [h2], Gives.mk (Lh.refl σ) (c1.mono fun k e1 => ?_)⟩
      have h1' : (e.many : Int) ≤ 150 := by omega
      have h2' : ¬ (e.deep : Int) ≤ 16 := by omega
      rw [impl_exprOk.eq]
      simp only [e1, Option.bind_some, castTuple_tuple, uncons_cons, castInt_int, isNil_nil, h1', h2', decide_true, cond_true, decide_false, cond_false]
  · refine ⟨false, by simp [h1], Gives.mk (Lh.refl σ) (c1.mono fun k e1 => ?_)⟩
    have h1' : ¬ (e.many : Int) ≤ 150 := by omega
    rw [impl_exprOk.eq]
    simp only [e1, Option.bind_some, castTuple_tuple, uncons_cons, castInt_int, isNil_nil, h1', decide_false, cond_false]
theorem l2Expr_gives (e : TreeExpr) (hf : e.Fit) {σ : Heap} {cs : List V} (hr : TreeExpr.Rep σ cs e) : Gives G n_spec_l2Expr [.agg cs] σ (.bool (decide (Right e))) := by
  have ih : ∀ x, x ∈ e.kids → ∀ σ cs, TreeExpr.Rep σ cs x → Gives G n_spec_l2Expr [.agg cs] σ (.bool (decide (Right x))) := fun x hx σ cs hr => l2Expr_gives x ((fit_kids hf).2 x hx) hr
  obtain ⟨σ1, l1, c1⟩ := l2Node_gives hf hr
  have hlen := (fit_kids hf).1
  cases hr with
  | mk h =>
  rename_i a
  by_cases hn : NodeOk e
  · obtain ⟨w, σ', ⟨hl, rfl⟩, he⟩ := loop (L := spec_l2Expr.L0) (A := spec_l2Expr.A0) (S := Nat × Heap)
      (Inv := fun s => s.1 ≤ e.kids.length ∧ Lh σ s.2 ∧ ∀ x, x ∈ e.kids.take s.1 → Right x) (Good := fun w σ' => Lh σ σ' ∧ w = .bool (decide (Right e)))
      (vals := fun s => [.box [.int .i64 e.kind, .int .i64 e.num, .str e.name, .str e.mod, a], .v (.int .i64 (s.1 : Int))]) (hp := fun s => s.2) (far := fun s => e.kids.length - s.1) (fun ⟨i, σi⟩ ⟨hi, hle, hok⟩ => by
        simp only at hi hle hok ⊢
        have hle' : RepS 5 (TreeExpr.Rep σi) σi a e.kids := h.mono hle fun cs x _ hc => TreeExpr.Rep.le hle x hc
        by_cases hlt : i < e.kids.length
        · obtain ⟨r, o, hv, cs, hr, hP⟩ := hle'.at hlt
          have hm : e.kids[i] ∈ e.kids := List.getElem_mem hlt
          obtain ⟨σ2, l2, c2⟩ := ih _ hm σi cs hP
          have ht := take_next hlt
          generalize e.kids[i] = x at hP hm ht c2
          cases hP with
          | mk hk =>
          have hw : IntKind.wrap .i64 ((i : Int) + 1) = ((i + 1 : Nat) : Int) := wrap_id (by omega) (by omega)
          by_cases hR : Right x
          · refine .inr ⟨(i + 1, σ2), ⟨hlt, hle.trans l2, fun y hy => ?_⟩, by simp only; omega, c2.mono fun k e1 m => ?_⟩
            · rw [ht] at hy
              rcases List.mem_append.1 hy with h1 | h1
              · exact hok y h1
              · simp at h1; rw [h1]; exact hR
            · rw [spec_l2Expr.L0_step, hle'.vlen]
              simp [hlt, hv, hr, e1, hR]
              rw [hw]
              rfl
          · refine .inl ⟨_, σ2, ⟨hle.trans l2, rfl⟩, c2.mono fun k e1 m => ?_⟩
            have : ¬ Right e := fun hc => hR (((right_iff e).1 hc).2 x hm)
            rw [spec_l2Expr.L0_step, hle'.vlen]
            simp [hlt, hv, hr, e1, hR, spec_l2Expr.A0_ret, this]
        · refine .inl ⟨_, σi, ⟨hle, rfl⟩, Ev.now fun k m => ?_⟩
          rw [List.take_of_length_le (by omega)] at hok
          have : Right e := .mk hn hok
          rw [spec_l2Expr.L0_step, hle'.vlen]
          simp [hlt, spec_l2Expr.A0_x0, this]) (0, σ1) ⟨Nat.zero_le _, l1, fun x hx => by simp at hx⟩
    refine Gives.mk hl ((Ev.and c1 (Ev.far e.kids.length he)).mono fun k ⟨e1, e2, hk⟩ => ?_)
    rw [spec_l2Expr.eq]
    simp only [e1, Option.bind_some, castBool_bool, hn, decide_true, Bool.not_true, cond_false]
    exact e2 k (by simpa using hk)
  · refine Gives.mk l1 (c1.mono fun k e1 => ?_)
    have : ¬ Right e := fun hr => hn ((right_iff e).1 hr).1
    rw [spec_l2Expr.eq]
    simp [e1, hn, this]
termination_by SizeOf.sizeOf e
decreasing_by
  cases e
  have := List.sizeOf_lt_of_mem hx
  simp at this ⊢
  omega
end Go.X3
