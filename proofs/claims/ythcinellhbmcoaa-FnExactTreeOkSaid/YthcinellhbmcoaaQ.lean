/- Right expressions. -/
import Derived.Test.YthcinellhbmcoaaP
set_option linter.unusedVariables false
set_option linter.unusedSimpArgs false
set_option maxRecDepth 100000
set_option maxHeartbeats 2000000
namespace Go.X3
open Go.HM Go.Proofs
abbrev E0 : ByteArray := ⟨#[]⟩
def NodeOk (e : TreeExpr) : Prop :=
  (e.kind = 1 ∧ (e.kids.length : Int) = 0 ∧ e.name = E0 ∧ e.mod = E0 ∧ -99999999999999999 ≤ e.num ∧ e.num ≤ 99999999999999999) ∨
  (e.kind = 2 ∧ (e.kids.length : Int) = 0 ∧ e.name = E0 ∧ e.mod = E0 ∧ 0 ≤ e.num ∧ e.num ≤ 1) ∨
  (e.kind = 3 ∧ (e.kids.length : Int) = 0 ∧ e.num = 0 ∧ e.mod = E0 ∧ IsName e.name) ∨
  (e.kind = 4 ∧ e.num = 0 ∧ e.mod = E0 ∧ (e.kids.length : Int) = arity e.name) ∨
  (e.kind = 5 ∧ (e.kids.length : Int) = 3 ∧ e.num = 0 ∧ e.name = E0 ∧ e.mod = E0) ∨
  (e.kind = 6 ∧ (e.kids.length : Int) = 2 ∧ e.num = 0 ∧ e.mod = E0 ∧ IsName e.name) ∨
  (e.kind = 7 ∧ (e.kids.length : Int) ≤ 4 ∧ e.num = 0 ∧ IsName e.name ∧ (e.mod = E0 ∨ IsName e.mod)) ∨
  (e.kind = 8 ∧ (e.kids.length : Int) ≤ 8 ∧ e.num = 0 ∧ e.name = E0 ∧ e.mod = E0)
noncomputable instance (e : TreeExpr) : Decidable (NodeOk e) := Classical.propDecidable _
theorem partsOk_gives {σ : Heap} {e : TreeExpr} (hf : e.Fit) {cs : List V} (hr : TreeExpr.Rep σ cs e) : Gives G n_impl_TreeExpr_partsOk [.agg cs] σ (.bool (decide (NodeOk e))) := by
  cases hf with
  | mk f0 f1 f2 f3 f4 f5 =>
  cases hr with
  | mk h =>
  have hv := h.vlen
  obtain ⟨σ1, l1, c1⟩ := implLexName_gives σ e.name f2
  obtain ⟨σ2, l2, c2⟩ := implLexName_gives σ1 e.mod f3
  have c3 := isShort_runs (σ := σ) e.num
  have c4 := inRange_runs (σ := σ) e.num 0 1
  have c5 := implArity_runs (σ := σ) e.name
  by_cases k1 : e.kind = 1
  · refine Gives.mk (Lh.refl σ) (c3.mono fun k e3 => ?_)
    rw [impl_TreeExpr_partsOk.eq]
    by_cases hn : e.name = E0
    · by_cases hm : e.mod = E0
      · by_cases hs : -99999999999999999 ≤ e.num ∧ e.num ≤ 99999999999999999 <;> simp [k1, hn, hm, e3, hv, NodeOk, hs]
      · simp [k1, hn, hm, NodeOk]
    · simp [k1, hn, NodeOk]
  by_cases k2 : e.kind = 2
  · refine Gives.mk (Lh.refl σ) (c4.mono fun k e4 => ?_)
    rw [impl_TreeExpr_partsOk.eq]
    by_cases hn : e.name = E0
    · by_cases hm : e.mod = E0
      · by_cases hs : 0 ≤ e.num ∧ e.num ≤ 1 <;> simp [k2, hn, hm, e4, hv, NodeOk, hs]
      · simp [k2, hn, hm, NodeOk]
    · simp [k2, hn, NodeOk]
  by_cases h0 : e.num = 0
  rotate_left
  · refine Gives.mk (Lh.refl σ) (Ev.now fun k => ?_)
    have : ¬ NodeOk e := by simp [NodeOk, k1, k2, h0]
    rw [impl_TreeExpr_partsOk.eq]
    by_cases hn : e.name = E0 <;> simp [k1, k2, hn, h0, this]
  by_cases k3 : e.kind = 3
  · refine Gives.mk l1 (c1.mono fun k e1 => ?_)
    rw [impl_TreeExpr_partsOk.eq]
    by_cases hi : IsName e.name <;> by_cases hm : e.mod = E0 <;> by_cases hn : e.name = E0 <;> simp [k3, h0, hm, hn, e1, hv, NodeOk, hi] <;> simp_all
  by_cases k4 : e.kind = 4
  · refine Gives.mk (Lh.refl σ) (c5.mono fun k e5 => ?_)
    rw [impl_TreeExpr_partsOk.eq]
    by_cases hm : e.mod = E0 <;> by_cases hn : e.name = E0 <;> simp [k4, h0, hm, hn, e5, hv, NodeOk] <;> simp_all
  by_cases k5 : e.kind = 5
  · refine Gives.mk (Lh.refl σ) (Ev.now fun k => ?_)
    rw [impl_TreeExpr_partsOk.eq]
    by_cases hm : e.mod = E0 <;> by_cases hn : e.name = E0 <;> simp [k5, h0, hm, hn, hv, NodeOk]
  by_cases k6 : e.kind = 6
  · refine Gives.mk l1 (c1.mono fun k e1 => ?_)
    rw [impl_TreeExpr_partsOk.eq]
    by_cases hi : IsName e.name <;> by_cases hm : e.mod = E0 <;> by_cases hn : e.name = E0 <;> simp [k6, h0, hm, hn, e1, hv, NodeOk, hi] <;> simp_all
  by_cases k7 : e.kind = 7
  · by_cases hi : IsName e.name
    · by_cases hm : e.mod = E0
      · refine Gives.mk l1 (c1.mono fun k e1 => ?_)
        rw [impl_TreeExpr_partsOk.eq]
        by_cases hn : e.name = E0 <;> simp [k7, h0, hm, hn, e1, hv, NodeOk, hi] <;> simp_all
      · refine Gives.mk (l1.trans l2) ((c1.and c2).mono fun k ⟨e1, e2⟩ => ?_)
        rw [impl_TreeExpr_partsOk.eq]
        by_cases hM : IsName e.mod <;> by_cases hn : e.name = E0 <;> simp [k7, h0, hm, hn, e1, e2, hv, NodeOk, hi, hM] <;> simp_all
    · refine Gives.mk l1 (c1.mono fun k e1 => ?_)
      rw [impl_TreeExpr_partsOk.eq]
      by_cases hn : e.name = E0 <;> simp [k7, h0, hn, e1, hv, NodeOk, hi] <;> simp_all
  refine Gives.mk (Lh.refl σ) (Ev.now fun k => ?_)
  rw [impl_TreeExpr_partsOk.eq]
  by_cases k8 : e.kind = 8 <;> by_cases hm : e.mod = E0 <;> by_cases hn : e.name = E0 <;> simp [k1, k2, k3, k4, k5, k6, k7, k8, h0, hm, hn, hv, NodeOk]
theorem l2Plain_runs {σ : Heap} {n1 n2 : Int} {s3 s4 : ByteArray} {a5 : V} (b6 b7 b8 : Bool) : Runs G n_spec_l2Plain [.agg [.int .i64 n1, .int .i64 n2, .str s3, .str s4, a5], .bool b6, .bool b7, .bool b8] σ (.bool (decide ((b6 = true ∨ n2 = 0) ∧ (b7 = true ∨ s3 = E0) ∧ (b8 = true ∨ s4 = E0)))) σ := Runs.mk (Ev.now fun k => by
  rw [spec_l2Plain.eq]
  cases b6 <;> cases b7 <;> cases b8 <;> by_cases h1 : n2 = 0 <;> by_cases h2 : s3 = E0 <;> simp [h1, h2])
theorem l2Node_gives {σ : Heap} {e : TreeExpr} (hf : e.Fit) {cs : List V} (hr : TreeExpr.Rep σ cs e) : Gives G n_spec_l2Node [.agg cs] σ (.bool (decide (NodeOk e))) := by
  cases hf with
  | mk f0 f1 f2 f3 f4 f5 =>
  cases hr with
  | mk h =>
  rename_i a
  have hv := h.vlen
  obtain ⟨σ1, l1, c1⟩ := specLexName_gives σ e.name f2
  obtain ⟨σ2, l2, c2⟩ := specLexName_gives σ1 e.mod f3
  obtain ⟨σ5, l5, c5⟩ := specArity_gives σ e.name
  have c3 := l2Plain_runs (σ := σ) (n1 := e.kind) (n2 := e.num) (s3 := e.name) (s4 := e.mod) (a5 := a) true false false
  have c6 := l2Plain_runs (σ := σ) (n1 := e.kind) (n2 := e.num) (s3 := e.name) (s4 := e.mod) (a5 := a) false true false
  have c7 := l2Plain_runs (σ := σ) (n1 := e.kind) (n2 := e.num) (s3 := e.name) (s4 := e.mod) (a5 := a) false false false
  have c8 := l2Plain_runs (σ := σ) (n1 := e.kind) (n2 := e.num) (s3 := e.name) (s4 := e.mod) (a5 := a) false true true
  simp only [true_or, Bool.false_eq_true, false_or, true_and, and_true] at c3 c6 c7 c8
  have big : (e.num < 100000000000000000 ∧ -100000000000000000 < e.num) ↔ (-99999999999999999 ≤ e.num ∧ e.num ≤ 99999999999999999) := by omega
  have flag : (e.num = 0 ∨ e.num = 1) ↔ (0 ≤ e.num ∧ e.num ≤ 1) := by omega
  by_cases k1 : e.kind = 1
  · refine Gives.mk (Lh.refl σ) (c3.mono fun k e3 => ?_)
    have hN : NodeOk e ↔ ((e.kids.length : Int) = 0 ∧ e.name = E0 ∧ e.mod = E0 ∧ (e.num < 100000000000000000 ∧ -100000000000000000 < e.num)) := by rw [big]; simp [NodeOk, k1]
    rw [spec_l2Node.eq]
    simp only [hv, Option.bind_some, e3, castBool_bool]
    by_cases hl : e.kids = [] <;> by_cases hn : e.name = E0 <;> by_cases hm : e.mod = E0 <;> by_cases hs : e.num < 100000000000000000 <;> simp [k1, hl, hn, hm, hs, hN]
  by_cases k2 : e.kind = 2
  · refine Gives.mk (Lh.refl σ) (c3.mono fun k e3 => ?_)
    have hN : NodeOk e ↔ ((e.kids.length : Int) = 0 ∧ e.name = E0 ∧ e.mod = E0 ∧ (e.num = 0 ∨ e.num = 1)) := by rw [flag]; simp [NodeOk, k2]
    rw [spec_l2Node.eq]
    simp only [hv, Option.bind_some, e3, castBool_bool]
    by_cases hl : e.kids = [] <;> by_cases hn : e.name = E0 <;> by_cases hm : e.mod = E0 <;> by_cases hs : e.num = 0 <;> simp [k2, hl, hn, hm, hs, hN]
  by_cases k3 : e.kind = 3
  · have hN : NodeOk e ↔ ((e.kids.length : Int) = 0 ∧ (e.num = 0 ∧ e.mod = E0) ∧ IsName e.name) := by simp [NodeOk, k3, and_assoc]
    by_cases hl : e.kids = []
    · by_cases hp : e.num = 0 ∧ e.mod = E0
      · refine Gives.mk l1 ((c6.and c1).mono fun k ⟨e6, e1⟩ => ?_)
        rw [spec_l2Node.eq]
        simp only [hv, Option.bind_some, e6, castBool_bool, e1]
        simp [k3, hl, hp, hN]
      · refine Gives.mk (Lh.refl σ) (c6.mono fun k e6 => ?_)
        rw [spec_l2Node.eq]
        simp only [hv, Option.bind_some, e6, castBool_bool]
        simp [k3, hl, hp, hN]
    · refine Gives.mk (Lh.refl σ) (Ev.now fun k => ?_)
      rw [spec_l2Node.eq]
      simp [hv, k3, hl, hN]
  by_cases k4 : e.kind = 4
  · have hN : NodeOk e ↔ ((e.num = 0 ∧ e.mod = E0) ∧ (e.kids.length : Int) = arity e.name) := by simp [NodeOk, k4, and_assoc]
    by_cases hp : e.num = 0 ∧ e.mod = E0
    · refine Gives.mk l5 ((c6.and c5).mono fun k ⟨e6, e5⟩ => ?_)
      rw [spec_l2Node.eq]
      simp only [hv, Option.bind_some, e6, castBool_bool, e5, castInt_int]
      simp [k4, hp, hN]
    · refine Gives.mk (Lh.refl σ) (c6.mono fun k e6 => ?_)
      rw [spec_l2Node.eq]
      simp only [hv, Option.bind_some, e6, castBool_bool]
      simp [k4, hp, hN]
  by_cases k5 : e.kind = 5
  · have hN : NodeOk e ↔ ((e.kids.length : Int) = 3 ∧ (e.num = 0 ∧ e.name = E0 ∧ e.mod = E0)) := by simp [NodeOk, k5]
    refine Gives.mk (Lh.refl σ) (c7.mono fun k e7 => ?_)
    rw [spec_l2Node.eq]
    simp only [hv, Option.bind_some, e7, castBool_bool]
    by_cases hl : (e.kids.length : Int) = 3 <;> by_cases hp : e.num = 0 ∧ e.name = E0 ∧ e.mod = E0 <;> simp [k5, hl, hp, hN]
  by_cases k6 : e.kind = 6
  · have hN : NodeOk e ↔ ((e.kids.length : Int) = 2 ∧ (e.num = 0 ∧ e.mod = E0) ∧ IsName e.name) := by simp [NodeOk, k6, and_assoc]
    by_cases hl : (e.kids.length : Int) = 2
    · by_cases hp : e.num = 0 ∧ e.mod = E0
      · refine Gives.mk l1 ((c6.and c1).mono fun k ⟨e6, e1⟩ => ?_)
        rw [spec_l2Node.eq]
        simp only [hv, Option.bind_some, e6, castBool_bool, e1]
        simp [k6, hl, hp, hN]
      · refine Gives.mk (Lh.refl σ) (c6.mono fun k e6 => ?_)
        rw [spec_l2Node.eq]
        simp only [hv, Option.bind_some, e6, castBool_bool]
        simp [k6, hl, hp, hN]
    · refine Gives.mk (Lh.refl σ) (Ev.now fun k => ?_)
      rw [spec_l2Node.eq]
      simp [hv, k6, hl, hN]
  by_cases k7 : e.kind = 7
  · have hN : NodeOk e ↔ ((e.kids.length : Int) ≤ 4 ∧ e.num = 0 ∧ IsName e.name ∧ (e.mod = E0 ∨ IsName e.mod)) := by simp [NodeOk, k7]
    by_cases hl : (e.kids.length : Int) ≤ 4
    · by_cases hp : e.num = 0
      · by_cases hi : IsName e.name
        · by_cases hm : e.mod = E0
          · refine Gives.mk l1 ((c8.and c1).mono fun k ⟨e8, e1⟩ => ?_)
            rw [spec_l2Node.eq]
            simp only [hv, Option.bind_some, e8, castBool_bool, e1]
            simp [k7, hl, hp, hN, hi, hm]
          · refine Gives.mk (l1.trans l2) ((c8.and (c1.and c2)).mono fun k ⟨e8, e1, e2⟩ => ?_)
            rw [spec_l2Node.eq]
            simp only [hv, Option.bind_some, e8, castBool_bool, e1, e2]
            simp [k7, hl, hp, hN, hi, hm]
        · refine Gives.mk l1 ((c8.and c1).mono fun k ⟨e8, e1⟩ => ?_)
          rw [spec_l2Node.eq]
          simp only [hv, Option.bind_some, e8, castBool_bool, e1]
          simp [k7, hl, hp, hN, hi]
      · refine Gives.mk (Lh.refl σ) (c8.mono fun k e8 => ?_)
        rw [spec_l2Node.eq]
        simp only [hv, Option.bind_some, e8, castBool_bool]
        simp [k7, hl, hp, hN]
    · refine Gives.mk (Lh.refl σ) (Ev.now fun k => ?_)
      rw [spec_l2Node.eq]
      simp [hv, k7, hl, hN]
  refine Gives.mk (Lh.refl σ) (c7.mono fun k e7 => ?_)
  rw [spec_l2Node.eq]
  simp only [hv, Option.bind_some, e7, castBool_bool]
  by_cases k8 : e.kind = 8 <;> by_cases hl : (e.kids.length : Int) ≤ 8 <;> by_cases hp : e.num = 0 ∧ e.name = E0 ∧ e.mod = E0 <;> simp [k1, k2, k3, k4, k5, k6, k7, k8, hl, hp, NodeOk]
end Go.X3
