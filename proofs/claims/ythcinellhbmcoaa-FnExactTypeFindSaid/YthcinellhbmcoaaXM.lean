/- Lists of names, the size of expressions. -/
import Derived.Test.YthcinellhbmcoaaN
set_option linter.unusedVariables false
set_option linter.unusedSimpArgs false
namespace Go.X
open Go.HM Go.Proofs
def AllNames (l : List ByteArray) : Prop := (∀ x, x ∈ l → IsName x) ∧ l.Nodup
noncomputable instance (l : List ByteArray) : Decidable (AllNames l) := Classical.propDecidable _
theorem nodup_next {l : List ByteArray} {i : Nat} (h : i < l.length) : (l.take (i + 1)).Nodup ↔ (l.take i).Nodup ∧ ¬ l[i] ∈ l.take i := by
  rw [take_next h, List.nodup_append]
  simp
  intro _
  constructor
  · intro hc hm; exact hc _ hm rfl
  · intro hc a ha he; exact hc (he ▸ ha)
theorem AllNames.take {l : List ByteArray} (h : AllNames l) (i : Nat) : AllNames (l.take i) := ⟨fun x hx => h.1 x (List.mem_of_mem_take hx), h.2.sublist (List.take_sublist i l)⟩
theorem areNames_gives (σ : Heap) {v : V} {l : List ByteArray} (h : RepS 1 StrRep σ v l) (hf : l.length ≤ 9223372036854775807) (hx : ∀ x, x ∈ l → x.size ≤ 9223372036854775807) : Gives G n_impl_areNames [v] σ (.bool (decide (AllNames l))) := by
  obtain ⟨w, σ', ⟨hl, rfl⟩, he⟩ := loop (L := impl_areNames.L0) (A := impl_areNames.A0) (S := Nat × Heap)
    (Inv := fun s => s.1 ≤ l.length ∧ Lh σ s.2 ∧ AllNames (l.take s.1)) (Good := fun w σ' => Lh σ σ' ∧ w = .bool (decide (AllNames l)))
    (vals := fun s => [.v v, .v v, .v (.int .i64 (l.length : Int)), .v (.int .i64 (s.1 : Int))]) (hp := fun s => s.2) (far := fun s => l.length - s.1) (fun ⟨i, σi⟩ ⟨hi, hle, hok⟩ => by
      simp only at hi hle hok ⊢
      by_cases hlt : i < l.length
      · obtain ⟨r, o, hv, cs, hr, hP⟩ := (h.le hle).at hlt
        unfold StrRep at hP
        subst hP
        have hm : l[i] ∈ l := List.getElem_mem hlt
        obtain ⟨σ1, l1, c1⟩ := implLexName_gives σi l[i] (hx _ hm)
        by_cases hn : IsName l[i]
        · obtain ⟨u, hu, hR⟩ := h.first hlt
          have c2 := contains_string_runs (by rw [List.length_take]; omega) (hR.le (hle.trans l1)) l[i]
          by_cases hc : l[i] ∈ l.take i
          · refine .inl ⟨_, σ1, ⟨hle.trans l1, rfl⟩, (c1.and c2).mono fun k ⟨e1, e2⟩ m => ?_⟩
            have : ¬ AllNames l := fun ha => ((nodup_next hlt).1 (ha.take (i + 1)).2).2 hc
            rw [impl_areNames.L0_step]
            simp [hlt, hv, hr, e1, hn, hu, e2, hc, impl_areNames.A0_ret, this]
          · refine .inr ⟨(i + 1, σ1), ⟨hlt, hle.trans l1, ⟨fun x hx => ?_, (nodup_next hlt).2 ⟨hok.2, hc⟩⟩⟩, by simp only; omega, (c1.and c2).mono fun k ⟨e1, e2⟩ m => ?_⟩
            · rw [take_next hlt] at hx
              rcases List.mem_append.1 hx with h | h
              · exact hok.1 x h
              · simp at h; rw [h]; exact hn
            · have hw : IntKind.wrap .i64 ((i : Int) + 1) = ((i + 1 : Nat) : Int) := wrap_id (by omega) (by omega)
              rw [impl_areNames.L0_step]
              simp [hlt, hv, hr, e1, hn, hu, e2, hc]
              rw [hw]
              rfl
        · refine .inl ⟨_, σ1, ⟨hle.trans l1, rfl⟩, c1.mono fun k e1 m => ?_⟩
          have : ¬ AllNames l := fun ha => hn (ha.1 _ hm)
          rw [impl_areNames.L0_step]
          simp [hlt, hv, hr, e1, hn, impl_areNames.A0_ret, this]
      · refine .inl ⟨_, σi, ⟨hle, rfl⟩, Ev.now fun k m => ?_⟩
        have : AllNames l := by
          rw [List.take_of_length_le (by omega)] at hok
          exact hok
        rw [impl_areNames.L0_step]
        simp [hlt, impl_areNames.A0_x0, this]) (0, σ) ⟨Nat.zero_le _, Lh.refl _, fun x hx => by simp at hx, by simp⟩
  refine Gives.mk hl ((Ev.far l.length he).mono fun k ⟨e, hk⟩ => ?_)
  rw [impl_areNames.eq, h.vlen]
  exact e k (by simpa using hk)
theorem l2Uses_gives (σ : Heap) {v : V} {l : List ByteArray} (h : RepS 1 StrRep σ v l) (hf : l.length ≤ 9223372036854775807) (hx : ∀ x, x ∈ l → x.size ≤ 9223372036854775807) : Gives G n_spec_l2Uses [v] σ (.bool (decide (AllNames l))) := by
  -- the inner loop: whether l[i] stands among the first i
  have inner : ∀ (i : Nat) (hlt : i < l.length) (σi : Heap), Lh σ σi → Ev fun k => ∀ m0 m, i < m →
      (spec_l2Uses.L1 k m [.v v, .v (.int .i64 (i : Int)), .v (.int .i64 ((0 : Nat) : Int))] σi).bind (spec_l2Uses.A1 k m0) =
        if l[i] ∈ l.take i then some (.ret, [.v (.bool false)], σi) else spec_l2Uses.L0 k m0 [.v v, .v (.int .i64 (IntKind.wrap .i64 ((i : Int) + 1)))] σi := by
    intro i hlt σi hle
    have key : ∀ d j, j + d = i → (∀ q y, q < j → l[q]? = some y → y ≠ l[i]) → ∀ k m0 m, d < m →
        (spec_l2Uses.L1 k m [.v v, .v (.int .i64 (i : Int)), .v (.int .i64 (j : Int))] σi).bind (spec_l2Uses.A1 k m0) =
        if l[i] ∈ l.take i then some (.ret, [.v (.bool false)], σi) else spec_l2Uses.L0 k m0 [.v v, .v (.int .i64 (IntKind.wrap .i64 ((i : Int) + 1)))] σi := by
      intro d
      induction d with
      | zero =>
        intro j hj hne k m0 m hm
        obtain ⟨m, rfl⟩ : ∃ j, m = j + 1 := ⟨m - 1, by omega⟩
        have hc : ¬ l[i] ∈ l.take i := fun hc => by
          obtain ⟨q, hq, hqs⟩ := List.getElem_of_mem hc
          rw [List.getElem_take] at hqs
          rw [List.length_take] at hq
          exact hne q _ (by omega) (List.getElem?_eq_getElem (by omega)) hqs
        have : ¬ j < i := by omega
        rw [spec_l2Uses.L1_step, if_neg hc]
        simp [this, spec_l2Uses.A1_x2]
      | succ d ih =>
        intro j hj hne k m0 m hm
        obtain ⟨m, rfl⟩ : ∃ j, m = j + 1 := ⟨m - 1, by omega⟩
        have hji : j < i := by omega
        obtain ⟨r, o, hv, cs, hr, hP⟩ := (h.le hle).at (show j < l.length by omega)
        unfold StrRep at hP
        subst hP
        obtain ⟨r', o', hv', cs', hr', hP'⟩ := (h.le hle).at hlt
        unfold StrRep at hP'
        subst hP'
        rw [spec_l2Uses.L1_step]
        by_cases hs : l[j] = l[i]
        · have hc : l[i] ∈ l.take i := by
            rw [← hs]
            have : l[j] = (l.take i)[j]'(by rw [List.length_take]; omega) := by rw [List.getElem_take]
            rw [this]
            exact List.getElem_mem _
          simp [hji, hv, hr, hv', hr', hs, hc, spec_l2Uses.A1_ret]
        · have hw : IntKind.wrap .i64 ((j : Int) + 1) = ((j + 1 : Nat) : Int) := wrap_id (by omega) (by omega)
          simp only [Int.ofNat_lt, hji, decide_true, cond_true, hv, hr, hv', hr', Option.bind_some, uncons_cons, castStr_str, isNil_nil, hs, decide_false, cond_false]
          rw [hw]
          refine ih (j + 1) (by omega) (fun q y hq hy => ?_) k m0 m (by omega)
          by_cases hqj : q = j
          · subst hqj
            rw [List.getElem?_eq_getElem (by omega)] at hy
            injection hy with hy
            rw [← hy]; exact hs
          · exact hne q y (by omega) hy
    exact Ev.now fun k m0 m hm => key i 0 (by omega) (fun q y hq => absurd hq (by omega)) k m0 m hm
  obtain ⟨w, σ', ⟨hl, rfl⟩, he⟩ := loop (L := spec_l2Uses.L0) (A := spec_l2Uses.A0) (S := Nat × Heap)
    (Inv := fun s => s.1 ≤ l.length ∧ Lh σ s.2 ∧ AllNames (l.take s.1)) (Good := fun w σ' => Lh σ σ' ∧ w = .bool (decide (AllNames l)))
    (vals := fun s => [.v v, .v (.int .i64 (s.1 : Int))]) (hp := fun s => s.2) (far := fun s => l.length - s.1) (fun ⟨i, σi⟩ ⟨hi, hle, hok⟩ => by
      simp only at hi hle hok ⊢
      by_cases hlt : i < l.length
      · obtain ⟨r, o, hv, cs, hr, hP⟩ := (h.le hle).at hlt
        unfold StrRep at hP
        subst hP
        have hm : l[i] ∈ l := List.getElem_mem hlt
        obtain ⟨σ1, l1, c1⟩ := specLexName_gives σi l[i] (hx _ hm)
        by_cases hn : IsName l[i]
        · have c2 : Ev fun k => ∀ m0, (spec_l2Uses.L1 k k [.v v, .v (.int .i64 (i : Int)), .v (.int .i64 ((0 : Nat) : Int))] σ1).bind (spec_l2Uses.A1 k m0) =
              if l[i] ∈ l.take i then some (.ret, [.v (.bool false)], σ1) else spec_l2Uses.L0 k m0 [.v v, .v (.int .i64 (IntKind.wrap .i64 ((i : Int) + 1)))] σ1 :=
            (Ev.far i (inner i hlt σ1 (hle.trans l1))).mono fun k ⟨e, hk⟩ m0 => e m0 k hk
          by_cases hc : l[i] ∈ l.take i
          · refine .inl ⟨_, σ1, ⟨hle.trans l1, rfl⟩, (c1.and c2).mono fun k ⟨e1, e2⟩ m => ?_⟩
            have : ¬ AllNames l := fun ha => ((nodup_next hlt).1 (ha.take (i + 1)).2).2 hc
            rw [spec_l2Uses.L0_step, (h.le hle).vlen]
            have e3 := e2 m
            rw [if_pos hc] at e3
            simp only [Int.ofNat_lt, hlt, hv, hr, e1, hn, decide_true, cond_true, Option.bind_some, uncons_cons, castStr_str, isNil_nil, castBool_bool, Bool.not_true, cond_false]
            rw [show ((0 : Int)) = ((0 : Nat) : Int) from rfl, e3]
            simp [spec_l2Uses.A0_ret, this]
          · refine .inr ⟨(i + 1, σ1), ⟨hlt, hle.trans l1, ⟨fun x hx => ?_, (nodup_next hlt).2 ⟨hok.2, hc⟩⟩⟩, by simp only; omega, (c1.and c2).mono fun k ⟨e1, e2⟩ m => ?_⟩
            · rw [take_next hlt] at hx
              rcases List.mem_append.1 hx with h | h
              · exact hok.1 x h
              · simp at h; rw [h]; exact hn
            · have hw : IntKind.wrap .i64 ((i : Int) + 1) = ((i + 1 : Nat) : Int) := wrap_id (by omega) (by omega)
              have e3 := e2 m
              rw [if_neg hc, hw] at e3
              rw [spec_l2Uses.L0_step, (h.le hle).vlen]
              simp only [Int.ofNat_lt, hlt, hv, hr, e1, hn, decide_true, cond_true, Option.bind_some, uncons_cons, castStr_str, isNil_nil, castBool_bool, Bool.not_true, cond_false]
              rw [show ((0 : Int)) = ((0 : Nat) : Int) from rfl, e3]
        · refine .inl ⟨_, σ1, ⟨hle.trans l1, rfl⟩, c1.mono fun k e1 m => ?_⟩
          have : ¬ AllNames l := fun ha => hn (ha.1 _ hm)
          rw [spec_l2Uses.L0_step, (h.le hle).vlen]
          simp [hlt, hv, hr, e1, hn, spec_l2Uses.A0_ret, this]
      · refine .inl ⟨_, σi, ⟨hle, rfl⟩, Ev.now fun k m => ?_⟩
        have : AllNames l := by
          rw [List.take_of_length_le (by omega)] at hok
          exact hok
        rw [spec_l2Uses.L0_step, (h.le hle).vlen]
        simp [hlt, spec_l2Uses.A0_x0, this]) (0, σ) ⟨Nat.zero_le _, Lh.refl _, fun x hx => by simp at hx, by simp⟩
  refine Gives.mk hl ((Ev.far l.length he).mono fun k ⟨e, hk⟩ => ?_)
  rw [spec_l2Uses.eq]
  exact e k (by simpa using hk)
mutual
def TreeExpr.many : TreeExpr → Nat
  | ⟨_, _, _, _, kids⟩ => 1 + TreeExpr.manyS kids
def TreeExpr.manyS : List TreeExpr → Nat
  | [] => 0
  | e :: es => e.many + TreeExpr.manyS es
end
theorem TreeExpr.manyS_eq : ∀ l, TreeExpr.manyS l = totS TreeExpr.many l
  | [] => rfl
  | e :: es => by rw [TreeExpr.manyS, totS, TreeExpr.manyS_eq]
theorem TreeExpr.many_eq (e : TreeExpr) : e.many = 1 + totS TreeExpr.many e.kids := by
  cases e; rw [TreeExpr.many, TreeExpr.manyS_eq]
mutual
def TreeExpr.deep : TreeExpr → Nat
  | ⟨_, _, _, _, kids⟩ => TreeExpr.deepS kids + 1
def TreeExpr.deepS : List TreeExpr → Nat
  | [] => 0
  | e :: es => max e.deep (TreeExpr.deepS es)
end
theorem TreeExpr.deepS_eq : ∀ l, TreeExpr.deepS l = maxS TreeExpr.deep l
  | [] => rfl
  | e :: es => by rw [TreeExpr.deepS, maxS, TreeExpr.deepS_eq]
theorem TreeExpr.deep_eq (e : TreeExpr) : e.deep = maxS TreeExpr.deep e.kids + 1 := by
  cases e; rw [TreeExpr.deep, TreeExpr.deepS_eq]
theorem totS_le {α : Type} {f g : α → Nat} : ∀ (l : List α), (∀ x, x ∈ l → f x ≤ 1 + g x) → totS f l ≤ l.length + totS g l
  | [], _ => by simp [totS]
  | x :: l, h => by
    have := totS_le l (fun y hy => h y (by simp [hy]))
    have := h x (by simp)
    rw [totS, totS, List.length_cons]
    omega
theorem maxS_le {α : Type} {f g : α → Nat} : ∀ (l : List α), (∀ x, x ∈ l → f x ≤ g x) → maxS f l ≤ totS g l
  | [], _ => by simp [totS, maxS]
  | x :: l, h => by
    have := maxS_le l (fun y hy => h y (by simp [hy]))
    have := h x (by simp)
    rw [totS, maxS]
    omega
theorem TreeExpr.many_le (e : TreeExpr) : e.many ≤ 1 + e.total := by
  rw [TreeExpr.many_eq, TreeExpr.total_eq]
  have := totS_le (f := TreeExpr.many) (g := TreeExpr.total) e.kids (fun x hx => TreeExpr.many_le x)
  omega
termination_by SizeOf.sizeOf e
decreasing_by
  cases e
  have := List.sizeOf_lt_of_mem hx
  simp at this ⊢
  omega
theorem TreeExpr.deep_le (e : TreeExpr) : e.deep ≤ e.many := by
  rw [TreeExpr.many_eq, TreeExpr.deep_eq]
  have := maxS_le (f := TreeExpr.deep) (g := TreeExpr.many) e.kids (fun x hx => TreeExpr.deep_le x)
  omega
termination_by SizeOf.sizeOf e
decreasing_by
  cases e
  have := List.sizeOf_lt_of_mem hx
  simp at this ⊢
  omega
theorem TreeExpr.kid_total {e x : TreeExpr} (hx : x ∈ e.kids) : x.total ≤ e.total := by
  rw [TreeExpr.total_eq e]
  have := totS_mem TreeExpr.total hx
  omega
theorem implTreeNodes_runs (e : TreeExpr) (ht : e.total ≤ 1048576) {σ : Heap} {cs : List V} (hr : TreeExpr.Rep σ cs e) : Runs G n_impl_TreeNodes [.agg cs] σ (.tuple [.int .i64 e.many, .int .i64 e.deep]) σ := by
  have ih : ∀ x, x ∈ e.kids → ∀ cs, TreeExpr.Rep σ cs x → Runs G n_impl_TreeNodes [.agg cs] σ (.tuple [.int .i64 x.many, .int .i64 x.deep]) σ := fun x hx cs hr => implTreeNodes_runs x (Nat.le_trans (TreeExpr.kid_total hx) ht) hr
  have hm := TreeExpr.many_le e
  have hd := TreeExpr.deep_le e
  have hme := TreeExpr.many_eq e
  have hde := TreeExpr.deep_eq e
  have hl : e.kids.length ≤ 1048576 := by rw [TreeExpr.total_eq] at ht; omega
  cases hr with
  | mk h =>
  rename_i a
  obtain ⟨w, σ', ⟨rfl, rfl⟩, he⟩ := loop (L := impl_TreeNodes.L0) (A := impl_TreeNodes.A0) (S := Nat)
    (Inv := fun i => i ≤ e.kids.length) (Good := fun w σ' => σ' = σ ∧ w = .tuple [.int .i64 e.many, .int .i64 e.deep])
    (vals := fun i => [.v (.int .i64 ((1 + totS TreeExpr.many (e.kids.take i) : Nat) : Int)), .v (.int .i64 ((maxS TreeExpr.deep (e.kids.take i) : Nat) : Int)), .v a, .v (.int .i64 (e.kids.length : Int)), .v (.int .i64 (i : Int))]) (hp := fun _ => σ) (far := fun i => e.kids.length - i) (fun i hi => by
      by_cases hlt : i < e.kids.length
      · obtain ⟨r, o, hv, cs, hr, hP⟩ := h.at hlt
        have c := ih _ (List.getElem_mem hlt) cs hP
        have e1 : totS TreeExpr.many (e.kids.take (i + 1)) = totS TreeExpr.many (e.kids.take i) + e.kids[i].many := by rw [take_next hlt, totS_append]; simp [totS]
        have e2 : maxS TreeExpr.deep (e.kids.take (i + 1)) = max (maxS TreeExpr.deep (e.kids.take i)) e.kids[i].deep := by rw [take_next hlt, maxS_append]; simp [maxS]
        have b1 := totS_take_le TreeExpr.many e.kids (i + 1)
        generalize e.kids[i] = x at hP c e1 e2
        cases hP with
        | mk hk =>
        refine .inr ⟨i + 1, hlt, by omega, c.mono fun k c m => ?_⟩
        have hw : IntKind.wrap .i64 ((i : Int) + 1) = ((i + 1 : Nat) : Int) := wrap_id (by omega) (by omega)
        have hw1 : IntKind.wrap .i64 (((1 + totS TreeExpr.many (e.kids.take i) : Nat) : Int) + (x.many : Int)) = ((1 + totS TreeExpr.many (e.kids.take (i + 1)) : Nat) : Int) := by rw [wrap_id (by omega) (by omega)]; omega
        have hw2 : (if ((maxS TreeExpr.deep (e.kids.take i) : Nat) : Int) < (x.deep : Int) then (x.deep : Int) else ((maxS TreeExpr.deep (e.kids.take i) : Nat) : Int)) = ((maxS TreeExpr.deep (e.kids.take (i + 1)) : Nat) : Int) := by rw [e2]; split <;> omega
        rw [impl_TreeNodes.L0_step]
        simp only [Int.ofNat_lt, hlt, decide_true, cond_true, hv, hr, Option.bind_some, uncons_cons, castInt_int, castStr_str, isNil_nil, c, castTuple_tuple]
        rw [hw, hw1, ← hw2]
        simp only [Int.ofNat_lt]
      · refine .inl ⟨_, σ, ⟨rfl, rfl⟩, Ev.now fun k m => ?_⟩
        rw [impl_TreeNodes.L0_step]
        simp only [Int.ofNat_lt, hlt, decide_false, cond_false, Option.bind_some, impl_TreeNodes.A0_x0]
        rw [List.take_of_length_le (by omega), ← hme, wrap_id (by omega) (by omega), hde]
        rfl) 0 (Nat.zero_le _)
  refine Runs.mk ((Ev.far e.kids.length he).mono fun k ⟨e1, hk⟩ => ?_)
  rw [impl_TreeNodes.eq, h.vlen]
  exact e1 k (by simpa using hk)
termination_by SizeOf.sizeOf e
decreasing_by
  cases e
  have := List.sizeOf_lt_of_mem hx
  simp at this ⊢
  omega
theorem specTreeNodes_runs (e : TreeExpr) (ht : e.total ≤ 1048576) {σ : Heap} {cs : List V} (hr : TreeExpr.Rep σ cs e) : Runs G n_spec_TreeNodes [.agg cs] σ (.tuple [.int .i64 e.many, .int .i64 e.deep]) σ := by
  have ih : ∀ x, x ∈ e.kids → ∀ cs, TreeExpr.Rep σ cs x → Runs G n_spec_TreeNodes [.agg cs] σ (.tuple [.int .i64 x.many, .int .i64 x.deep]) σ := fun x hx cs hr => specTreeNodes_runs x (Nat.le_trans (TreeExpr.kid_total hx) ht) hr
  have hm := TreeExpr.many_le e
  have hd := TreeExpr.deep_le e
  have hme := TreeExpr.many_eq e
  have hde := TreeExpr.deep_eq e
  have hl : e.kids.length ≤ 1048576 := by rw [TreeExpr.total_eq] at ht; omega
  cases hr with
  | mk h =>
  rename_i a
  obtain ⟨w, σ', ⟨rfl, rfl⟩, he⟩ := loop (L := spec_TreeNodes.L0) (A := spec_TreeNodes.A0) (S := Nat)
    (Inv := fun i => i ≤ e.kids.length) (Good := fun w σ' => σ' = σ ∧ w = .tuple [.int .i64 e.many, .int .i64 e.deep])
    (vals := fun i => [.box [.int .i64 e.kind, .int .i64 e.num, .str e.name, .str e.mod, a], .v (.int .i64 ((1 + totS TreeExpr.many (e.kids.take i) : Nat) : Int)), .v (.int .i64 ((maxS TreeExpr.deep (e.kids.take i) : Nat) : Int)), .v (.int .i64 (i : Int))]) (hp := fun _ => σ) (far := fun i => e.kids.length - i) (fun i hi => by
      by_cases hlt : i < e.kids.length
      · obtain ⟨r, o, hv, cs, hr, hP⟩ := h.at hlt
        have c := ih _ (List.getElem_mem hlt) cs hP
        have e1 : totS TreeExpr.many (e.kids.take (i + 1)) = totS TreeExpr.many (e.kids.take i) + e.kids[i].many := by rw [take_next hlt, totS_append]; simp [totS]
        have e2 : maxS TreeExpr.deep (e.kids.take (i + 1)) = max (maxS TreeExpr.deep (e.kids.take i)) e.kids[i].deep := by rw [take_next hlt, maxS_append]; simp [maxS]
        have b1 := totS_take_le TreeExpr.many e.kids (i + 1)
        generalize e.kids[i] = x at hP c e1 e2
        cases hP with
        | mk hk =>
        refine .inr ⟨i + 1, hlt, by omega, c.mono fun k c m => ?_⟩
        have hw : IntKind.wrap .i64 ((i : Int) + 1) = ((i + 1 : Nat) : Int) := wrap_id (by omega) (by omega)
        have hw1 : IntKind.wrap .i64 (((1 + totS TreeExpr.many (e.kids.take i) : Nat) : Int) + (x.many : Int)) = ((1 + totS TreeExpr.many (e.kids.take (i + 1)) : Nat) : Int) := by rw [wrap_id (by omega) (by omega)]; omega
        rw [spec_TreeNodes.L0_step, h.vlen]
        by_cases hlt2 : maxS TreeExpr.deep (e.kids.take i) < x.deep
        · simp only [Int.ofNat_lt, hlt, decide_true, cond_true, hv, hr, Option.bind_some, uncons_cons, castInt_int, castStr_str, isNil_nil, c, castTuple_tuple, hlt2]
          rw [hw, hw1, e2, Nat.max_eq_right (by omega)]
        · simp only [Int.ofNat_lt, hlt, decide_true, cond_true, hv, hr, Option.bind_some, uncons_cons, castInt_int, castStr_str, isNil_nil, c, castTuple_tuple, hlt2, decide_false, cond_false]
          rw [hw, hw1, e2, Nat.max_eq_left (by omega)]
      · refine .inl ⟨_, σ, ⟨rfl, rfl⟩, Ev.now fun k m => ?_⟩
        rw [spec_TreeNodes.L0_step, h.vlen]
        simp only [Int.ofNat_lt, hlt, decide_false, cond_false, Option.bind_some, spec_TreeNodes.A0_x0]
        rw [List.take_of_length_le (by omega), ← hme, wrap_id (by omega) (by omega), hde]
        rfl) 0 (Nat.zero_le _)
  refine Runs.mk ((Ev.far e.kids.length he).mono fun k ⟨e1, hk⟩ => ?_)
  rw [spec_TreeNodes.eq]
  exact e1 k (by simpa using hk)
termination_by SizeOf.sizeOf e
decreasing_by
  cases e
  have := List.sizeOf_lt_of_mem hx
  simp at this ⊢
  omega
end Go.X
