/- The order of a graph: GraphOrder of both. -/
import Derived.Test.YtghkdjfgbaoplaaGraph1
set_option linter.unusedVariables false
set_option linter.unusedSimpArgs false
namespace Go.B
open Go.HM Go.Proofs
noncomputable def ready (out : List ByteArray) (n : GraphNode) : Bool := !decide (n.name ∈ out) && n.uses.all fun u => decide (u ∈ out)
/-- How many nodes are not in a list. -/
noncomputable def cnt (l : List GraphNode) (out : List ByteArray) : Nat := (l.filter fun n => !decide (n.name ∈ out)).length
theorem cnt_le (l : List GraphNode) (out : List ByteArray) : cnt l out ≤ l.length := List.length_filter_le _ _
theorem cnt_more : ∀ (l : List GraphNode) (out : List ByteArray) (s : ByteArray), cnt l (out ++ [s]) ≤ cnt l out
  | [], _, _ => Nat.le_refl _
  | x :: l, out, s => by
    have := cnt_more l out s
    unfold cnt at this ⊢
    rw [List.filter_cons, List.filter_cons]
    by_cases h : x.name ∈ out
    · simp [h]; simpa using this
    · by_cases h2 : x.name = s
      · subst h2; simp [h]; simp at this; omega
      · simp [h, h2]; simpa using this
theorem cnt_lt : ∀ {l : List GraphNode} {out : List ByteArray} {n : GraphNode}, n ∈ l → ¬ n.name ∈ out → cnt l (out ++ [n.name]) < cnt l out
  | x :: l, out, n, hm, hn => by
    have h0 := cnt_more l out n.name
    rcases List.mem_cons.1 hm with rfl | hm
    · unfold cnt at h0 ⊢
      rw [List.filter_cons, List.filter_cons]
      simp [hn]
      simp at h0
      omega
    · have h1 := cnt_lt hm hn
      unfold cnt at h1 ⊢
      rw [List.filter_cons, List.filter_cons]
      by_cases h : x.name ∈ out
      · simp [h]; simpa using h1
      · by_cases h2 : x.name = n.name
        · simp [hn, h2]; simp at h1; omega
        · simp [h, h2]; simpa using h1
theorem ready_not {out : List ByteArray} {n : GraphNode} (h : ready out n = true) : ¬ n.name ∈ out := by
  simp [ready] at h
  exact h.1
noncomputable def order (l : List GraphNode) (out : List ByteArray) : List ByteArray :=
  match h : l.find? (ready out) with
  | none => out
  | some n => order l (out ++ [n.name])
termination_by cnt l out
decreasing_by exact cnt_lt (List.mem_of_find?_eq_some h) (ready_not (List.find?_some h))
theorem order_none {l : List GraphNode} {out : List ByteArray} (h : l.find? (ready out) = none) : order l out = out := by
  rw [order]
  split
  · rfl
  · rename_i n hn
    rw [h] at hn; cases hn
theorem order_some {l : List GraphNode} {out : List ByteArray} {n : GraphNode} (h : l.find? (ready out) = some n) : order l out = order l (out ++ [n.name]) := by
  rw [order]
  split
  · rename_i hn
    rw [h] at hn; cases hn
  · rename_i m hm
    rw [h] at hm
    injection hm with hm
    rw [hm]
theorem find_of_fidx {α : Type} {p : α → Bool} : ∀ {l : List α} {i : Nat} {x : α}, l[i]? = some x → p x = true → (∀ (j : Nat) y, j < i → l[j]? = some y → p y = false) → l.find? p = some x
  | y :: l, 0, x, hx, hp, _ => by
    simp at hx; subst hx
    simp [hp]
  | y :: l, i + 1, x, hx, hp, h => by
    have h0 := h 0 y (by omega) rfl
    simp [h0]
    exact find_of_fidx (l := l) (i := i) (by simpa using hx) hp fun j z hj hz => h (j + 1) z (by omega) (by simpa using hz)
theorem find_none_of {α : Type} {p : α → Bool} {l : List α} (h : ∀ (j : Nat) y, l[j]? = some y → p y = false) : l.find? p = none := by
  rw [List.find?_eq_none]
  intro x hx
  obtain ⟨j, hj, rfl⟩ := List.getElem_of_mem hx
  rw [h j _ (List.getElem?_eq_getElem hj)]
  simp
theorem slices_IndexFunc_impl_GraphNode_impl_GraphNode_gives {σ : Heap} {v : V} {l : List GraphNode} (hf : l.length ≤ 1073741824) (h : RepS 2 (GraphNode.Rep σ) σ v l) (f : FuncId) (cap : List V) (p : GraphNode → Bool)
    (hx : ∀ x, x ∈ l → ∀ σ' cs, Lh σ σ' → GraphNode.Rep σ' cs x → Gives G f ([.agg cs] ++ cap) σ' (.bool (p x))) : Gives G n_slices_IndexFunc_impl_GraphNode_impl_GraphNode [v, .fn f cap] σ (.int .i64 (fidx p l)) := by
  refine Gives.of (W.to (fun k _ => slices_IndexFunc_impl_GraphNode_impl_GraphNode.eq k _ _ _) ?_)
  refine W.len h ?_
  refine W.loop (S := Nat × Heap) (fun s => s.1 ≤ l.length ∧ Lh σ s.2 ∧ ∀ (j : Nat) y, j < s.1 → l[j]? = some y → p y = false) (fun s => [.v v, .v (.fn f cap), .v (.int .i64 (l.length : Int)), .v (.int .i64 (s.1 : Int))]) (fun s => s.2) (fun s => l.length - s.1) (fun ⟨i, σi⟩ ⟨hi, hle, hok⟩ => ?_)
    (0, σ) ⟨Nat.zero_le _, Lh.refl _, fun j y hj => absurd hj (Nat.not_lt_zero _)⟩
  simp only at hi hle hok ⊢
  refine W.to (fun k _ => by rw [slices_IndexFunc_impl_GraphNode_impl_GraphNode.L0_step]) ?_
  try simp only [q_bind_some, Option.bind_assoc, castInt_int, q_castBool, q_castStr, q_castPtr, q_castFn, q_castAgg, q_castTuple, q_uncons, q_isNil, q_sl, q_nils, q_emp, q_ptr, q_nilp, q_fn, q_cond_true, q_cond_false, Bool.not_true, Bool.not_false, decide_true, decide_false, castInt_bind, castBool_bind, castStr_bind, castPtr_bind, castFn_bind, castAgg_bind, castTuple_bind, uncons_bind, isNil_bind, one_bind, cond_bind, ite_bind_, List.cons_append, List.nil_append]
  refine W.ite (fun hlt => ?_) fun hlt => ?_
  · refine W.at h hle (by omega) fun r o cs x hx' hr hP => ?_
    have hm := List.mem_of_getElem? hx'
    have hc := hx x hm σi cs hle (GraphNode.Rep.le hle hP)
    cases hP with
    | mk =>
    try simp only [q_bind_some, Option.bind_assoc, castInt_int, q_castBool, q_castStr, q_castPtr, q_castFn, q_castAgg, q_castTuple, q_uncons, q_isNil, q_sl, q_nils, q_emp, q_ptr, q_nilp, q_fn, q_cond_true, q_cond_false, Bool.not_true, Bool.not_false, decide_true, decide_false, castInt_bind, castBool_bind, castStr_bind, castPtr_bind, castFn_bind, castAgg_bind, castTuple_bind, uncons_bind, isNil_bind, one_bind, cond_bind, ite_bind_, List.cons_append, List.nil_append, hr]
    refine W.give hc fun σ1 l1 => ?_
    try simp only [q_bind_some, Option.bind_assoc, castInt_int, q_castBool, q_castStr, q_castPtr, q_castFn, q_castAgg, q_castTuple, q_uncons, q_isNil, q_sl, q_nils, q_emp, q_ptr, q_nilp, q_fn, q_cond_true, q_cond_false, Bool.not_true, Bool.not_false, decide_true, decide_false, castInt_bind, castBool_bind, castStr_bind, castPtr_bind, castFn_bind, castAgg_bind, castTuple_bind, uncons_bind, isNil_bind, one_bind, cond_bind, ite_bind_, List.cons_append, List.nil_append]
    cases hb : p x with
    | true =>
      try simp only [q_bind_some, Option.bind_assoc, castInt_int, q_castBool, q_castStr, q_castPtr, q_castFn, q_castAgg, q_castTuple, q_uncons, q_isNil, q_sl, q_nils, q_emp, q_ptr, q_nilp, q_fn, q_cond_true, q_cond_false, Bool.not_true, Bool.not_false, decide_true, decide_false, castInt_bind, castBool_bind, castStr_bind, castPtr_bind, castFn_bind, castAgg_bind, castTuple_bind, uncons_bind, isNil_bind, one_bind, cond_bind, ite_bind_, List.cons_append, List.nil_append, slices_IndexFunc_impl_GraphNode_impl_GraphNode.A0_ret]
      exact W.ret ⟨by rw [fidx_at hx' hb hok], hle.trans l1⟩
    | false =>
      try simp only [q_bind_some, Option.bind_assoc, castInt_int, q_castBool, q_castStr, q_castPtr, q_castFn, q_castAgg, q_castTuple, q_uncons, q_isNil, q_sl, q_nils, q_emp, q_ptr, q_nilp, q_fn, q_cond_true, q_cond_false, Bool.not_true, Bool.not_false, decide_true, decide_false, castInt_bind, castBool_bind, castStr_bind, castPtr_bind, castFn_bind, castAgg_bind, castTuple_bind, uncons_bind, isNil_bind, one_bind, cond_bind, ite_bind_, List.cons_append, List.nil_append, wrap_next (show i < l.length by omega) (by omega)]
      refine W.again (i + 1, σ1) ⟨by show i + 1 ≤ l.length; omega, hle.trans l1, fun j y hj hy => ?_⟩ (by simp only; omega) rfl rfl
      simp only at hj
      by_cases hij : j = i
      · subst hij
        rw [hx'] at hy
        injection hy with hy
        rw [← hy]; exact hb
      · exact hok j y (by omega) hy
  · try simp only [q_bind_some, Option.bind_assoc, castInt_int, q_castBool, q_castStr, q_castPtr, q_castFn, q_castAgg, q_castTuple, q_uncons, q_isNil, q_sl, q_nils, q_emp, q_ptr, q_nilp, q_fn, q_cond_true, q_cond_false, Bool.not_true, Bool.not_false, decide_true, decide_false, castInt_bind, castBool_bind, castStr_bind, castPtr_bind, castFn_bind, castAgg_bind, castTuple_bind, uncons_bind, isNil_bind, one_bind, cond_bind, ite_bind_, List.cons_append, List.nil_append, slices_IndexFunc_impl_GraphNode_impl_GraphNode.A0_x0]
    exact W.ret ⟨by rw [fidx_none fun j y hy => hok j y (by have := lt_of_get hy; omega) hy], hle⟩

theorem order11_runs {σ : Heap} {r : Nat} {u : V} {out : List ByteArray} (hc : Cell1 σ r u) (hlen : out.length ≤ 1073741824) (hu : RepS 1 StrRep σ u out) (s : ByteArray) : Runs G n_impl_GraphOrder_1_1 [.str s, .ptr r 0] σ (.bool (!decide (s ∈ out))) σ := by
  refine Runs.of (W.to (fun k _ => impl_GraphOrder_1_1.eq k _ _ _) ?_)
  try simp only [q_bind_some, castInt_int, q_castBool, q_castStr, q_castPtr, q_castFn, q_castAgg, q_castTuple, q_uncons, q_isNil, q_sl, q_nils, q_emp, q_ptr, q_nilp, q_fn, q_cond_true, q_cond_false, Bool.not_true, Bool.not_false, decide_true, decide_false, List.cons_append, List.nil_append, hc.rdc]
  refine W.run (slices_Contains_string_string_runs hlen hu s) ?_
  try simp only [q_bind_some, castInt_int, q_castBool, q_castStr, q_castPtr, q_castFn, q_castAgg, q_castTuple, q_uncons, q_isNil, q_sl, q_nils, q_emp, q_ptr, q_nilp, q_fn, q_cond_true, q_cond_false, Bool.not_true, Bool.not_false, decide_true, decide_false, List.cons_append, List.nil_append]
  exact W.ret ⟨rfl, rfl⟩
theorem order1_gives {σ : Heap} {r : Nat} {u : V} {out : List ByteArray} (hc : Cell1 σ r u) (hlen : out.length ≤ 1073741824) (hu : RepS 1 StrRep σ u out) {n : GraphNode} (hn : n.uses.length ≤ 1073741824) {cs : List V} (h : GraphNode.Rep σ cs n) : Gives G n_impl_GraphOrder_1 ([.agg cs] ++ [.ptr r 0]) σ (.bool (ready out n)) := by
  cases h with
  | mk h0 =>
  refine Gives.of (W.to (fun k _ => impl_GraphOrder_1.eq k _ _ _ _) ?_)
  try simp only [q_bind_some, castInt_int, q_castBool, q_castStr, q_castPtr, q_castFn, q_castAgg, q_castTuple, q_uncons, q_isNil, q_sl, q_nils, q_emp, q_ptr, q_nilp, q_fn, q_cond_true, q_cond_false, Bool.not_true, Bool.not_false, decide_true, decide_false, List.cons_append, List.nil_append, hc.rdc]
  refine W.run (slices_Contains_string_string_runs hlen hu n.name) ?_
  try simp only [q_bind_some, castInt_int, q_castBool, q_castStr, q_castPtr, q_castFn, q_castAgg, q_castTuple, q_uncons, q_isNil, q_sl, q_nils, q_emp, q_ptr, q_nilp, q_fn, q_cond_true, q_cond_false, Bool.not_true, Bool.not_false, decide_true, decide_false, List.cons_append, List.nil_append]
  by_cases hm : n.name ∈ out
  · try simp only [q_bind_some, castInt_int, q_castBool, q_castStr, q_castPtr, q_castFn, q_castAgg, q_castTuple, q_uncons, q_isNil, q_sl, q_nils, q_emp, q_ptr, q_nilp, q_fn, q_cond_true, q_cond_false, Bool.not_true, Bool.not_false, decide_true, decide_false, List.cons_append, List.nil_append, hm]
    exact W.ret ⟨by simp [ready, hm], Lh.refl _⟩
  try simp only [q_bind_some, castInt_int, q_castBool, q_castStr, q_castPtr, q_castFn, q_castAgg, q_castTuple, q_uncons, q_isNil, q_sl, q_nils, q_emp, q_ptr, q_nilp, q_fn, q_cond_true, q_cond_false, Bool.not_true, Bool.not_false, decide_true, decide_false, List.cons_append, List.nil_append, hm]
  refine W.give (slices_ContainsFunc_string_string_gives hn h0 n_impl_GraphOrder_1_1 [.ptr r 0] (fun s => !decide (s ∈ out)) fun x hx σ' hl => ⟨σ', Lh.refl _, order11_runs (hc.le hl) hlen (hu.le hl) x⟩) fun σ1 l1 => ?_
  try simp only [q_bind_some, castInt_int, q_castBool, q_castStr, q_castPtr, q_castFn, q_castAgg, q_castTuple, q_uncons, q_isNil, q_sl, q_nils, q_emp, q_ptr, q_nilp, q_fn, q_cond_true, q_cond_false, Bool.not_true, Bool.not_false, decide_true, decide_false, List.cons_append, List.nil_append]
  refine W.ret ⟨?_, l1⟩
  congr 1
  simp only [ready, hm, decide_false, Bool.not_false, Bool.true_and]
  rw [Bool.eq_iff_iff]
  simp
theorem fidx_find {l : List GraphNode} {out : List ByteArray} : (fidx (ready out) l = -1 ∧ l.find? (ready out) = none) ∨ ∃ (i : Nat) (n : GraphNode), fidx (ready out) l = (i : Int) ∧ l[i]? = some n ∧ l.find? (ready out) = some n := by
  rcases fidx_cases (p := ready out) l with ⟨h1, h2⟩ | ⟨i, x, h1, h2, h3, h4⟩
  · exact .inl ⟨h1, find_none_of fun j y hy => h2 y (List.mem_of_getElem? hy)⟩
  · exact .inr ⟨i, x, h1, h2, find_of_fidx h2 h3 h4⟩
theorem implGraphOrder_ends {σ : Heap} {v : V} {l : List GraphNode} (hf : l.length + totS GraphNode.total l ≤ 1048576) (h : RepS 2 (GraphNode.Rep σ) σ v l) :
    ∃ u σ', Runs G n_impl_GraphOrder [v] σ u σ' ∧ Lh σ σ' ∧ ((u = .nils ∧ ¬ GrOk l) ∨ (GrOk l ∧ GrS σ.length σ' u (order l []))) := by
  suffices hE : HM.Ends G n_impl_GraphOrder [v] σ (fun u σ' => Lh σ σ' ∧ ((u = .nils ∧ ¬ GrOk l) ∨ (GrOk l ∧ GrS σ.length σ' u (order l [])))) by
    obtain ⟨u, σ', hp, hr⟩ := hE
    exact ⟨u, σ', hr, hp⟩
  have huses : ∀ n, n ∈ l → n.uses.length ≤ 1073741824 := fun n hn => by
    have := totS_mem GraphNode.total hn
    rw [GraphNode.total_eq n] at this
    omega
  refine HM.Ends.mk (W.to (fun k _ => impl_GraphOrder.eq k _ _) ?_)
  refine W.give (implGraphOk_gives (by omega) h) fun σ1 l1 => ?_
  try simp only [q_bind_some, castInt_int, q_castBool, q_castStr, q_castPtr, q_castFn, q_castAgg, q_castTuple, q_uncons, q_isNil, q_sl, q_nils, q_emp, q_ptr, q_nilp, q_fn, q_cond_true, q_cond_false, Bool.not_true, Bool.not_false, decide_true, decide_false, List.cons_append, List.nil_append]
  by_cases hG : GrOk l
  rotate_left
  · try simp only [q_bind_some, castInt_int, q_castBool, q_castStr, q_castPtr, q_castFn, q_castAgg, q_castTuple, q_uncons, q_isNil, q_sl, q_nils, q_emp, q_ptr, q_nilp, q_fn, q_cond_true, q_cond_false, Bool.not_true, Bool.not_false, decide_true, decide_false, List.cons_append, List.nil_append, decide_eq_false hG]
    exact W.ret ⟨l1, .inl ⟨rfl, hG⟩⟩
  try simp only [q_bind_some, castInt_int, q_castBool, q_castStr, q_castPtr, q_castFn, q_castAgg, q_castTuple, q_uncons, q_isNil, q_sl, q_nils, q_emp, q_ptr, q_nilp, q_fn, q_cond_true, q_cond_false, Bool.not_true, Bool.not_false, decide_true, decide_false, List.cons_append, List.nil_append, decide_eq_true hG]
  have hlen1 := l1.len
  have hc0 : Cell1 (hnew (hnew σ1 1 []) 1 [.nils]) (hnew σ1 1 []).length .nils := Cell1.new _ _
  obtain ⟨σ2, hw2, hc2, hl2, hk2⟩ := hc0.put (.sl σ1.length 0 0 true)
  have hr1 : (hnew σ1 1 []).length = σ1.length + 1 := by simp [hnew]
  refine W.bind hw2 ?_
  rw [hr1] at hc2 hk2 ⊢
  have hlen2 : σ2.length = σ1.length + 2 := by rw [hl2]; simp [hnew]
  have hLh2 : Lh σ1 σ2 := ⟨by omega, fun j row hj => by
    have := get_lt hj
    rw [hk2 j (by omega), hnew, List.getElem?_append_left (by simp [hnew]; omega), hnew, List.getElem?_append_left this]
    exact hj⟩
  have hS2 : StrRow σ2 σ1.length [] := ⟨0, by rw [hk2 _ (by omega), hnew, List.getElem?_append_left (by simp [hnew]), hnew]; simp⟩
  refine W.loop (S := List ByteArray × V × Heap) (fun s => ∃ q lim, σ1.length ≤ q ∧ q ≠ σ1.length + 1 ∧ s.2.1 = .sl q 0 s.1.length lim ∧ StrRow s.2.2 q s.1 ∧ Cell1 s.2.2 (σ1.length + 1) s.2.1 ∧ Lh σ1 s.2.2 ∧ σ1.length + 2 ≤ s.2.2.length ∧ order l s.1 = order l [] ∧ s.1.length + cnt l s.1 ≤ l.length)
    (fun s => [.v v, .v (.ptr (σ1.length + 1) 0)]) (fun s => s.2.2) (fun s => cnt l s.1) (fun ⟨out, u, σi⟩ hI => ?_)
    ([], .sl σ1.length 0 0 true, σ2) ⟨σ1.length, true, Nat.le_refl _, by omega, rfl, hS2, hc2, hLh2, by simp only; omega, rfl, by simpa using cnt_le l []⟩
  obtain ⟨q, lim, hq1, hq2, hu, hS, hC, hLi, hli, ho, hcn⟩ := hI
  simp only at hu hS hC hLi hli ho hcn ⊢
  refine W.to (fun k _ => by rw [impl_GraphOrder.L0_step]) ?_
  have hRu : RepS 1 StrRep σi u out := by rw [hu]; exact hS.rep (fun _ => rfl) lim
  have hL0 := l1.trans hLi
  refine B.give (slices_IndexFunc_impl_GraphNode_impl_GraphNode_gives (by omega) (h.mono hL0 fun cs x _ hc => GraphNode.Rep.le hL0 hc) n_impl_GraphOrder_1 [.ptr (σ1.length + 1) 0] (ready out) fun x hx σ' cs hl hP => order1_gives (hC.le hl) (by omega) (hRu.le hl) (huses x hx) hP) fun σ3 l3 => ?_
  try simp only [q_bind_some, castInt_int, q_castBool, q_castStr, q_castPtr, q_castFn, q_castAgg, q_castTuple, q_uncons, q_isNil, q_sl, q_nils, q_emp, q_ptr, q_nilp, q_fn, q_cond_true, q_cond_false, Bool.not_true, Bool.not_false, decide_true, decide_false, List.cons_append, List.nil_append]
  have hC3 := hC.le l3
  have hS3 : StrRow σ3 q out := by obtain ⟨ty, hh⟩ := hS; exact ⟨ty, l3.row _ _ hh⟩
  have hL3 := hLi.trans l3
  have hl3 := l3.len
  rcases fidx_find (l := l) (out := out) with ⟨hi, hn⟩ | ⟨i, n, hi, hx, hn⟩
  · rw [hi]
    have hneg : ((-1 : Int) < 0) = True := by simp
    try simp only [q_bind_some, castInt_int, q_castBool, q_castStr, q_castPtr, q_castFn, q_castAgg, q_castTuple, q_uncons, q_isNil, q_sl, q_nils, q_emp, q_ptr, q_nilp, q_fn, q_cond_true, q_cond_false, Bool.not_true, Bool.not_false, decide_true, decide_false, List.cons_append, List.nil_append, hneg, hC3.rdc, impl_GraphOrder.A0_ret]
    refine W.ret ⟨l1.trans hL3, .inr ⟨hG, ?_⟩⟩
    rw [← ho, order_none hn]
    exact ⟨q, lim, by omega, hu, hS3⟩
  · rw [hi]
    have hneg : ¬ ((i : Int) < 0) := by omega
    have hL03 := l1.trans hL3
    obtain ⟨r, o, hv, cs, hr, hP⟩ := (h.mono hL03 fun cs x _ hc => GraphNode.Rep.le hL03 hc).at' hx
    cases hP with
    | mk q0 =>
    have e0 : rdc σ3 r (o + 0) 1 = some [.str n.name] := rdc_sub hr 0 1 (by omega)
    try simp only [q_bind_some, castInt_int, q_castBool, q_castStr, q_castPtr, q_castFn, q_castAgg, q_castTuple, q_uncons, q_isNil, q_sl, q_nils, q_emp, q_ptr, q_nilp, q_fn, q_cond_true, q_cond_false, Bool.not_true, Bool.not_false, decide_true, decide_false, List.cons_append, List.nil_append, hneg, hC3.rdc, hv, e0, unprot0]
    rw [hu]
    have hnn := ready_not (List.find?_some hn)
    have hdec := cnt_lt (List.mem_of_find?_eq_some hn) hnn
    obtain ⟨σ4, ha, hS4, hl4, hk4⟩ := GrS.app (lim := lim) hS3 n.name (by omega)
    have hC4 : Cell1 σ4 (σ1.length + 1) u := hC3.keep (hk4 _ (by omega) (by omega))
    obtain ⟨σ5, hw5, hC5, hl5, hk5⟩ := hC4.put (.sl σ3.length 0 (out ++ [n.name]).length false)
    try simp only [q_bind_some, castInt_int, q_castBool, q_castStr, q_castPtr, q_castFn, q_castAgg, q_castTuple, q_uncons, q_isNil, q_sl, q_nils, q_emp, q_ptr, q_nilp, q_fn, q_cond_true, q_cond_false, Bool.not_true, Bool.not_false, decide_true, decide_false, List.cons_append, List.nil_append, ha, hw5]
    refine W.again (out ++ [n.name], .sl σ3.length 0 (out ++ [n.name]).length false, σ5) ⟨σ3.length, false, by omega, by omega, rfl, ?_, hC5, ?_, by simp only; omega, ?_, by simp only [List.length_append, List.length_singleton]; omega⟩ hdec rfl rfl
    · exact hS4.keep (hk5 _ (by omega))
    · refine ⟨by simp only; omega, fun j row hj => ?_⟩
      have hjl := get_lt hj
      simp only
      rw [hk5 j (by omega), hk4 j (by omega) (by omega)]
      exact hL3.row _ _ hj
    · simp only
      rw [← order_some hn, ho]
theorem specReady_runs {σ : Heap} {u : V} {out : List ByteArray} (hlen : out.length ≤ 1073741824) (hu : RepS 1 StrRep σ u out) {n : GraphNode} (hn : n.uses.length ≤ 1073741824) {cs : List V} (h : GraphNode.Rep σ cs n) : Runs G n_spec_l5Ready [.agg cs, u] σ (.bool (n.uses.all fun s => decide (s ∈ out))) σ := by
  cases h with
  | mk h0 =>
  rename_i b0
  refine Runs.of (W.to (fun k _ => spec_l5Ready.eq k _ _ _ _) ?_)
  refine W.loop (S := Nat) (fun i => i ≤ n.uses.length ∧ ∀ (j : Nat) x, j < i → n.uses[j]? = some x → x ∈ out) (fun i => [.v u, .box [.str n.name, b0], .v (.int .i64 (i : Int))]) (fun _ => σ) (fun i => n.uses.length - i) (fun i ⟨hi, hok⟩ => ?_)
    0 ⟨Nat.zero_le _, fun j y hj => absurd hj (Nat.not_lt_zero _)⟩
  refine W.to (fun k _ => by rw [spec_l5Ready.L0_step]) ?_
  refine B.len h0 (B.ite (fun hlt => ?_) fun hlt => ?_)
  · refine B.at h0 (Lh.refl _) (by omega) fun r o cs x hx hr hP => ?_
    unfold StrRep at hP
    subst hP
    try simp only [q_bind_some, castInt_int, q_castBool, q_castStr, q_castPtr, q_castFn, q_castAgg, q_castTuple, q_uncons, q_isNil, q_sl, q_nils, q_emp, q_ptr, q_nilp, q_fn, q_cond_true, q_cond_false, Bool.not_true, Bool.not_false, decide_true, decide_false, List.cons_append, List.nil_append, hr]
    refine B.run (l5Has_runs hlen hu x) ?_
    try simp only [q_bind_some, castInt_int, q_castBool, q_castStr, q_castPtr, q_castFn, q_castAgg, q_castTuple, q_uncons, q_isNil, q_sl, q_nils, q_emp, q_ptr, q_nilp, q_fn, q_cond_true, q_cond_false, Bool.not_true, Bool.not_false, decide_true, decide_false, List.cons_append, List.nil_append]
    by_cases hm : x ∈ out
    · try simp only [q_bind_some, castInt_int, q_castBool, q_castStr, q_castPtr, q_castFn, q_castAgg, q_castTuple, q_uncons, q_isNil, q_sl, q_nils, q_emp, q_ptr, q_nilp, q_fn, q_cond_true, q_cond_false, Bool.not_true, Bool.not_false, decide_true, decide_false, List.cons_append, List.nil_append, hm, wrap_next (show i < n.uses.length by omega) (by omega)]
      refine W.again (i + 1) ⟨by omega, fun j y hj hy => ?_⟩ (by omega) rfl rfl
      by_cases hij : j = i
      · subst hij
        rw [hx] at hy
        injection hy with hy
        rw [← hy]; exact hm
      · exact hok j y (by omega) hy
    · try simp only [q_bind_some, castInt_int, q_castBool, q_castStr, q_castPtr, q_castFn, q_castAgg, q_castTuple, q_uncons, q_isNil, q_sl, q_nils, q_emp, q_ptr, q_nilp, q_fn, q_cond_true, q_cond_false, Bool.not_true, Bool.not_false, decide_true, decide_false, List.cons_append, List.nil_append, hm, spec_l5Ready.A0_ret]
      refine W.ret ⟨?_, rfl⟩
      rw [List.all_eq_false.2 ⟨x, List.mem_of_getElem? hx, by simp [hm]⟩]
  · try simp only [q_bind_some, castInt_int, q_castBool, q_castStr, q_castPtr, q_castFn, q_castAgg, q_castTuple, q_uncons, q_isNil, q_sl, q_nils, q_emp, q_ptr, q_nilp, q_fn, q_cond_true, q_cond_false, Bool.not_true, Bool.not_false, decide_true, decide_false, List.cons_append, List.nil_append, spec_l5Ready.A0_x0]
    refine W.ret ⟨?_, rfl⟩
    rw [List.all_eq_true.2 fun x hx => by
      obtain ⟨j, hj, rfl⟩ := List.getElem_of_mem hx
      simpa using hok j _ (by omega) (List.getElem?_eq_getElem hj)]
theorem specGraphOrder_ends {σ : Heap} {v : V} {l : List GraphNode} (hf : l.length + totS GraphNode.total l ≤ 1048576) (h : RepS 2 (GraphNode.Rep σ) σ v l) :
    ∃ u σ', Runs G n_spec_GraphOrder [v] σ u σ' ∧ Lh σ σ' ∧ GrS σ.length σ' u (if GrOk l then order l [] else []) := by
  suffices hE : HM.Ends G n_spec_GraphOrder [v] σ (fun u σ' => Lh σ σ' ∧ GrS σ.length σ' u (if GrOk l then order l [] else [])) by
    obtain ⟨u, σ', hp, hr⟩ := hE
    exact ⟨u, σ', hr, hp⟩
  have huses : ∀ n, n ∈ l → n.uses.length ≤ 1073741824 := fun n hn => by
    have := totS_mem GraphNode.total hn
    rw [GraphNode.total_eq n] at this
    omega
  refine HM.Ends.mk (W.to (fun k _ => spec_GraphOrder.eq k _ _) ?_)
  have ln : Lh σ (hnew σ 1 []) := Lh.new _ _ _
  refine W.run (specGraphOk_runs (by omega) (h.mono ln fun cs x _ hc => GraphNode.Rep.le ln hc)) ?_
  try simp only [q_bind_some, castInt_int, q_castBool, q_castStr, q_castPtr, q_castFn, q_castAgg, q_castTuple, q_uncons, q_isNil, q_sl, q_nils, q_emp, q_ptr, q_nilp, q_fn, q_cond_true, q_cond_false, Bool.not_true, Bool.not_false, decide_true, decide_false, List.cons_append, List.nil_append]
  by_cases hG : GrOk l
  rotate_left
  · try simp only [q_bind_some, castInt_int, q_castBool, q_castStr, q_castPtr, q_castFn, q_castAgg, q_castTuple, q_uncons, q_isNil, q_sl, q_nils, q_emp, q_ptr, q_nilp, q_fn, q_cond_true, q_cond_false, Bool.not_true, Bool.not_false, decide_true, decide_false, List.cons_append, List.nil_append, decide_eq_false hG]
    refine W.ret ⟨ln, ?_⟩
    rw [if_neg hG]
    exact GrS.new σ true
  try simp only [q_bind_some, castInt_int, q_castBool, q_castStr, q_castPtr, q_castFn, q_castAgg, q_castTuple, q_uncons, q_isNil, q_sl, q_nils, q_emp, q_ptr, q_nilp, q_fn, q_cond_true, q_cond_false, Bool.not_true, Bool.not_false, decide_true, decide_false, List.cons_append, List.nil_append, decide_eq_true hG]
  rw [if_pos hG]
  refine W.loop (S := List ByteArray × V × Heap × Bool) (fun s => GrS σ.length s.2.2.1 s.2.1 s.1 ∧ Lh σ s.2.2.1 ∧ order l s.1 = order l [] ∧ s.1.length + cnt l s.1 ≤ l.length ∧ (s.2.2.2 = false → l.find? (ready s.1) = none))
    (fun s => [.v v, .v s.2.1, .v (.bool s.2.2.2)]) (fun s => s.2.2.1) (fun s => 2 * cnt l s.1 + (if s.2.2.2 then 1 else 0)) (fun ⟨out, u, σi, more⟩ hI => ?_)
    ([], .sl σ.length 0 0 true, hnew σ 1 [], true) ⟨GrS.new σ true, ln, rfl, by simpa using cnt_le l [], fun h => by cases h⟩
  obtain ⟨hS, hL, ho, hcn, hmo⟩ := hI
  simp only at hS hL ho hcn hmo ⊢
  refine W.to (fun k _ => by rw [spec_GraphOrder.L0_step]) ?_
  cases more with
  | false =>
    try simp only [q_bind_some, castInt_int, q_castBool, q_castStr, q_castPtr, q_castFn, q_castAgg, q_castTuple, q_uncons, q_isNil, q_sl, q_nils, q_emp, q_ptr, q_nilp, q_fn, q_cond_true, q_cond_false, Bool.not_true, Bool.not_false, decide_true, decide_false, List.cons_append, List.nil_append, spec_GraphOrder.A0_x0]
    refine W.ret ⟨hL, ?_⟩
    rw [← ho, order_none (hmo rfl)]
    exact hS
  | true =>
    try simp only [q_bind_some, castInt_int, q_castBool, q_castStr, q_castPtr, q_castFn, q_castAgg, q_castTuple, q_uncons, q_isNil, q_sl, q_nils, q_emp, q_ptr, q_nilp, q_fn, q_cond_true, q_cond_false, Bool.not_true, Bool.not_false, decide_true, decide_false, List.cons_append, List.nil_append]
    refine B.assoc ?_
    refine W.loop (S := Nat × List ByteArray × V × Heap × Bool) (fun s => s.1 ≤ l.length ∧ GrS σ.length s.2.2.2.1 s.2.2.1 s.2.1 ∧ Lh σ s.2.2.2.1 ∧ order l s.2.1 = order l [] ∧ s.2.1.length + cnt l s.2.1 ≤ l.length ∧ (s.2.2.2.2 = false → s.2.1 = out ∧ ∀ (j : Nat) x, j < s.1 → l[j]? = some x → ready out x = false) ∧ (s.2.2.2.2 = true → cnt l s.2.1 < cnt l out))
      (fun s => [.v v, .v s.2.2.1, .v (.bool s.2.2.2.2), .v (.int .i64 (s.1 : Int))]) (fun s => s.2.2.2.1) (fun s => l.length - s.1) (fun ⟨i, out', u', σj, mo⟩ hJ => ?_)
      (0, out, u, σi, false) ⟨Nat.zero_le _, hS, hL, ho, hcn, fun _ => ⟨rfl, fun j y hj => absurd hj (Nat.not_lt_zero _)⟩, fun h => by cases h⟩
    obtain ⟨hi, hS', hL', ho', hcn', hf0, hf1⟩ := hJ
    simp only at hi hS' hL' ho' hcn' hf0 hf1 ⊢
    refine W.to (fun k _ => by rw [spec_GraphOrder.L1_step]) ?_
    have hmeas : ∀ σx : Heap, 2 * cnt l (out', u', σx, mo).1 + (if (out', u', σx, mo).2.2.2 then 1 else 0) < 2 * cnt l out + (if true then 1 else 0) := by
      intro σx
      simp only
      cases mo with
      | true => have := hf1 rfl; simp; omega
      | false => rw [(hf0 rfl).1]; simp
    refine B.len (h.mono hL' fun cs x _ hc => GraphNode.Rep.le hL' hc) (B.ite (fun hlt => ?_) fun hlt => ?_)
    rotate_left
    · try simp only [q_bind_some, castInt_int, q_castBool, q_castStr, q_castPtr, q_castFn, q_castAgg, q_castTuple, q_uncons, q_isNil, q_sl, q_nils, q_emp, q_ptr, q_nilp, q_fn, q_cond_true, q_cond_false, Bool.not_true, Bool.not_false, decide_true, decide_false, List.cons_append, List.nil_append, spec_GraphOrder.A1_x2]
      refine W.out' _ (W.again (out', u', σj, mo) ⟨hS', hL', ho', hcn', fun hm => ?_⟩ (hmeas _) rfl rfl) fun k j m => rfl
      simp only at hm ⊢
      obtain ⟨rfl, hno⟩ := hf0 hm
      exact find_none_of fun j y hy => hno j y (by have := lt_of_get hy; omega) hy
    cases mo with
    | true =>
      try simp only [q_bind_some, castInt_int, q_castBool, q_castStr, q_castPtr, q_castFn, q_castAgg, q_castTuple, q_uncons, q_isNil, q_sl, q_nils, q_emp, q_ptr, q_nilp, q_fn, q_cond_true, q_cond_false, Bool.not_true, Bool.not_false, decide_true, decide_false, List.cons_append, List.nil_append, spec_GraphOrder.A1_x2]
      exact W.out' _ (W.again (out', u', σj, true) ⟨hS', hL', ho', hcn', fun hm => by cases hm⟩ (hmeas _) rfl rfl) fun k j m => rfl
    | false =>
    obtain ⟨rfl, hno⟩ := hf0 rfl
    have hil : i < l.length := by omega
    have hx : l[i]? = some l[i] := List.getElem?_eq_getElem hil
    have hm := List.getElem_mem hil
    obtain ⟨r, o, hv, cs, hr, hP⟩ := (h.mono hL' fun cs x _ hc => GraphNode.Rep.le hL' hc).at hil
    generalize l[i] = x at hx hP hm
    have hrd : ready out' x = (!decide (x.name ∈ out') && x.uses.all fun u => decide (u ∈ out')) := rfl
    have hlen : out'.length ≤ 1073741824 := by omega
    have cr := specReady_runs hlen (hS'.rep fun _ => rfl) (huses x hm) hP
    cases hP with
    | mk q0 =>
    have e0 : rdc σj r (o + 0) 1 = some [.str x.name] := rdc_sub hr 0 1 (by omega)
    try simp only [q_bind_some, castInt_int, q_castBool, q_castStr, q_castPtr, q_castFn, q_castAgg, q_castTuple, q_uncons, q_isNil, q_sl, q_nils, q_emp, q_ptr, q_nilp, q_fn, q_cond_true, q_cond_false, Bool.not_true, Bool.not_false, decide_true, decide_false, List.cons_append, List.nil_append, hv, e0]
    refine B.run (l5Has_runs hlen (hS'.rep fun _ => rfl) x.name) ?_
    try simp only [q_bind_some, castInt_int, q_castBool, q_castStr, q_castPtr, q_castFn, q_castAgg, q_castTuple, q_uncons, q_isNil, q_sl, q_nils, q_emp, q_ptr, q_nilp, q_fn, q_cond_true, q_cond_false, Bool.not_true, Bool.not_false, decide_true, decide_false, List.cons_append, List.nil_append]
    have hno' : ready out' x = false → ∀ (j : Nat) y, j < i + 1 → l[j]? = some y → ready out' y = false := fun hb j y hj hy => by
      by_cases hij : j = i
      · subst hij
        rw [hx] at hy
        injection hy with hy
        rw [← hy]; exact hb
      · exact hno j y (by omega) hy
    by_cases hin : x.name ∈ out'
    · try simp only [q_bind_some, castInt_int, q_castBool, q_castStr, q_castPtr, q_castFn, q_castAgg, q_castTuple, q_uncons, q_isNil, q_sl, q_nils, q_emp, q_ptr, q_nilp, q_fn, q_cond_true, q_cond_false, Bool.not_true, Bool.not_false, decide_true, decide_false, List.cons_append, List.nil_append, hin, wrap_next hil (by omega)]
      exact W.again (i + 1, out', u', σj, false) ⟨by show i + 1 ≤ l.length; omega, hS', hL', ho', hcn', fun _ => ⟨rfl, hno' (by rw [hrd]; simp [hin])⟩, fun h => by cases h⟩ (by simp only; omega) rfl rfl
    try simp only [q_bind_some, castInt_int, q_castBool, q_castStr, q_castPtr, q_castFn, q_castAgg, q_castTuple, q_uncons, q_isNil, q_sl, q_nils, q_emp, q_ptr, q_nilp, q_fn, q_cond_true, q_cond_false, Bool.not_true, Bool.not_false, decide_true, decide_false, List.cons_append, List.nil_append, hin, hv, hr]
    refine B.run cr ?_
    try simp only [q_bind_some, castInt_int, q_castBool, q_castStr, q_castPtr, q_castFn, q_castAgg, q_castTuple, q_uncons, q_isNil, q_sl, q_nils, q_emp, q_ptr, q_nilp, q_fn, q_cond_true, q_cond_false, Bool.not_true, Bool.not_false, decide_true, decide_false, List.cons_append, List.nil_append]
    cases hall : x.uses.all fun u => decide (u ∈ out') with
    | false =>
      try simp only [q_bind_some, castInt_int, q_castBool, q_castStr, q_castPtr, q_castFn, q_castAgg, q_castTuple, q_uncons, q_isNil, q_sl, q_nils, q_emp, q_ptr, q_nilp, q_fn, q_cond_true, q_cond_false, Bool.not_true, Bool.not_false, decide_true, decide_false, List.cons_append, List.nil_append, wrap_next hil (by omega)]
      exact W.again (i + 1, out', u', σj, false) ⟨by show i + 1 ≤ l.length; omega, hS', hL', ho', hcn', fun _ => ⟨rfl, hno' (by rw [hrd, hall]; simp)⟩, fun h => by cases h⟩ (by simp only; omega) rfl rfl
    | true =>
      have hfind : l.find? (ready out') = some x := find_of_fidx hx (by rw [hrd, hall]; simp [hin]) hno
      have hdec := cnt_lt hm hin
      obtain ⟨v', σ'', ha, hS'', hk, _⟩ := hS'.app' x.name (by omega)
      try simp only [q_bind_some, castInt_int, q_castBool, q_castStr, q_castPtr, q_castFn, q_castAgg, q_castTuple, q_uncons, q_isNil, q_sl, q_nils, q_emp, q_ptr, q_nilp, q_fn, q_cond_true, q_cond_false, Bool.not_true, Bool.not_false, decide_true, decide_false, List.cons_append, List.nil_append, hv, e0, ha, wrap_next hil (by omega)]
      exact W.again (i + 1, out' ++ [x.name], v', σ'', true) ⟨by show i + 1 ≤ l.length; omega, hS'', hk σ (Nat.le_refl _) hL', by simp only; rw [← order_some hfind, ho'], by simp only [List.length_append, List.length_singleton]; omega, (fun h => by cases h), fun _ => hdec⟩ (by simp only; omega) rfl rfl
end Go.B
