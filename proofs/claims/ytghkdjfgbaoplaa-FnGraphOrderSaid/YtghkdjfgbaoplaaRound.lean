/- GraphRound and GraphBehind of both. -/
import Derived.Test.YtghkdjfgbaoplaaGrow
import Derived.Test.YtghkdjfgbaoplaaOwn
set_option linter.unusedVariables false
set_option linter.unusedSimpArgs false
namespace Go.B
open Go.HM Go.Proofs
theorem hot_or (ns out : List ByteArray) (n : GraphNode) : hot ns out n = ((n.uses.any fun s => decide (s ∈ ns)) || (n.uses.any fun s => decide (s ∈ out))) := by
  unfold hot
  rw [Bool.eq_iff_iff]
  simp only [Bool.or_eq_true, List.any_eq_true, decide_eq_true_eq]
  constructor
  · rintro ⟨x, hx, h | h⟩
    · exact .inl ⟨x, hx, h⟩
    · exact .inr ⟨x, hx, h⟩
  · rintro (⟨x, hx, h⟩ | ⟨x, hx, h⟩)
    · exact ⟨x, hx, .inl h⟩
    · exact ⟨x, hx, .inr h⟩
theorem specGrow_ends {σ : Heap} {v w : V} {l : List GraphNode} {ns : List ByteArray} (hl8 : l.length ≤ 8) (hf : l.length + totS GraphNode.total l ≤ 1048576) (hn : ns.length ≤ 1048576) (h : RepS 2 (GraphNode.Rep σ) σ v l) (hw : RepS 1 StrRep σ w ns) :
    ∃ u σ' out, Runs G n_spec_l5Grow [v, w] σ u σ' ∧ Lh σ σ' ∧ GrS σ.length σ' u out ∧ out.length ≤ l.length ∧ ∀ x, x ∈ out ↔ Beh l ns x := by
  suffices hE : HM.Ends G n_spec_l5Grow [v, w] σ (fun u σ' => ∃ out, Lh σ σ' ∧ GrS σ.length σ' u out ∧ out.length ≤ l.length ∧ ∀ x, x ∈ out ↔ Beh l ns x) by
    obtain ⟨u, σ', ⟨out, hp⟩, hr⟩ := hE
    exact ⟨u, σ', out, hr, hp⟩
  have huses : ∀ n, n ∈ l → n.uses.length ≤ 1073741824 := fun n hn => by
    have := totS_mem GraphNode.total hn
    rw [GraphNode.total_eq n] at this
    omega
  refine HM.Ends.mk (W.to (fun k _ => spec_l5Grow.eq k _ _ _) ?_)
  have ln : Lh σ (hnew σ 1 []) := Lh.new _ _ _
  refine W.loop (S := List ByteArray × V × Heap × Bool) (fun s => GrS σ.length s.2.2.1 s.2.1 s.1 ∧ Lh σ s.2.2.1 ∧ (∀ x, x ∈ s.1 → Beh l ns x) ∧ s.1.length + cnt l s.1 ≤ l.length ∧ (s.2.2.2 = false → Shut l ns s.1))
    (fun s => [.v v, .v w, .v s.2.1, .v (.bool s.2.2.2)]) (fun s => s.2.2.1) (fun s => 2 * cnt l s.1 + (if s.2.2.2 then 1 else 0)) (fun ⟨out, u, σi, more⟩ hI => ?_)
    ([], .sl σ.length 0 0 true, hnew σ 1 [], true) ⟨GrS.new σ true, ln, (fun x hx => by cases hx), by simpa using cnt_le l [], fun h => by cases h⟩
  obtain ⟨hS, hL, hb, hcn, hmo⟩ := hI
  simp only at hS hL hb hcn hmo ⊢
  refine W.to (fun k _ => by rw [spec_l5Grow.L0_step]) ?_
  cases more with
  | false =>
    try simp only [q_bind_some, castInt_int, q_castBool, q_castStr, q_castPtr, q_castFn, q_castAgg, q_castTuple, q_uncons, q_isNil, q_sl, q_nils, q_emp, q_ptr, q_nilp, q_fn, q_cond_true, q_cond_false, Bool.not_true, Bool.not_false, decide_true, decide_false, List.cons_append, List.nil_append, spec_l5Grow.A0_x0]
    exact W.ret ⟨out, hL, hS, by omega, fun x => beh_iff hb (hmo rfl) x⟩
  | true =>
  try simp only [q_bind_some, castInt_int, q_castBool, q_castStr, q_castPtr, q_castFn, q_castAgg, q_castTuple, q_uncons, q_isNil, q_sl, q_nils, q_emp, q_ptr, q_nilp, q_fn, q_cond_true, q_cond_false, Bool.not_true, Bool.not_false, decide_true, decide_false, List.cons_append, List.nil_append]
  refine B.assoc ?_
  refine W.loop (S := Nat × List ByteArray × V × Heap × Bool) (fun s => s.1 ≤ l.length ∧ GrS σ.length s.2.2.2.1 s.2.2.1 s.2.1 ∧ Lh σ s.2.2.2.1 ∧ (∀ x, x ∈ s.2.1 → Beh l ns x) ∧ s.2.1.length + cnt l s.2.1 ≤ l.length ∧ (s.2.2.2.2 = false → s.2.1 = out ∧ ∀ (j : Nat) n, j < s.1 → l[j]? = some n → hot ns out n = true → n.name ∈ out) ∧ (s.2.2.2.2 = true → cnt l s.2.1 < cnt l out))
    (fun s => [.v v, .v w, .v s.2.2.1, .v (.bool s.2.2.2.2), .v (.int .i64 (s.1 : Int))]) (fun s => s.2.2.2.1) (fun s => l.length - s.1) (fun ⟨i, out', u', σj, mo⟩ hJ => ?_)
    (0, out, u, σi, false) ⟨Nat.zero_le _, hS, hL, hb, hcn, fun _ => ⟨rfl, fun j y hj => absurd hj (Nat.not_lt_zero _)⟩, fun h => by cases h⟩
  obtain ⟨hi, hS', hL', hb', hcn', hf0, hf1⟩ := hJ
  simp only at hi hS' hL' hb' hcn' hf0 hf1 ⊢
  refine W.to (fun k _ => by rw [spec_l5Grow.L1_step]) ?_
  have hmeas : ∀ σx : Heap, 2 * cnt l (out', u', σx, mo).1 + (if (out', u', σx, mo).2.2.2 then 1 else 0) < 2 * cnt l out + (if true then 1 else 0) := by
    intro σx
    simp only
    cases mo with
    | true => have := hf1 rfl; simp; omega
    | false => rw [(hf0 rfl).1]; simp
  refine B.len (h.mono hL' fun cs x _ hc => GraphNode.Rep.le hL' hc) (B.ite (fun hlt => ?_) fun hlt => ?_)
  rotate_left
  · try simp only [q_bind_some, castInt_int, q_castBool, q_castStr, q_castPtr, q_castFn, q_castAgg, q_castTuple, q_uncons, q_isNil, q_sl, q_nils, q_emp, q_ptr, q_nilp, q_fn, q_cond_true, q_cond_false, Bool.not_true, Bool.not_false, decide_true, decide_false, List.cons_append, List.nil_append, spec_l5Grow.A1_x2]
    refine W.out' _ (W.again (out', u', σj, mo) ⟨hS', hL', hb', hcn', fun hm => ?_⟩ (hmeas _) rfl rfl) fun k j m => rfl
    simp only at hm ⊢
    obtain ⟨rfl, hno⟩ := hf0 hm
    exact fun j n hn => hno j n (by have := lt_of_get hn; omega) hn
  have hil : i < l.length := by omega
  have hx : l[i]? = some l[i] := List.getElem?_eq_getElem hil
  have hm := List.getElem_mem hil
  obtain ⟨r, o, hv, cs, hr, hP⟩ := (h.mono hL' fun cs x _ hc => GraphNode.Rep.le hL' hc).at hil
  generalize l[i] = x at hx hP hm
  cases hP with
  | mk h0 =>
  rename_i b0
  have e0 : rdc σj r (o + 0) 1 = some [.str x.name] := rdc_sub hr 0 1 (by omega)
  have hRo := hS'.rep (P := StrRep) fun _ => rfl
  have hlen : out'.length ≤ 1073741824 := by omega
  try simp only [q_bind_some, castInt_int, q_castBool, q_castStr, q_castPtr, q_castFn, q_castAgg, q_castTuple, q_uncons, q_isNil, q_sl, q_nils, q_emp, q_ptr, q_nilp, q_fn, q_cond_true, q_cond_false, Bool.not_true, Bool.not_false, decide_true, decide_false, List.cons_append, List.nil_append, hv, e0]
  refine B.run (l5Has_runs hlen hRo x.name) ?_
  try simp only [q_bind_some, castInt_int, q_castBool, q_castStr, q_castPtr, q_castFn, q_castAgg, q_castTuple, q_uncons, q_isNil, q_sl, q_nils, q_emp, q_ptr, q_nilp, q_fn, q_cond_true, q_cond_false, Bool.not_true, Bool.not_false, decide_true, decide_false, List.cons_append, List.nil_append]
  have go : (hot ns out' x = true → x.name ∈ out') → i + 1 ≤ l.length ∧ GrS σ.length σj u' out' ∧ Lh σ σj ∧ (∀ x, x ∈ out' → Beh l ns x) ∧ out'.length + cnt l out' ≤ l.length ∧ (mo = false → out' = out ∧ ∀ (j : Nat) n, j < i + 1 → l[j]? = some n → hot ns out n = true → n.name ∈ out) ∧ (mo = true → cnt l out' < cnt l out) := fun hno => ⟨hil, hS', hL', hb', hcn', fun hmf => by
    obtain ⟨rfl, hp⟩ := hf0 hmf
    refine ⟨rfl, fun j n hj hn hh => ?_⟩
    by_cases hij : j = i
    · subst hij
      rw [hx] at hn
      injection hn with hn
      subst hn
      exact hno hh
    · exact hp j n (by omega) hn hh, hf1⟩
  by_cases hin : x.name ∈ out'
  · try simp only [q_bind_some, castInt_int, q_castBool, q_castStr, q_castPtr, q_castFn, q_castAgg, q_castTuple, q_uncons, q_isNil, q_sl, q_nils, q_emp, q_ptr, q_nilp, q_fn, q_cond_true, q_cond_false, Bool.not_true, Bool.not_false, decide_true, decide_false, List.cons_append, List.nil_append, hin, wrap_next hil (by omega)]
    exact W.again (i + 1, out', u', σj, mo) (go fun _ => hin) (by simp only; omega) rfl rfl
  have hdec := cnt_lt hm hin
  have hcc : cnt l (out' ++ [x.name]) < cnt l out := by
    cases mo with
    | true => have := hf1 rfl; omega
    | false => rw [← (hf0 rfl).1]; exact hdec
  obtain ⟨v', σ'', ha, hS'', hk, _⟩ := hS'.app' x.name (by omega)
  have more : hot ns out' x = true → i + 1 ≤ l.length ∧ GrS σ.length σ'' v' (out' ++ [x.name]) ∧ Lh σ σ'' ∧ (∀ y, y ∈ out' ++ [x.name] → Beh l ns y) ∧ (out' ++ [x.name]).length + cnt l (out' ++ [x.name]) ≤ l.length ∧ (true = false → out' ++ [x.name] = out ∧ ∀ (j : Nat) n, j < i + 1 → l[j]? = some n → hot ns out n = true → n.name ∈ out) ∧ (true = true → cnt l (out' ++ [x.name]) < cnt l out) := fun hh => ⟨hil, hS'', hk σ (Nat.le_refl _) hL', fun s hs => by
    rcases List.mem_append.1 hs with hs | hs
    · exact hb' s hs
    · simp at hs
      subst hs
      exact Beh.of hb' hm hh, by simp only [List.length_append, List.length_singleton]; omega, (fun h => by cases h), fun _ => hcc⟩
  try simp only [q_bind_some, castInt_int, q_castBool, q_castStr, q_castPtr, q_castFn, q_castAgg, q_castTuple, q_uncons, q_isNil, q_sl, q_nils, q_emp, q_ptr, q_nilp, q_fn, q_cond_true, q_cond_false, Bool.not_true, Bool.not_false, decide_true, decide_false, List.cons_append, List.nil_append, hin, hv, hr]
  refine B.run (l5Uses_runs (by omega) (hw.le hL') (huses x hm) h0) ?_
  try simp only [q_bind_some, castInt_int, q_castBool, q_castStr, q_castPtr, q_castFn, q_castAgg, q_castTuple, q_uncons, q_isNil, q_sl, q_nils, q_emp, q_ptr, q_nilp, q_fn, q_cond_true, q_cond_false, Bool.not_true, Bool.not_false, decide_true, decide_false, List.cons_append, List.nil_append]
  cases ha1 : x.uses.any fun s => decide (s ∈ ns) with
  | true =>
    try simp only [q_bind_some, castInt_int, q_castBool, q_castStr, q_castPtr, q_castFn, q_castAgg, q_castTuple, q_uncons, q_isNil, q_sl, q_nils, q_emp, q_ptr, q_nilp, q_fn, q_cond_true, q_cond_false, Bool.not_true, Bool.not_false, decide_true, decide_false, List.cons_append, List.nil_append, hv, e0, ha, wrap_next hil (by omega)]
    exact W.again (i + 1, out' ++ [x.name], v', σ'', true) (more (by rw [hot_or, ha1]; rfl)) (by simp only; omega) rfl rfl
  | false =>
  try simp only [q_bind_some, castInt_int, q_castBool, q_castStr, q_castPtr, q_castFn, q_castAgg, q_castTuple, q_uncons, q_isNil, q_sl, q_nils, q_emp, q_ptr, q_nilp, q_fn, q_cond_true, q_cond_false, Bool.not_true, Bool.not_false, decide_true, decide_false, List.cons_append, List.nil_append, hv, hr]
  refine B.run (l5Uses_runs hlen hRo (huses x hm) h0) ?_
  try simp only [q_bind_some, castInt_int, q_castBool, q_castStr, q_castPtr, q_castFn, q_castAgg, q_castTuple, q_uncons, q_isNil, q_sl, q_nils, q_emp, q_ptr, q_nilp, q_fn, q_cond_true, q_cond_false, Bool.not_true, Bool.not_false, decide_true, decide_false, List.cons_append, List.nil_append]
  cases ha2 : x.uses.any fun s => decide (s ∈ out') with
  | true =>
    try simp only [q_bind_some, castInt_int, q_castBool, q_castStr, q_castPtr, q_castFn, q_castAgg, q_castTuple, q_uncons, q_isNil, q_sl, q_nils, q_emp, q_ptr, q_nilp, q_fn, q_cond_true, q_cond_false, Bool.not_true, Bool.not_false, decide_true, decide_false, List.cons_append, List.nil_append, hv, e0, ha, wrap_next hil (by omega)]
    exact W.again (i + 1, out' ++ [x.name], v', σ'', true) (more (by rw [hot_or, ha2]; simp)) (by simp only; omega) rfl rfl
  | false =>
    try simp only [q_bind_some, castInt_int, q_castBool, q_castStr, q_castPtr, q_castFn, q_castAgg, q_castTuple, q_uncons, q_isNil, q_sl, q_nils, q_emp, q_ptr, q_nilp, q_fn, q_cond_true, q_cond_false, Bool.not_true, Bool.not_false, decide_true, decide_false, List.cons_append, List.nil_append, wrap_next hil (by omega)]
    exact W.again (i + 1, out', u', σj, mo) (go (fun hc => by rw [hot_or, ha1, ha2] at hc; cases hc)) (by simp only; omega) rfl rfl
/-- The names of the nodes a test picks. -/
def pick (p : GraphNode → Bool) (l : List GraphNode) : List ByteArray := (l.filter p).map (·.name)
theorem pick_len (p : GraphNode → Bool) (l : List GraphNode) : (pick p l).length ≤ l.length := by unfold pick; rw [List.length_map]; exact List.length_filter_le _ _
theorem pick_yes {p : GraphNode → Bool} {l : List GraphNode} {i : Nat} {x : GraphNode} (hx : l[i]? = some x) (h : p x = true) : pick p (l.take (i + 1)) = pick p (l.take i) ++ [x.name] := by
  unfold pick
  rw [take_next' hx, List.filter_append, List.map_append]
  simp [h]
theorem pick_no {p : GraphNode → Bool} {l : List GraphNode} {i : Nat} {x : GraphNode} (hx : l[i]? = some x) (h : p x = false) : pick p (l.take (i + 1)) = pick p (l.take i) := by
  unfold pick
  rw [take_next' hx, List.filter_append]
  simp [h]
noncomputable def behP (l : List GraphNode) (ns : List ByteArray) (n : GraphNode) : Bool := @decide (n.name ∈ ns ∨ Beh l ns n.name) (Classical.propDecidable _)
noncomputable def rndP (l : List GraphNode) (n : GraphNode) : Bool := @decide (Beh l [n.name] n.name) (Classical.propDecidable _)
noncomputable def behOf (l : List GraphNode) (ns : List ByteArray) : List ByteArray := if GrOk l then pick (behP l ns) l else []
noncomputable def rndOf (l : List GraphNode) : List ByteArray := if GrOk l then pick (rndP l) l else []
theorem behOf_len (l : List GraphNode) (ns : List ByteArray) : (behOf l ns).length ≤ l.length := by
  unfold behOf
  split
  · exact pick_len _ _
  · exact Nat.zero_le _
theorem rndOf_len (l : List GraphNode) : (rndOf l).length ≤ l.length := by
  unfold rndOf
  split
  · exact pick_len _ _
  · exact Nat.zero_le _
theorem implGraphBehind_own {σ : Heap} {v w : V} {l : List GraphNode} {ns : List ByteArray} (hf : l.length + totS GraphNode.total l ≤ 1048576) (hn : ns.length ≤ 1048576) (h : RepS 2 (GraphNode.Rep σ) σ v l) (hw : RepS 1 StrRep σ w ns) :
    ∃ u σ', Runs G n_impl_GraphBehind [v, w] σ u σ' ∧ Lh σ σ' ∧ Own σ.length σ' u (behOf l ns) := by
  suffices hE : HM.Ends G n_impl_GraphBehind [v, w] σ (fun u σ' => Lh σ σ' ∧ Own σ.length σ' u (behOf l ns)) by
    obtain ⟨u, σ', hp, hr⟩ := hE
    exact ⟨u, σ', hr, hp⟩
  refine HM.Ends.mk (W.to (fun k _ => impl_GraphBehind.eq k _ _ _) ?_)
  refine W.give (implGraphOk_gives (by omega) h) fun σ1 l1 => ?_
  try simp only [q_bind_some, castInt_int, q_castBool, q_castStr, q_castPtr, q_castFn, q_castAgg, q_castTuple, q_uncons, q_isNil, q_sl, q_nils, q_emp, q_ptr, q_nilp, q_fn, q_cond_true, q_cond_false, Bool.not_true, Bool.not_false, decide_true, decide_false, List.cons_append, List.nil_append]
  by_cases hG : GrOk l
  rotate_left
  · try simp only [q_bind_some, castInt_int, q_castBool, q_castStr, q_castPtr, q_castFn, q_castAgg, q_castTuple, q_uncons, q_isNil, q_sl, q_nils, q_emp, q_ptr, q_nilp, q_fn, q_cond_true, q_cond_false, Bool.not_true, Bool.not_false, decide_true, decide_false, List.cons_append, List.nil_append, decide_eq_false hG]
    exact W.ret ⟨l1, .inl ⟨rfl, by rw [behOf, if_neg hG]⟩⟩
  try simp only [q_bind_some, castInt_int, q_castBool, q_castStr, q_castPtr, q_castFn, q_castAgg, q_castTuple, q_uncons, q_isNil, q_sl, q_nils, q_emp, q_ptr, q_nilp, q_fn, q_cond_true, q_cond_false, Bool.not_true, Bool.not_false, decide_true, decide_false, List.cons_append, List.nil_append, decide_eq_true hG]
  obtain ⟨ub, σ2, hot, c2, l2, r2, n2, i2⟩ := implBehind_ends hG.1 hf hn (h.mono l1 fun cs x _ hc => GraphNode.Rep.le l1 hc) (hw.le l1)
  refine W.run c2 ?_
  have ln : Lh σ2 (hnew σ2 1 []) := Lh.new _ _ _
  have l02 := l1.trans l2
  refine W.len h ?_
  have hlen := l02.len
  refine W.loop (S := Nat × V × Heap) (fun s => s.1 ≤ l.length ∧ GrS σ2.length s.2.2 s.2.1 (pick (behP l ns) (l.take s.1)) ∧ Lh σ2 s.2.2)
    (fun s => [.v w, .v ub, .v s.2.1, .v v, .v (.int .i64 (l.length : Int)), .v (.int .i64 (s.1 : Int))]) (fun s => s.2.2) (fun s => l.length - s.1) (fun ⟨i, u, σi⟩ hI => ?_)
    (0, .sl σ2.length 0 0 true, hnew σ2 1 []) ⟨Nat.zero_le _, GrS.new σ2 true, ln⟩
  obtain ⟨hi, hS, hL⟩ := hI
  simp only at hi hS hL ⊢
  refine W.to (fun k _ => by rw [impl_GraphBehind.L0_step]) ?_
  refine B.ite (fun hlt => ?_) fun hlt => ?_
  rotate_left
  · try simp only [q_bind_some, castInt_int, q_castBool, q_castStr, q_castPtr, q_castFn, q_castAgg, q_castTuple, q_uncons, q_isNil, q_sl, q_nils, q_emp, q_ptr, q_nilp, q_fn, q_cond_true, q_cond_false, Bool.not_true, Bool.not_false, decide_true, decide_false, List.cons_append, List.nil_append, impl_GraphBehind.A0_x0]
    rw [List.take_of_length_le (by omega)] at hS
    exact W.ret ⟨l02.trans hL, .inr (by rw [behOf, if_pos hG]; exact hS.down hlen)⟩
  have hil : i < l.length := by omega
  have hx : l[i]? = some l[i] := List.getElem?_eq_getElem hil
  have lA := l02.trans hL
  obtain ⟨r, o, hv, cs, hr, hP⟩ := (h.mono lA fun cs x _ hc => GraphNode.Rep.le lA hc).at hil
  generalize l[i] = x at hx hP
  cases hP with
  | mk h0 =>
  try simp only [q_bind_some, castInt_int, q_castBool, q_castStr, q_castPtr, q_castFn, q_castAgg, q_castTuple, q_uncons, q_isNil, q_sl, q_nils, q_emp, q_ptr, q_nilp, q_fn, q_cond_true, q_cond_false, Bool.not_true, Bool.not_false, decide_true, decide_false, List.cons_append, List.nil_append, hv, hr]
  refine B.run (slices_Contains_string_string_runs (by omega) (hw.le lA) x.name) ?_
  try simp only [q_bind_some, castInt_int, q_castBool, q_castStr, q_castPtr, q_castFn, q_castAgg, q_castTuple, q_uncons, q_isNil, q_sl, q_nils, q_emp, q_ptr, q_nilp, q_fn, q_cond_true, q_cond_false, Bool.not_true, Bool.not_false, decide_true, decide_false, List.cons_append, List.nil_append]
  have hpl := pick_len (behP l ns) (l.take i)
  have hpt : (l.take i).length ≤ l.length := by simp; omega
  obtain ⟨v', σ'', ha, hS'', hk, hl''⟩ := hS.app' x.name (by omega)
  by_cases hm : x.name ∈ ns
  · try simp only [q_bind_some, castInt_int, q_castBool, q_castStr, q_castPtr, q_castFn, q_castAgg, q_castTuple, q_uncons, q_isNil, q_sl, q_nils, q_emp, q_ptr, q_nilp, q_fn, q_cond_true, q_cond_false, Bool.not_true, Bool.not_false, decide_true, decide_false, List.cons_append, List.nil_append, hm, ha, wrap_next hil (by omega)]
    refine W.again (i + 1, v', σ'') ⟨hil, ?_, hk σ2 (Nat.le_refl _) hL⟩ (by simp only; omega) rfl rfl
    simp only
    rw [pick_yes hx (by unfold behP; simp [hm])]
    exact hS''
  try simp only [q_bind_some, castInt_int, q_castBool, q_castStr, q_castPtr, q_castFn, q_castAgg, q_castTuple, q_uncons, q_isNil, q_sl, q_nils, q_emp, q_ptr, q_nilp, q_fn, q_cond_true, q_cond_false, Bool.not_true, Bool.not_false, decide_true, decide_false, List.cons_append, List.nil_append, hm]
  refine B.run (slices_Contains_string_string_runs (by omega) (r2.le hL) x.name) ?_
  try simp only [q_bind_some, castInt_int, q_castBool, q_castStr, q_castPtr, q_castFn, q_castAgg, q_castTuple, q_uncons, q_isNil, q_sl, q_nils, q_emp, q_ptr, q_nilp, q_fn, q_cond_true, q_cond_false, Bool.not_true, Bool.not_false, decide_true, decide_false, List.cons_append, List.nil_append]
  by_cases hb : x.name ∈ hot
  · try simp only [q_bind_some, castInt_int, q_castBool, q_castStr, q_castPtr, q_castFn, q_castAgg, q_castTuple, q_uncons, q_isNil, q_sl, q_nils, q_emp, q_ptr, q_nilp, q_fn, q_cond_true, q_cond_false, Bool.not_true, Bool.not_false, decide_true, decide_false, List.cons_append, List.nil_append, hb, ha, wrap_next hil (by omega)]
    refine W.again (i + 1, v', σ'') ⟨hil, ?_, hk σ2 (Nat.le_refl _) hL⟩ (by simp only; omega) rfl rfl
    simp only
    rw [pick_yes hx (by unfold behP; simp [(i2 _).1 hb])]
    exact hS''
  · try simp only [q_bind_some, castInt_int, q_castBool, q_castStr, q_castPtr, q_castFn, q_castAgg, q_castTuple, q_uncons, q_isNil, q_sl, q_nils, q_emp, q_ptr, q_nilp, q_fn, q_cond_true, q_cond_false, Bool.not_true, Bool.not_false, decide_true, decide_false, List.cons_append, List.nil_append, hb, wrap_next hil (by omega)]
    refine W.again (i + 1, u, σi) ⟨hil, ?_, hL⟩ (by simp only; omega) rfl rfl
    simp only
    rw [pick_no hx (by unfold behP; simp [hm]; exact fun hc => hb ((i2 _).2 hc))]
    exact hS
theorem specGraphBehind_own {σ : Heap} {v w : V} {l : List GraphNode} {ns : List ByteArray} (hf : l.length + totS GraphNode.total l ≤ 1048576) (hn : ns.length ≤ 1048576) (h : RepS 2 (GraphNode.Rep σ) σ v l) (hw : RepS 1 StrRep σ w ns) :
    ∃ u σ', Runs G n_spec_GraphBehind [v, w] σ u σ' ∧ Lh σ σ' ∧ Own σ.length σ' u (behOf l ns) := by
  suffices hE : HM.Ends G n_spec_GraphBehind [v, w] σ (fun u σ' => Lh σ σ' ∧ Own σ.length σ' u (behOf l ns)) by
    obtain ⟨u, σ', hp, hr⟩ := hE
    exact ⟨u, σ', hr, hp⟩
  refine HM.Ends.mk (W.to (fun k _ => spec_GraphBehind.eq k _ _ _) ?_)
  have ln : Lh σ (hnew σ 1 []) := Lh.new _ _ _
  refine W.run (specGraphOk_runs (by omega) (h.mono ln fun cs x _ hc => GraphNode.Rep.le ln hc)) ?_
  try simp only [q_bind_some, Option.bind_assoc, castInt_int, q_castBool, q_castStr, q_castPtr, q_castFn, q_castAgg, q_castTuple, q_uncons, q_isNil, q_sl, q_nils, q_emp, q_ptr, q_nilp, q_fn, q_cond_true, q_cond_false, Bool.not_true, Bool.not_false, decide_true, decide_false, castInt_bind, castBool_bind, castStr_bind, castPtr_bind, castFn_bind, castAgg_bind, castTuple_bind, uncons_bind, isNil_bind, one_bind, cond_bind, ite_bind_, List.cons_append, List.nil_append]
  by_cases hG : GrOk l
  rotate_left
  · try simp only [q_bind_some, castInt_int, q_castBool, q_castStr, q_castPtr, q_castFn, q_castAgg, q_castTuple, q_uncons, q_isNil, q_sl, q_nils, q_emp, q_ptr, q_nilp, q_fn, q_cond_true, q_cond_false, Bool.not_true, Bool.not_false, decide_true, decide_false, List.cons_append, List.nil_append, decide_eq_false hG]
    refine W.ret ⟨ln, .inr ?_⟩
    rw [behOf, if_neg hG]
    exact GrS.new σ true
  try simp only [q_bind_some, castInt_int, q_castBool, q_castStr, q_castPtr, q_castFn, q_castAgg, q_castTuple, q_uncons, q_isNil, q_sl, q_nils, q_emp, q_ptr, q_nilp, q_fn, q_cond_true, q_cond_false, Bool.not_true, Bool.not_false, decide_true, decide_false, List.cons_append, List.nil_append, decide_eq_true hG]
  obtain ⟨ub, σ2, hot, c2, l2, r2, n2, i2⟩ := specGrow_ends hG.1 hf hn (h.mono ln fun cs x _ hc => GraphNode.Rep.le ln hc) (hw.le ln)
  refine W.run c2 ?_
  have l02 := ln.trans l2
  obtain ⟨qh, lh, hqh, rfl, hH⟩ := r2
  have hqs := hH.lt
  have hl1 : (hnew σ 1 []).length = σ.length + 1 := by simp [hnew]
  have hS0 : StrRow σ2 σ.length [] := ⟨0, l2.row _ _ (by simp [hnew])⟩
  refine W.loop (S := Nat × V × Heap) (fun s => s.1 ≤ l.length ∧ (∃ q lim, (q = σ.length ∨ σ2.length ≤ q) ∧ s.2.1 = .sl q 0 (pick (behP l ns) (l.take s.1)).length lim ∧ StrRow s.2.2 q (pick (behP l ns) (l.take s.1))) ∧ Lh σ s.2.2 ∧ StrRow s.2.2 qh hot ∧ σ2.length ≤ s.2.2.length)
    (fun s => [.v v, .v w, .v s.2.1, .v (.sl qh 0 hot.length lh), .v (.int .i64 (s.1 : Int))]) (fun s => s.2.2) (fun s => l.length - s.1) (fun ⟨i, u, σi⟩ hI => ?_)
    (0, .sl σ.length 0 0 true, σ2) ⟨Nat.zero_le _, ⟨σ.length, true, .inl rfl, rfl, hS0⟩, l02, hH, Nat.le_refl _⟩
  obtain ⟨hi, ⟨q, lim, hq, hu, hS⟩, hL, hH', hlen'⟩ := hI
  simp only at hi hq hu hS hL hH' hlen' ⊢
  have hR : RepS 1 StrRep σi (.sl qh 0 hot.length lh) hot := hH'.rep (fun _ => rfl) lh
  have hqn : qh ≠ q := by omega
  refine W.to (fun k _ => by rw [spec_GraphBehind.L0_step]) ?_
  refine B.len (h.mono hL fun cs x _ hc => GraphNode.Rep.le hL hc) (B.ite (fun hlt => ?_) fun hlt => ?_)
  rotate_left
  · try simp only [q_bind_some, castInt_int, q_castBool, q_castStr, q_castPtr, q_castFn, q_castAgg, q_castTuple, q_uncons, q_isNil, q_sl, q_nils, q_emp, q_ptr, q_nilp, q_fn, q_cond_true, q_cond_false, Bool.not_true, Bool.not_false, decide_true, decide_false, List.cons_append, List.nil_append, spec_GraphBehind.A0_x0]
    rw [List.take_of_length_le (by omega)] at hS hu
    exact W.ret ⟨hL, .inr (by rw [behOf, if_pos hG]; exact ⟨q, lim, by omega, hu, hS⟩)⟩
  have hil : i < l.length := by omega
  have hx : l[i]? = some l[i] := List.getElem?_eq_getElem hil
  obtain ⟨r, o, hv, cs, hr, hP⟩ := (h.mono hL fun cs x _ hc => GraphNode.Rep.le hL hc).at hil
  generalize l[i] = x at hx hP
  cases hP with
  | mk h0 =>
  have e0 : rdc σi r (o + 0) 1 = some [.str x.name] := rdc_sub hr 0 1 (by omega)
  try simp only [q_bind_some, castInt_int, q_castBool, q_castStr, q_castPtr, q_castFn, q_castAgg, q_castTuple, q_uncons, q_isNil, q_sl, q_nils, q_emp, q_ptr, q_nilp, q_fn, q_cond_true, q_cond_false, Bool.not_true, Bool.not_false, decide_true, decide_false, List.cons_append, List.nil_append, hv, e0]
  refine B.run (l5Has_runs (by omega) hR x.name) ?_
  try simp only [q_bind_some, castInt_int, q_castBool, q_castStr, q_castPtr, q_castFn, q_castAgg, q_castTuple, q_uncons, q_isNil, q_sl, q_nils, q_emp, q_ptr, q_nilp, q_fn, q_cond_true, q_cond_false, Bool.not_true, Bool.not_false, decide_true, decide_false, List.cons_append, List.nil_append]
  have hpl := pick_len (behP l ns) (l.take i)
  have hpt : (l.take i).length ≤ l.length := by simp; omega
  obtain ⟨σ4, ha, hS4, hl4, hk4⟩ := GrS.app (lim := lim) hS x.name (by omega)
  have yes : behP l ns x = true → i + 1 ≤ l.length ∧ (∃ q lim, (q = σ.length ∨ σ2.length ≤ q) ∧ V.sl σi.length 0 (pick (behP l ns) (l.take i) ++ [x.name]).length false = .sl q 0 (pick (behP l ns) (l.take (i + 1))).length lim ∧ StrRow σ4 q (pick (behP l ns) (l.take (i + 1)))) ∧ Lh σ σ4 ∧ StrRow σ4 qh hot ∧ σ2.length ≤ σ4.length := fun hp => by
    rw [pick_yes hx hp]
    refine ⟨hil, ⟨σi.length, false, .inr hlen', rfl, hS4⟩, ⟨by have := hL.len; omega, fun j row hj => ?_⟩, hH'.keep (hk4 _ hqn (by omega)), by omega⟩
    have h1 := get_lt hj
    have h2 := hL.len
    have h3 := l02.len
    rw [hk4 j (by omega) (by omega)]
    exact hL.row _ _ hj
  by_cases hb : x.name ∈ hot
  · rw [hu]
    try simp only [q_bind_some, castInt_int, q_castBool, q_castStr, q_castPtr, q_castFn, q_castAgg, q_castTuple, q_uncons, q_isNil, q_sl, q_nils, q_emp, q_ptr, q_nilp, q_fn, q_cond_true, q_cond_false, Bool.not_true, Bool.not_false, decide_true, decide_false, List.cons_append, List.nil_append, hb, hv, e0, ha, wrap_next hil (by omega)]
    exact W.again (i + 1, .sl σi.length 0 (pick (behP l ns) (l.take i) ++ [x.name]).length false, σ4) (yes (by unfold behP; simp [(i2 _).1 hb])) (by simp only; omega) rfl rfl
  try simp only [q_bind_some, castInt_int, q_castBool, q_castStr, q_castPtr, q_castFn, q_castAgg, q_castTuple, q_uncons, q_isNil, q_sl, q_nils, q_emp, q_ptr, q_nilp, q_fn, q_cond_true, q_cond_false, Bool.not_true, Bool.not_false, decide_true, decide_false, List.cons_append, List.nil_append, hb, hv, e0]
  refine B.run (l5Has_runs (by omega) (hw.le hL) x.name) ?_
  try simp only [q_bind_some, castInt_int, q_castBool, q_castStr, q_castPtr, q_castFn, q_castAgg, q_castTuple, q_uncons, q_isNil, q_sl, q_nils, q_emp, q_ptr, q_nilp, q_fn, q_cond_true, q_cond_false, Bool.not_true, Bool.not_false, decide_true, decide_false, List.cons_append, List.nil_append]
  by_cases hm : x.name ∈ ns
  · rw [hu]
    try simp only [q_bind_some, castInt_int, q_castBool, q_castStr, q_castPtr, q_castFn, q_castAgg, q_castTuple, q_uncons, q_isNil, q_sl, q_nils, q_emp, q_ptr, q_nilp, q_fn, q_cond_true, q_cond_false, Bool.not_true, Bool.not_false, decide_true, decide_false, List.cons_append, List.nil_append, hm, hv, e0, ha, wrap_next hil (by omega)]
    exact W.again (i + 1, .sl σi.length 0 (pick (behP l ns) (l.take i) ++ [x.name]).length false, σ4) (yes (by unfold behP; simp [hm])) (by simp only; omega) rfl rfl
  · try simp only [q_bind_some, castInt_int, q_castBool, q_castStr, q_castPtr, q_castFn, q_castAgg, q_castTuple, q_uncons, q_isNil, q_sl, q_nils, q_emp, q_ptr, q_nilp, q_fn, q_cond_true, q_cond_false, Bool.not_true, Bool.not_false, decide_true, decide_false, List.cons_append, List.nil_append, hm, wrap_next hil (by omega)]
    refine W.again (i + 1, u, σi) ⟨hil, ⟨q, lim, hq, ?_⟩, hL, hH', hlen'⟩ (by simp only; omega) rfl rfl
    simp only
    rw [pick_no hx (by unfold behP; simp [hm]; exact fun hc => hb ((i2 _).2 hc))]
    exact ⟨hu, hS⟩
theorem implGraphRound_own {σ : Heap} {v : V} {l : List GraphNode} (hf : l.length + totS GraphNode.total l ≤ 1048576) (h : RepS 2 (GraphNode.Rep σ) σ v l) :
    ∃ u σ', Runs G n_impl_GraphRound [v] σ u σ' ∧ Lh σ σ' ∧ Own σ.length σ' u (rndOf l) := by
  suffices hE : HM.Ends G n_impl_GraphRound [v] σ (fun u σ' => Lh σ σ' ∧ Own σ.length σ' u (rndOf l)) by
    obtain ⟨u, σ', hp, hr⟩ := hE
    exact ⟨u, σ', hr, hp⟩
  refine HM.Ends.mk (W.to (fun k _ => impl_GraphRound.eq k _ _) ?_)
  refine W.give (implGraphOk_gives (by omega) h) fun σ1 l1 => ?_
  try simp only [q_bind_some, castInt_int, q_castBool, q_castStr, q_castPtr, q_castFn, q_castAgg, q_castTuple, q_uncons, q_isNil, q_sl, q_nils, q_emp, q_ptr, q_nilp, q_fn, q_cond_true, q_cond_false, Bool.not_true, Bool.not_false, decide_true, decide_false, List.cons_append, List.nil_append]
  by_cases hG : GrOk l
  rotate_left
  · try simp only [q_bind_some, castInt_int, q_castBool, q_castStr, q_castPtr, q_castFn, q_castAgg, q_castTuple, q_uncons, q_isNil, q_sl, q_nils, q_emp, q_ptr, q_nilp, q_fn, q_cond_true, q_cond_false, Bool.not_true, Bool.not_false, decide_true, decide_false, List.cons_append, List.nil_append, decide_eq_false hG]
    exact W.ret ⟨l1, .inl ⟨rfl, by rw [rndOf, if_neg hG]⟩⟩
  try simp only [q_bind_some, castInt_int, q_castBool, q_castStr, q_castPtr, q_castFn, q_castAgg, q_castTuple, q_uncons, q_isNil, q_sl, q_nils, q_emp, q_ptr, q_nilp, q_fn, q_cond_true, q_cond_false, Bool.not_true, Bool.not_false, decide_true, decide_false, List.cons_append, List.nil_append, decide_eq_true hG]
  have ln : Lh σ1 (hnew σ1 1 []) := Lh.new _ _ _
  refine W.len h ?_
  have hlen := l1.len
  refine W.loop (S := Nat × V × Heap) (fun s => s.1 ≤ l.length ∧ GrS σ1.length s.2.2 s.2.1 (pick (rndP l) (l.take s.1)) ∧ Lh σ1 s.2.2)
    (fun s => [.v v, .v s.2.1, .v v, .v (.int .i64 (l.length : Int)), .v (.int .i64 (s.1 : Int))]) (fun s => s.2.2) (fun s => l.length - s.1) (fun ⟨i, u, σi⟩ hI => ?_)
    (0, .sl σ1.length 0 0 true, hnew σ1 1 []) ⟨Nat.zero_le _, GrS.new σ1 true, ln⟩
  obtain ⟨hi, hS, hL⟩ := hI
  simp only at hi hS hL ⊢
  refine W.to (fun k _ => by rw [impl_GraphRound.L0_step]) ?_
  refine B.ite (fun hlt => ?_) fun hlt => ?_
  rotate_left
  · try simp only [q_bind_some, castInt_int, q_castBool, q_castStr, q_castPtr, q_castFn, q_castAgg, q_castTuple, q_uncons, q_isNil, q_sl, q_nils, q_emp, q_ptr, q_nilp, q_fn, q_cond_true, q_cond_false, Bool.not_true, Bool.not_false, decide_true, decide_false, List.cons_append, List.nil_append, impl_GraphRound.A0_x0]
    rw [List.take_of_length_le (by omega)] at hS
    exact W.ret ⟨l1.trans hL, .inr (by rw [rndOf, if_pos hG]; exact hS.down hlen)⟩
  have hil : i < l.length := by omega
  have hx : l[i]? = some l[i] := List.getElem?_eq_getElem hil
  have lA := l1.trans hL
  obtain ⟨r, o, hv, cs, hr, hP⟩ := (h.mono lA fun cs x _ hc => GraphNode.Rep.le lA hc).at hil
  generalize l[i] = x at hx hP
  cases hP with
  | mk h0 =>
  try simp only [q_bind_some, castInt_int, q_castBool, q_castStr, q_castPtr, q_castFn, q_castAgg, q_castTuple, q_uncons, q_isNil, q_sl, q_nils, q_emp, q_ptr, q_nilp, q_fn, q_cond_true, q_cond_false, Bool.not_true, Bool.not_false, decide_true, decide_false, List.cons_append, List.nil_append, hv, hr]
  have lN : Lh σi (hnew σi 1 [.str x.name]) := Lh.new _ _ _
  have lB := lA.trans lN
  obtain ⟨ub, σ2, hot, c2, l2, r2, n2, i2⟩ := implBehind_ends (ns := [x.name]) hG.1 hf (by simp) (h.mono lB fun cs x _ hc => GraphNode.Rep.le lB hc) (RepS.lit (P := StrRep) σi [x.name] .str (fun _ => rfl) true 1 rfl)
  refine B.run c2 ?_
  refine B.run (slices_Contains_string_string_runs (by omega) r2 x.name) ?_
  try simp only [q_bind_some, castInt_int, q_castBool, q_castStr, q_castPtr, q_castFn, q_castAgg, q_castTuple, q_uncons, q_isNil, q_sl, q_nils, q_emp, q_ptr, q_nilp, q_fn, q_cond_true, q_cond_false, Bool.not_true, Bool.not_false, decide_true, decide_false, List.cons_append, List.nil_append]
  have hpl := pick_len (rndP l) (l.take i)
  have hpt : (l.take i).length ≤ l.length := by simp; omega
  have l12 := hL.trans (lN.trans l2)
  obtain ⟨v', σ'', ha, hS'', hk, hl''⟩ := (hS.le (lN.trans l2)).app' x.name (by omega)
  by_cases hb : x.name ∈ hot
  · try simp only [q_bind_some, castInt_int, q_castBool, q_castStr, q_castPtr, q_castFn, q_castAgg, q_castTuple, q_uncons, q_isNil, q_sl, q_nils, q_emp, q_ptr, q_nilp, q_fn, q_cond_true, q_cond_false, Bool.not_true, Bool.not_false, decide_true, decide_false, List.cons_append, List.nil_append, hb, ha, wrap_next hil (by omega)]
    refine W.again (i + 1, v', σ'') ⟨hil, ?_, hk σ1 (Nat.le_refl _) l12⟩ (by simp only; omega) rfl rfl
    simp only
    rw [pick_yes hx (by unfold rndP; simp [(i2 _).1 hb])]
    exact hS''
  · try simp only [q_bind_some, castInt_int, q_castBool, q_castStr, q_castPtr, q_castFn, q_castAgg, q_castTuple, q_uncons, q_isNil, q_sl, q_nils, q_emp, q_ptr, q_nilp, q_fn, q_cond_true, q_cond_false, Bool.not_true, Bool.not_false, decide_true, decide_false, List.cons_append, List.nil_append, hb, wrap_next hil (by omega)]
    refine W.again (i + 1, u, σ2) ⟨hil, ?_, l12⟩ (by simp only; omega) rfl rfl
    simp only
    rw [pick_no hx (by unfold rndP; simp; exact fun hc => hb ((i2 _).2 hc))]
    exact hS.le (lN.trans l2)
theorem specGraphRound_own {σ : Heap} {v : V} {l : List GraphNode} (hf : l.length + totS GraphNode.total l ≤ 1048576) (h : RepS 2 (GraphNode.Rep σ) σ v l) :
    ∃ u σ', Runs G n_spec_GraphRound [v] σ u σ' ∧ Lh σ σ' ∧ Own σ.length σ' u (rndOf l) := by
  suffices hE : HM.Ends G n_spec_GraphRound [v] σ (fun u σ' => Lh σ σ' ∧ Own σ.length σ' u (rndOf l)) by
    obtain ⟨u, σ', hp, hr⟩ := hE
    exact ⟨u, σ', hr, hp⟩
  refine HM.Ends.mk (W.to (fun k _ => spec_GraphRound.eq k _ _) ?_)
  have ln : Lh σ (hnew σ 1 []) := Lh.new _ _ _
  refine W.run (specGraphOk_runs (by omega) (h.mono ln fun cs x _ hc => GraphNode.Rep.le ln hc)) ?_
  try simp only [q_bind_some, Option.bind_assoc, castInt_int, q_castBool, q_castStr, q_castPtr, q_castFn, q_castAgg, q_castTuple, q_uncons, q_isNil, q_sl, q_nils, q_emp, q_ptr, q_nilp, q_fn, q_cond_true, q_cond_false, Bool.not_true, Bool.not_false, decide_true, decide_false, castInt_bind, castBool_bind, castStr_bind, castPtr_bind, castFn_bind, castAgg_bind, castTuple_bind, uncons_bind, isNil_bind, one_bind, cond_bind, ite_bind_, List.cons_append, List.nil_append]
  by_cases hG : GrOk l
  rotate_left
  · try simp only [q_bind_some, castInt_int, q_castBool, q_castStr, q_castPtr, q_castFn, q_castAgg, q_castTuple, q_uncons, q_isNil, q_sl, q_nils, q_emp, q_ptr, q_nilp, q_fn, q_cond_true, q_cond_false, Bool.not_true, Bool.not_false, decide_true, decide_false, List.cons_append, List.nil_append, decide_eq_false hG]
    refine W.ret ⟨ln, .inr ?_⟩
    rw [rndOf, if_neg hG]
    exact GrS.new σ true
  try simp only [q_bind_some, castInt_int, q_castBool, q_castStr, q_castPtr, q_castFn, q_castAgg, q_castTuple, q_uncons, q_isNil, q_sl, q_nils, q_emp, q_ptr, q_nilp, q_fn, q_cond_true, q_cond_false, Bool.not_true, Bool.not_false, decide_true, decide_false, List.cons_append, List.nil_append, decide_eq_true hG]
  refine W.loop (S := Nat × V × Heap) (fun s => s.1 ≤ l.length ∧ GrS σ.length s.2.2 s.2.1 (pick (rndP l) (l.take s.1)) ∧ Lh σ s.2.2)
    (fun s => [.v v, .v s.2.1, .v (.int .i64 (s.1 : Int))]) (fun s => s.2.2) (fun s => l.length - s.1) (fun ⟨i, u, σi⟩ hI => ?_)
    (0, .sl σ.length 0 0 true, hnew σ 1 []) ⟨Nat.zero_le _, GrS.new σ true, ln⟩
  obtain ⟨hi, hS, hL⟩ := hI
  simp only at hi hS hL ⊢
  refine W.to (fun k _ => by rw [spec_GraphRound.L0_step]) ?_
  refine B.len (h.mono hL fun cs x _ hc => GraphNode.Rep.le hL hc) (B.ite (fun hlt => ?_) fun hlt => ?_)
  rotate_left
  · try simp only [q_bind_some, castInt_int, q_castBool, q_castStr, q_castPtr, q_castFn, q_castAgg, q_castTuple, q_uncons, q_isNil, q_sl, q_nils, q_emp, q_ptr, q_nilp, q_fn, q_cond_true, q_cond_false, Bool.not_true, Bool.not_false, decide_true, decide_false, List.cons_append, List.nil_append, spec_GraphRound.A0_x0]
    rw [List.take_of_length_le (by omega)] at hS
    exact W.ret ⟨hL, .inr (by rw [rndOf, if_pos hG]; exact hS)⟩
  have hil : i < l.length := by omega
  have hx : l[i]? = some l[i] := List.getElem?_eq_getElem hil
  obtain ⟨r, o, hv, cs, hr, hP⟩ := (h.mono hL fun cs x _ hc => GraphNode.Rep.le hL hc).at' hx
  cases hP with
  | mk h0 =>
  generalize l[i] = x at hx h0 hr
  have e0 : rdc σi r (o + 0) 1 = some [.str x.name] := rdc_sub hr 0 1 (by omega)
  have hrl : r < σi.length := by
    obtain ⟨row, g1, _⟩ := rdc_some hr
    exact get_lt g1
  have eU : unprot [r] σi (hnew (prot [r] σi) 1 [.str x.name]) = hnew σi 1 [.str x.name] := unprot1 σi r _
  try simp only [q_bind_some, castInt_int, q_castBool, q_castStr, q_castPtr, q_castFn, q_castAgg, q_castTuple, q_uncons, q_isNil, q_sl, q_nils, q_emp, q_ptr, q_nilp, q_fn, q_cond_true, q_cond_false, Bool.not_true, Bool.not_false, decide_true, decide_false, List.cons_append, List.nil_append, hv, e0, eU, prot1_len]
  have lN : Lh σi (hnew σi 1 [.str x.name]) := Lh.new _ _ _
  have lB := hL.trans lN
  have hlit : RepS 1 StrRep (hnew σi 1 [.str x.name]) (.sl σi.length 0 1 true) [x.name] := RepS.lit (P := StrRep) σi [x.name] .str (fun _ => rfl) true 1 rfl
  obtain ⟨ub, σ2, hot, c2, l2, r2, n2, i2⟩ := specGrow_ends (σ := prot [r] (hnew σi 1 [.str x.name])) (v := v) (w := .sl σi.length 0 1 true) (l := l) (ns := [x.name]) hG.1 hf (by simp) (by
    have := h.mono lB fun cs x _ hc => GraphNode.Rep.le lB hc
    exact (this.prot1 r).mono (Lh.refl _) fun cs x _ hc => by
      cases hc with
      | mk h1 => exact .mk (h1.prot1 r)) (hlit.prot1 r)
  refine B.run c2 ?_
  try simp only [q_bind_some, castInt_int, q_castBool, q_castStr, q_castPtr, q_castFn, q_castAgg, q_castTuple, q_uncons, q_isNil, q_sl, q_nils, q_emp, q_ptr, q_nilp, q_fn, q_cond_true, q_cond_false, Bool.not_true, Bool.not_false, decide_true, decide_false, List.cons_append, List.nil_append]
  have lU : Lh (hnew σi 1 [.str x.name]) (unprot [r] (hnew σi 1 [.str x.name]) σ2) := Lh.unprot1 l2
  have rU : RepS 1 StrRep (unprot [r] (hnew σi 1 [.str x.name]) σ2) ub hot := by
    obtain ⟨q, lim, hq, rfl, hQ⟩ := r2
    rw [prot1_len] at hq
    refine StrRow.rep (fun _ => rfl) (hQ.keep (unprot1_get _ _ ?_)) lim
    have := lN.len
    omega
  generalize unprot [r] (hnew σi 1 [.str x.name]) σ2 = σ3 at lU rU
  refine B.run (l5Has_runs (by omega) rU x.name) ?_
  try simp only [q_bind_some, castInt_int, q_castBool, q_castStr, q_castPtr, q_castFn, q_castAgg, q_castTuple, q_uncons, q_isNil, q_sl, q_nils, q_emp, q_ptr, q_nilp, q_fn, q_cond_true, q_cond_false, Bool.not_true, Bool.not_false, decide_true, decide_false, List.cons_append, List.nil_append]
  have hpl := pick_len (rndP l) (l.take i)
  have hpt : (l.take i).length ≤ l.length := by simp; omega
  have l12 := lN.trans lU
  have l13 := hL.trans l12
  obtain ⟨v', σ'', ha, hS'', hk, hl''⟩ := (hS.le l12).app' x.name (by omega)
  have e0' : rdc σ3 r (o + 0) 1 = some [.str x.name] := by
    obtain ⟨row, g1, g2, g3⟩ := rdc_some e0
    unfold rdc
    rw [l12.row _ _ g1]
    simp only
    rw [if_pos g2, g3]
  by_cases hb : x.name ∈ hot
  · try simp only [q_bind_some, castInt_int, q_castBool, q_castStr, q_castPtr, q_castFn, q_castAgg, q_castTuple, q_uncons, q_isNil, q_sl, q_nils, q_emp, q_ptr, q_nilp, q_fn, q_cond_true, q_cond_false, Bool.not_true, Bool.not_false, decide_true, decide_false, List.cons_append, List.nil_append, hb, hv, e0', ha, wrap_next hil (by omega)]
    refine W.again (i + 1, v', σ'') ⟨hil, ?_, hk σ (Nat.le_refl _) l13⟩ (by simp only; omega) rfl rfl
    simp only
    rw [pick_yes hx (by unfold rndP; simp [(i2 _).1 hb])]
    exact hS''
  · try simp only [q_bind_some, castInt_int, q_castBool, q_castStr, q_castPtr, q_castFn, q_castAgg, q_castTuple, q_uncons, q_isNil, q_sl, q_nils, q_emp, q_ptr, q_nilp, q_fn, q_cond_true, q_cond_false, Bool.not_true, Bool.not_false, decide_true, decide_false, List.cons_append, List.nil_append, hb, wrap_next hil (by omega)]
    refine W.again (i + 1, u, σ3) ⟨hil, ?_, l13⟩ (by simp only; omega) rfl rfl
    simp only
    rw [pick_no hx (by unfold rndP; simp; exact fun hc => hb ((i2 _).2 hc))]
    exact hS.le l12
end Go.B
