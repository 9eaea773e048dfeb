/- Graphs that are right; names that are there; nodes that are ready. -/
import Derived.Test.YtghkdjfgbaoplaaC
import Derived.Test.YtghkdjfgbaoplaaEF0
import Derived.Test.YtghkdjfgbaoplaaEF1
import Derived.Test.YtghkdjfgbaoplaaEF2
import Derived.Test.YtghkdjfgbaoplaaEF3
import Derived.Test.YtghkdjfgbaoplaaEF4
import Derived.Test.YtghkdjfgbaoplaaHMStr
set_option linter.unusedVariables false
set_option linter.unusedSimpArgs false
namespace Go.B
open Go.HM Go.Proofs
def NodeIs (l : List GraphNode) (i : Nat) (x : GraphNode) : Prop := x.uses.length ≤ 4 ∧ ∀ y, 0 < i → l[i - 1]? = some y → Op.bytesLess y.name.toList x.name.toList = true
def GrOk (l : List GraphNode) : Prop := l.length ≤ 8 ∧ ∀ (i : Nat) x, l[i]? = some x → NodeIs l i x
noncomputable instance (l : List GraphNode) : Decidable (GrOk l) := Classical.propDecidable _
theorem prev_at {l : List GraphNode} {i : Nat} (h0 : 0 < i) (h : i < l.length) : IntKind.wrap .i64 ((i : Int) - 1) = ((i - 1 : Nat) : Int) ∨ 4611686018427387904 < l.length := by
  rcases Nat.lt_or_ge 4611686018427387904 l.length with h | h
  · exact .inr h
  · left
    rw [wrap_id (by omega) (by omega)]
    omega
theorem implGraphOk_gives {σ : Heap} {v : V} {l : List GraphNode} (hf : l.length ≤ 1073741824) (h : RepS 2 (GraphNode.Rep σ) σ v l) : Gives G n_impl_GraphOk [v] σ (.bool (decide (GrOk l))) := by
  refine Gives.of (W.to (fun k _ => impl_GraphOk.eq k _ _) ?_)
  refine W.len h ?_
  refine W.loop (S := Nat) (fun i => i ≤ l.length ∧ ∀ (j : Nat) x, j < i → l[j]? = some x → NodeIs l j x) (fun i => [.v v, .v v, .v (.int .i64 (l.length : Int)), .v (.int .i64 (i : Int))]) (fun _ => σ) (fun i => l.length - i) (fun i ⟨hi, hok⟩ => ?_)
    0 ⟨Nat.zero_le _, fun j y hj => absurd hj (Nat.not_lt_zero _)⟩
  refine W.to (fun k _ => by rw [impl_GraphOk.L0_step]) ?_
  have no : ∀ {ι : Type} {Next : Cmp ι → Prop}, ¬ GrOk l → W (fun w σ' => w = .bool (decide (GrOk l)) ∧ Lh σ σ') Next (fun _ _ => some (.bool false, σ)) := fun h => W.ret ⟨by rw [decide_eq_false h], Lh.refl _⟩
  refine B.ite (fun hlt => ?_) fun hlt => ?_
  · refine B.at h (Lh.refl _) (by omega) fun r o cs x hx hr hP => ?_
    cases hP with
    | mk q0 =>
    try simp only [q_bind_some, castInt_int, q_castBool, q_castStr, q_castPtr, q_castFn, q_castAgg, q_castTuple, q_uncons, q_isNil, q_sl, q_nils, q_emp, q_ptr, q_nilp, q_fn, q_cond_true, q_cond_false, Bool.not_true, Bool.not_false, decide_true, decide_false, List.cons_append, List.nil_append, hr]
    refine B.len q0 (B.ite (fun k1 => ?_) fun k1 => ?_)
    · try simp only [q_bind_some, castInt_int, q_castBool, q_castStr, q_castPtr, q_castFn, q_castAgg, q_castTuple, q_uncons, q_isNil, q_sl, q_nils, q_emp, q_ptr, q_nilp, q_fn, q_cond_true, q_cond_false, Bool.not_true, Bool.not_false, decide_true, decide_false, List.cons_append, List.nil_append, impl_GraphOk.A0_ret]
      exact no fun h => by have := (h.2 i x hx).1; omega
    have hil : i < l.length := by omega
    have ag : NodeIs l i x → W (ι := Nat × Unit) (fun w σ' => w = .bool (decide (GrOk l)) ∧ Lh σ σ') (Nxt (fun _ => False) impl_GraphOk.L0 (fun k _ => impl_GraphOk.A0 k) (fun i => i ≤ l.length ∧ ∀ (j : Nat) x, j < i → l[j]? = some x → NodeIs l j x) (fun i => [.v v, .v v, .v (.int .i64 (l.length : Int)), .v (.int .i64 (i : Int))]) (fun _ => σ) (fun i => l.length - i) (l.length - i))
        (fun k jm => (impl_GraphOk.L0 k jm.1 [.v v, .v v, .v (.int .i64 (l.length : Int)), .v (.int .i64 (IntKind.wrap .i64 ((i : Int) + 1)))] σ).bind (impl_GraphOk.A0 k)) := by
      intro hN
      try simp only [q_bind_some, castInt_int, q_castBool, q_castStr, q_castPtr, q_castFn, q_castAgg, q_castTuple, q_uncons, q_isNil, q_sl, q_nils, q_emp, q_ptr, q_nilp, q_fn, q_cond_true, q_cond_false, Bool.not_true, Bool.not_false, decide_true, decide_false, List.cons_append, List.nil_append, wrap_next hil (by omega)]
      refine W.again (i + 1) ⟨by omega, fun j y hj hy => ?_⟩ (by omega) rfl rfl
      by_cases hij : j = i
      · subst hij
        rw [hx] at hy
        injection hy with hy
        rw [← hy]; exact hN
      · exact hok j y (by omega) hy
    refine B.ite (fun k2 => ?_) fun k2 => ?_
    · have h0 : 0 < i := by omega
      have hw : IntKind.wrap .i64 ((i : Int) - 1) = ((i - 1 : Nat) : Int) := (prev_at h0 hil).resolve_right (by omega)
      try simp only [q_bind_some, castInt_int, q_castBool, q_castStr, q_castPtr, q_castFn, q_castAgg, q_castTuple, q_uncons, q_isNil, q_sl, q_nils, q_emp, q_ptr, q_nilp, q_fn, q_cond_true, q_cond_false, Bool.not_true, Bool.not_false, decide_true, decide_false, List.cons_append, List.nil_append, hw]
      refine B.at h (Lh.refl _) (by omega) fun r2 o2 cs2 y hy hr2 hP2 => ?_
      cases hP2 with
      | mk p0 =>
      have hr3 : rdc σ r2 (o2 + 0) 1 = some [.str y.name] := rdc_sub hr2 0 1 (by omega)
      try simp only [q_bind_some, castInt_int, q_castBool, q_castStr, q_castPtr, q_castFn, q_castAgg, q_castTuple, q_uncons, q_isNil, q_sl, q_nils, q_emp, q_ptr, q_nilp, q_fn, q_cond_true, q_cond_false, Bool.not_true, Bool.not_false, decide_true, decide_false, List.cons_append, List.nil_append, hr3]
      cases hb : Op.bytesLess y.name.toList x.name.toList with
      | true =>
        try simp only [q_bind_some, castInt_int, q_castBool, q_castStr, q_castPtr, q_castFn, q_castAgg, q_castTuple, q_uncons, q_isNil, q_sl, q_nils, q_emp, q_ptr, q_nilp, q_fn, q_cond_true, q_cond_false, Bool.not_true, Bool.not_false, decide_true, decide_false, List.cons_append, List.nil_append]
        refine ag ⟨by omega, fun z _ hz => ?_⟩
        rw [hy] at hz
        injection hz with hz
        rw [← hz]; exact hb
      | false =>
        try simp only [q_bind_some, castInt_int, q_castBool, q_castStr, q_castPtr, q_castFn, q_castAgg, q_castTuple, q_uncons, q_isNil, q_sl, q_nils, q_emp, q_ptr, q_nilp, q_fn, q_cond_true, q_cond_false, Bool.not_true, Bool.not_false, decide_true, decide_false, List.cons_append, List.nil_append, impl_GraphOk.A0_ret]
        exact no fun h => by have := (h.2 i x hx).2 y h0 hy; rw [hb] at this; cases this
    · exact ag ⟨by omega, fun z hz => absurd hz (by omega)⟩
  · try simp only [q_bind_some, castInt_int, q_castBool, q_castStr, q_castPtr, q_castFn, q_castAgg, q_castTuple, q_uncons, q_isNil, q_sl, q_nils, q_emp, q_ptr, q_nilp, q_fn, q_cond_true, q_cond_false, Bool.not_true, Bool.not_false, decide_true, decide_false, List.cons_append, List.nil_append, impl_GraphOk.A0_x0]
    refine W.len h ?_
    refine W.ret ⟨dec_iff (show GrOk l ↔ (l.length : Int) ≤ 8 from ⟨fun h => by have := h.1; omega, fun h => ⟨by omega, fun i x hx => hok i x (by have := lt_of_get hx; omega) hx⟩⟩), Lh.refl _⟩
theorem specGraphOk_runs {σ : Heap} {v : V} {l : List GraphNode} (hf : l.length ≤ 1073741824) (h : RepS 2 (GraphNode.Rep σ) σ v l) : Runs G n_spec_GraphOk [v] σ (.bool (decide (GrOk l))) σ := by
  refine Runs.of (W.to (fun k _ => spec_GraphOk.eq k _ _) ?_)
  have no : ∀ {ι : Type} {Next : Cmp ι → Prop}, ¬ GrOk l → W (fun w σ' => w = .bool (decide (GrOk l)) ∧ σ' = σ) Next (fun _ _ => some (.bool false, σ)) := fun h => W.ret ⟨by rw [decide_eq_false h], rfl⟩
  refine W.len h (W.ite (fun k0 => no fun h => by have := h.1; omega) fun k0 => ?_)
  refine W.loop (S := Nat) (fun i => i ≤ l.length ∧ ∀ (j : Nat) x, j < i → l[j]? = some x → NodeIs l j x) (fun i => [.v v, .v (.int .i64 (i : Int))]) (fun _ => σ) (fun i => l.length - i) (fun i ⟨hi, hok⟩ => ?_)
    0 ⟨Nat.zero_le _, fun j y hj => absurd hj (Nat.not_lt_zero _)⟩
  refine W.to (fun k _ => by rw [spec_GraphOk.L0_step]) ?_
  refine B.len h (B.ite (fun hlt => ?_) fun hlt => ?_)
  · have hil : i < l.length := by omega
    have hx : l[i]? = some l[i] := List.getElem?_eq_getElem hil
    obtain ⟨r, o, hv, cs, hr, hP⟩ := h.at hil
    generalize l[i] = x at hx hP
    cases hP with
    | mk q0 =>
    rename_i b0
    have e0 : rdc σ r (o + 0) 1 = some [.str x.name] := rdc_sub hr 0 1 (by omega)
    have e1 : rdc σ r (o + 1) 1 = some [b0] := rdc_sub hr 1 1 (by omega)
    have ag : NodeIs l i x → W (ι := Nat × Unit) (fun w σ' => w = .bool (decide (GrOk l)) ∧ σ' = σ) (Nxt (fun _ => False) spec_GraphOk.L0 (fun k _ => spec_GraphOk.A0 k) (fun i => i ≤ l.length ∧ ∀ (j : Nat) x, j < i → l[j]? = some x → NodeIs l j x) (fun i => [.v v, .v (.int .i64 (i : Int))]) (fun _ => σ) (fun i => l.length - i) (l.length - i))
        (fun k jm => (spec_GraphOk.L0 k jm.1 [.v v, .v (.int .i64 (IntKind.wrap .i64 ((i : Int) + 1)))] σ).bind (spec_GraphOk.A0 k)) := by
      intro hN
      try simp only [q_bind_some, castInt_int, q_castBool, q_castStr, q_castPtr, q_castFn, q_castAgg, q_castTuple, q_uncons, q_isNil, q_sl, q_nils, q_emp, q_ptr, q_nilp, q_fn, q_cond_true, q_cond_false, Bool.not_true, Bool.not_false, decide_true, decide_false, List.cons_append, List.nil_append, wrap_next hil (by omega)]
      refine W.again (i + 1) ⟨by omega, fun j y hj hy => ?_⟩ (by omega) rfl rfl
      by_cases hij : j = i
      · subst hij
        rw [hx] at hy
        injection hy with hy
        rw [← hy]; exact hN
      · exact hok j y (by omega) hy
    refine B.ite (fun k2 => ?_) fun k2 => ?_
    · have h0 : 0 < i := by omega
      have hw : IntKind.wrap .i64 ((i : Int) - 1) = ((i - 1 : Nat) : Int) := (prev_at h0 hil).resolve_right (by omega)
      try simp only [q_bind_some, castInt_int, q_castBool, q_castStr, q_castPtr, q_castFn, q_castAgg, q_castTuple, q_uncons, q_isNil, q_sl, q_nils, q_emp, q_ptr, q_nilp, q_fn, q_cond_true, q_cond_false, Bool.not_true, Bool.not_false, decide_true, decide_false, List.cons_append, List.nil_append, hw, hv, e0, e1]
      refine B.at h (Lh.refl _) (by omega) fun r2 o2 cs2 y hy hr2 hP2 => ?_
      cases hP2 with
      | mk p0 =>
      have hr3 : rdc σ r2 (o2 + 0) 1 = some [.str y.name] := rdc_sub hr2 0 1 (by omega)
      try simp only [q_bind_some, castInt_int, q_castBool, q_castStr, q_castPtr, q_castFn, q_castAgg, q_castTuple, q_uncons, q_isNil, q_sl, q_nils, q_emp, q_ptr, q_nilp, q_fn, q_cond_true, q_cond_false, Bool.not_true, Bool.not_false, decide_true, decide_false, List.cons_append, List.nil_append, hr3]
      cases hb : Op.bytesLess y.name.toList x.name.toList with
      | true =>
        try simp only [q_bind_some, castInt_int, q_castBool, q_castStr, q_castPtr, q_castFn, q_castAgg, q_castTuple, q_uncons, q_isNil, q_sl, q_nils, q_emp, q_ptr, q_nilp, q_fn, q_cond_true, q_cond_false, Bool.not_true, Bool.not_false, decide_true, decide_false, List.cons_append, List.nil_append]
        refine B.len q0 (B.ite (fun k1 => ?_) fun k1 => ?_)
        · try simp only [q_bind_some, castInt_int, q_castBool, q_castStr, q_castPtr, q_castFn, q_castAgg, q_castTuple, q_uncons, q_isNil, q_sl, q_nils, q_emp, q_ptr, q_nilp, q_fn, q_cond_true, q_cond_false, Bool.not_true, Bool.not_false, decide_true, decide_false, List.cons_append, List.nil_append, spec_GraphOk.A0_ret]
          exact no fun h => by have := (h.2 i x hx).1; omega
        refine ag ⟨by omega, fun z _ hz => ?_⟩
        rw [hy] at hz
        injection hz with hz
        rw [← hz]; exact hb
      | false =>
        try simp only [q_bind_some, castInt_int, q_castBool, q_castStr, q_castPtr, q_castFn, q_castAgg, q_castTuple, q_uncons, q_isNil, q_sl, q_nils, q_emp, q_ptr, q_nilp, q_fn, q_cond_true, q_cond_false, Bool.not_true, Bool.not_false, decide_true, decide_false, List.cons_append, List.nil_append, spec_GraphOk.A0_ret]
        exact no fun h => by have := (h.2 i x hx).2 y h0 hy; rw [hb] at this; cases this
    · try simp only [q_bind_some, castInt_int, q_castBool, q_castStr, q_castPtr, q_castFn, q_castAgg, q_castTuple, q_uncons, q_isNil, q_sl, q_nils, q_emp, q_ptr, q_nilp, q_fn, q_cond_true, q_cond_false, Bool.not_true, Bool.not_false, decide_true, decide_false, List.cons_append, List.nil_append, hv, e1]
      refine B.len q0 (B.ite (fun k1 => ?_) fun k1 => ?_)
      · try simp only [q_bind_some, castInt_int, q_castBool, q_castStr, q_castPtr, q_castFn, q_castAgg, q_castTuple, q_uncons, q_isNil, q_sl, q_nils, q_emp, q_ptr, q_nilp, q_fn, q_cond_true, q_cond_false, Bool.not_true, Bool.not_false, decide_true, decide_false, List.cons_append, List.nil_append, spec_GraphOk.A0_ret]
        exact no fun h => by have := (h.2 i x hx).1; omega
      exact ag ⟨by omega, fun z hz => absurd hz (by omega)⟩
  · try simp only [q_bind_some, castInt_int, q_castBool, q_castStr, q_castPtr, q_castFn, q_castAgg, q_castTuple, q_uncons, q_isNil, q_sl, q_nils, q_emp, q_ptr, q_nilp, q_fn, q_cond_true, q_cond_false, Bool.not_true, Bool.not_false, decide_true, decide_false, List.cons_append, List.nil_append, spec_GraphOk.A0_x0]
    exact W.ret ⟨by rw [decide_eq_true (show GrOk l from ⟨by omega, fun i x hx => hok i x (by have := lt_of_get hx; omega) hx⟩)], rfl⟩
theorem l5Has_runs {σ : Heap} {v : V} {l : List ByteArray} (hf : l.length ≤ 1073741824) (h : RepS 1 StrRep σ v l) (s : ByteArray) : Runs G n_spec_l5Has [v, .str s] σ (.bool (decide (s ∈ l))) σ := by
  refine Runs.of (W.to (fun k _ => spec_l5Has.eq k _ _ _) ?_)
  refine W.loop (S := Nat) (fun i => i ≤ l.length ∧ ∀ (j : Nat) x, j < i → l[j]? = some x → x ≠ s) (fun i => [.v v, .v (.str s), .v (.int .i64 (i : Int))]) (fun _ => σ) (fun i => l.length - i) (fun i ⟨hi, hok⟩ => ?_)
    0 ⟨Nat.zero_le _, fun j y hj => absurd hj (Nat.not_lt_zero _)⟩
  refine W.to (fun k _ => by rw [spec_l5Has.L0_step]) ?_
  refine B.len h (B.ite (fun hlt => ?_) fun hlt => ?_)
  · refine B.at h (Lh.refl _) (by omega) fun r o cs x hx hr hP => ?_
    unfold StrRep at hP
    subst hP
    try simp only [q_bind_some, castInt_int, q_castBool, q_castStr, q_castPtr, q_castFn, q_castAgg, q_castTuple, q_uncons, q_isNil, q_sl, q_nils, q_emp, q_ptr, q_nilp, q_fn, q_cond_true, q_cond_false, Bool.not_true, Bool.not_false, decide_true, decide_false, List.cons_append, List.nil_append, hr]
    refine B.ite (fun hs => ?_) fun hs => ?_
    · try simp only [q_bind_some, castInt_int, q_castBool, q_castStr, q_castPtr, q_castFn, q_castAgg, q_castTuple, q_uncons, q_isNil, q_sl, q_nils, q_emp, q_ptr, q_nilp, q_fn, q_cond_true, q_cond_false, Bool.not_true, Bool.not_false, decide_true, decide_false, List.cons_append, List.nil_append, spec_l5Has.A0_ret]
      exact W.ret ⟨by rw [decide_eq_true (show s ∈ l from hs ▸ List.mem_of_getElem? hx)], rfl⟩
    · try simp only [q_bind_some, castInt_int, q_castBool, q_castStr, q_castPtr, q_castFn, q_castAgg, q_castTuple, q_uncons, q_isNil, q_sl, q_nils, q_emp, q_ptr, q_nilp, q_fn, q_cond_true, q_cond_false, Bool.not_true, Bool.not_false, decide_true, decide_false, List.cons_append, List.nil_append, wrap_next (show i < l.length by omega) (by omega)]
      refine W.again (i + 1) ⟨by omega, fun j y hj hy => ?_⟩ (by omega) rfl rfl
      by_cases hij : j = i
      · subst hij
        rw [hx] at hy
        injection hy with hy
        rw [← hy]; exact hs
      · exact hok j y (by omega) hy
  · try simp only [q_bind_some, castInt_int, q_castBool, q_castStr, q_castPtr, q_castFn, q_castAgg, q_castTuple, q_uncons, q_isNil, q_sl, q_nils, q_emp, q_ptr, q_nilp, q_fn, q_cond_true, q_cond_false, Bool.not_true, Bool.not_false, decide_true, decide_false, List.cons_append, List.nil_append, spec_l5Has.A0_x0]
    refine W.ret ⟨?_, rfl⟩
    rw [decide_eq_false]
    intro hc
    obtain ⟨j, hj, rfl⟩ := List.getElem_of_mem hc
    exact hok j _ (by omega) (List.getElem?_eq_getElem hj) rfl
theorem slices_Index_string_string_runs {σ : Heap} {v : V} {l : List ByteArray} (hf : l.length ≤ 1073741824) (h : RepS 1 StrRep σ v l) (s : ByteArray) : Runs G n_slices_Index_string_string [v, .str s] σ (.int .i64 (fidx (fun x => decide (s = x)) l)) σ := by
  refine Runs.of (W.to (fun k _ => slices_Index_string_string.eq k _ _ _) ?_)
  refine W.len h ?_
  refine W.loop (S := Nat) (fun i => i ≤ l.length ∧ ∀ (j : Nat) y, j < i → l[j]? = some y → decide (s = y) = false) (fun i => [.v v, .v (.str s), .v (.int .i64 (l.length : Int)), .v (.int .i64 (i : Int))]) (fun _ => σ) (fun i => l.length - i) (fun i ⟨hi, hok⟩ => ?_)
    0 ⟨Nat.zero_le _, fun j y hj => absurd hj (Nat.not_lt_zero _)⟩
  refine W.to (fun k _ => by rw [slices_Index_string_string.L0_step]) ?_
  try simp only [q_bind_some, Option.bind_assoc, castInt_int, q_castBool, q_castStr, q_castPtr, q_castFn, q_castAgg, q_castTuple, q_uncons, q_isNil, q_sl, q_nils, q_emp, q_ptr, q_nilp, q_fn, q_cond_true, q_cond_false, Bool.not_true, Bool.not_false, decide_true, decide_false, castInt_bind, castBool_bind, castStr_bind, castPtr_bind, castFn_bind, castAgg_bind, castTuple_bind, uncons_bind, isNil_bind, one_bind, cond_bind, ite_bind_, List.cons_append, List.nil_append]
  refine W.ite (fun hlt => ?_) fun hlt => ?_
  · refine W.at h (Lh.refl _) (by omega) fun r o cs x hx' hr hP => ?_
    unfold StrRep at hP
    subst hP
    try simp only [q_bind_some, Option.bind_assoc, castInt_int, q_castBool, q_castStr, q_castPtr, q_castFn, q_castAgg, q_castTuple, q_uncons, q_isNil, q_sl, q_nils, q_emp, q_ptr, q_nilp, q_fn, q_cond_true, q_cond_false, Bool.not_true, Bool.not_false, decide_true, decide_false, castInt_bind, castBool_bind, castStr_bind, castPtr_bind, castFn_bind, castAgg_bind, castTuple_bind, uncons_bind, isNil_bind, one_bind, cond_bind, ite_bind_, List.cons_append, List.nil_append, hr]
    refine W.ite (fun hs => ?_) fun hs => ?_
    · try simp only [q_bind_some, Option.bind_assoc, castInt_int, q_castBool, q_castStr, q_castPtr, q_castFn, q_castAgg, q_castTuple, q_uncons, q_isNil, q_sl, q_nils, q_emp, q_ptr, q_nilp, q_fn, q_cond_true, q_cond_false, Bool.not_true, Bool.not_false, decide_true, decide_false, castInt_bind, castBool_bind, castStr_bind, castPtr_bind, castFn_bind, castAgg_bind, castTuple_bind, uncons_bind, isNil_bind, one_bind, cond_bind, ite_bind_, List.cons_append, List.nil_append, slices_Index_string_string.A0_ret]
      exact W.ret ⟨by rw [fidx_at hx' (by simp [hs]) hok], rfl⟩
    · try simp only [q_bind_some, Option.bind_assoc, castInt_int, q_castBool, q_castStr, q_castPtr, q_castFn, q_castAgg, q_castTuple, q_uncons, q_isNil, q_sl, q_nils, q_emp, q_ptr, q_nilp, q_fn, q_cond_true, q_cond_false, Bool.not_true, Bool.not_false, decide_true, decide_false, castInt_bind, castBool_bind, castStr_bind, castPtr_bind, castFn_bind, castAgg_bind, castTuple_bind, uncons_bind, isNil_bind, one_bind, cond_bind, ite_bind_, List.cons_append, List.nil_append, wrap_next (show i < l.length by omega) (by omega)]
      refine W.again (i + 1) ⟨by omega, fun j y hj hy => ?_⟩ (by omega) rfl rfl
      by_cases hij : j = i
      · subst hij
        rw [hx'] at hy
        injection hy with hy
        rw [← hy]; simp [hs]
      · exact hok j y (by omega) hy
  · try simp only [q_bind_some, Option.bind_assoc, castInt_int, q_castBool, q_castStr, q_castPtr, q_castFn, q_castAgg, q_castTuple, q_uncons, q_isNil, q_sl, q_nils, q_emp, q_ptr, q_nilp, q_fn, q_cond_true, q_cond_false, Bool.not_true, Bool.not_false, decide_true, decide_false, castInt_bind, castBool_bind, castStr_bind, castPtr_bind, castFn_bind, castAgg_bind, castTuple_bind, uncons_bind, isNil_bind, one_bind, cond_bind, ite_bind_, List.cons_append, List.nil_append, slices_Index_string_string.A0_x0]
    exact W.ret ⟨by rw [fidx_none fun j y hy => hok j y (by have := lt_of_get hy; omega) hy], rfl⟩

theorem slices_Contains_string_string_runs {σ : Heap} {v : V} {l : List ByteArray} (hf : l.length ≤ 1073741824) (h : RepS 1 StrRep σ v l) (s : ByteArray) : Runs G n_slices_Contains_string_string [v, .str s] σ (.bool (decide (s ∈ l))) σ := by
  refine Runs.of (W.to (fun k _ => slices_Contains_string_string.eq k _ _ _) ?_)
  refine W.run (slices_Index_string_string_runs hf h s) ?_
  try simp only [q_bind_some, Option.bind_assoc, castInt_int, q_castBool, q_castStr, q_castPtr, q_castFn, q_castAgg, q_castTuple, q_uncons, q_isNil, q_sl, q_nils, q_emp, q_ptr, q_nilp, q_fn, q_cond_true, q_cond_false, Bool.not_true, Bool.not_false, decide_true, decide_false, castInt_bind, castBool_bind, castStr_bind, castPtr_bind, castFn_bind, castAgg_bind, castTuple_bind, uncons_bind, isNil_bind, one_bind, cond_bind, ite_bind_, List.cons_append, List.nil_append, fidx_any]
  refine W.ret ⟨?_, rfl⟩
  congr 1
  rw [Bool.eq_iff_iff]
  simp

theorem slices_IndexFunc_string_string_gives {σ : Heap} {v : V} {l : List ByteArray} (hf : l.length ≤ 1073741824) (h : RepS 1 StrRep σ v l) (f : FuncId) (cap : List V) (p : ByteArray → Bool)
    (hx : ∀ x, x ∈ l → ∀ σ', Lh σ σ' → Gives G f ([.str x] ++ cap) σ' (.bool (p x))) : Gives G n_slices_IndexFunc_string_string [v, .fn f cap] σ (.int .i64 (fidx p l)) := by
  refine Gives.of (W.to (fun k _ => slices_IndexFunc_string_string.eq k _ _ _) ?_)
  refine W.len h ?_
  refine W.loop (S := Nat × Heap) (fun s => s.1 ≤ l.length ∧ Lh σ s.2 ∧ ∀ (j : Nat) y, j < s.1 → l[j]? = some y → p y = false) (fun s => [.v v, .v (.fn f cap), .v (.int .i64 (l.length : Int)), .v (.int .i64 (s.1 : Int))]) (fun s => s.2) (fun s => l.length - s.1) (fun ⟨i, σi⟩ ⟨hi, hle, hok⟩ => ?_)
    (0, σ) ⟨Nat.zero_le _, Lh.refl _, fun j y hj => absurd hj (Nat.not_lt_zero _)⟩
  simp only at hi hle hok ⊢
  refine W.to (fun k _ => by rw [slices_IndexFunc_string_string.L0_step]) ?_
  try simp only [q_bind_some, Option.bind_assoc, castInt_int, q_castBool, q_castStr, q_castPtr, q_castFn, q_castAgg, q_castTuple, q_uncons, q_isNil, q_sl, q_nils, q_emp, q_ptr, q_nilp, q_fn, q_cond_true, q_cond_false, Bool.not_true, Bool.not_false, decide_true, decide_false, castInt_bind, castBool_bind, castStr_bind, castPtr_bind, castFn_bind, castAgg_bind, castTuple_bind, uncons_bind, isNil_bind, one_bind, cond_bind, ite_bind_, List.cons_append, List.nil_append]
  refine W.ite (fun hlt => ?_) fun hlt => ?_
  · refine W.at h hle (by omega) fun r o cs x hx' hr hP => ?_
    have hm := List.mem_of_getElem? hx'
    have hc := hx x hm σi hle
    unfold StrRep at hP
    subst hP
    try simp only [q_bind_some, Option.bind_assoc, castInt_int, q_castBool, q_castStr, q_castPtr, q_castFn, q_castAgg, q_castTuple, q_uncons, q_isNil, q_sl, q_nils, q_emp, q_ptr, q_nilp, q_fn, q_cond_true, q_cond_false, Bool.not_true, Bool.not_false, decide_true, decide_false, castInt_bind, castBool_bind, castStr_bind, castPtr_bind, castFn_bind, castAgg_bind, castTuple_bind, uncons_bind, isNil_bind, one_bind, cond_bind, ite_bind_, List.cons_append, List.nil_append, hr]
    refine W.give hc fun σ1 l1 => ?_
    try simp only [q_bind_some, Option.bind_assoc, castInt_int, q_castBool, q_castStr, q_castPtr, q_castFn, q_castAgg, q_castTuple, q_uncons, q_isNil, q_sl, q_nils, q_emp, q_ptr, q_nilp, q_fn, q_cond_true, q_cond_false, Bool.not_true, Bool.not_false, decide_true, decide_false, castInt_bind, castBool_bind, castStr_bind, castPtr_bind, castFn_bind, castAgg_bind, castTuple_bind, uncons_bind, isNil_bind, one_bind, cond_bind, ite_bind_, List.cons_append, List.nil_append]
    cases hb : p x with
    | true =>
      try simp only [q_bind_some, Option.bind_assoc, castInt_int, q_castBool, q_castStr, q_castPtr, q_castFn, q_castAgg, q_castTuple, q_uncons, q_isNil, q_sl, q_nils, q_emp, q_ptr, q_nilp, q_fn, q_cond_true, q_cond_false, Bool.not_true, Bool.not_false, decide_true, decide_false, castInt_bind, castBool_bind, castStr_bind, castPtr_bind, castFn_bind, castAgg_bind, castTuple_bind, uncons_bind, isNil_bind, one_bind, cond_bind, ite_bind_, List.cons_append, List.nil_append, slices_IndexFunc_string_string.A0_ret]
      exact W.ret ⟨by rw [fidx_at hx' hb hok], hle.trans l1⟩
    | false =>
      try simp only [q_bind_some, Option.bind_assoc, castInt_int, q_castBool, q_castStr, q_castPtr, q_castFn, q_castAgg, q_castTuple, q_uncons, q_isNil, q_sl, q_nils, q_emp, q_ptr, q_nilp, q_fn, q_cond_true, q_cond_false, Bool.not_true, Bool.not_false, decide_true, decide_false, castInt_bind, castBool_bind, castStr_bind, castPtr_bind, castFn_bind, castAgg_bind, castTuple_bind, uncons_bind, isNil_bind, one_bind, cond_bind, ite_bind_, List.cons_append, List.nil_append, wrap_next (show i < l.length by omega) (by omega)]
      refine W.again (i + 1, σ1) ⟨by show i + 1 ≤ l.length; omega, hle.trans l1, fun j y hj hy => ?_⟩ (by simp only; omega) rfl rfl
      simp only at hj
      by_cases hij : j = i
      · subst hij
        rw [hx'] at hy
        injection hy with hy
        rw [← hy]; exact hb
      · exact hok j y (by omega) hy
  · try simp only [q_bind_some, Option.bind_assoc, castInt_int, q_castBool, q_castStr, q_castPtr, q_castFn, q_castAgg, q_castTuple, q_uncons, q_isNil, q_sl, q_nils, q_emp, q_ptr, q_nilp, q_fn, q_cond_true, q_cond_false, Bool.not_true, Bool.not_false, decide_true, decide_false, castInt_bind, castBool_bind, castStr_bind, castPtr_bind, castFn_bind, castAgg_bind, castTuple_bind, uncons_bind, isNil_bind, one_bind, cond_bind, ite_bind_, List.cons_append, List.nil_append, slices_IndexFunc_string_string.A0_x0]
    exact W.ret ⟨by rw [fidx_none fun j y hy => hok j y (by have := lt_of_get hy; omega) hy], hle⟩

theorem slices_ContainsFunc_string_string_gives {σ : Heap} {v : V} {l : List ByteArray} (hf : l.length ≤ 1073741824) (h : RepS 1 StrRep σ v l) (f : FuncId) (cap : List V) (p : ByteArray → Bool)
    (hx : ∀ x, x ∈ l → ∀ σ', Lh σ σ' → Gives G f ([.str x] ++ cap) σ' (.bool (p x))) : Gives G n_slices_ContainsFunc_string_string [v, .fn f cap] σ (.bool (l.any p)) := by
  refine Gives.of (W.to (fun k _ => slices_ContainsFunc_string_string.eq k _ _ _) ?_)
  refine W.give (slices_IndexFunc_string_string_gives hf h f cap p hx) fun σ1 l1 => ?_
  try simp only [q_bind_some, Option.bind_assoc, castInt_int, q_castBool, q_castStr, q_castPtr, q_castFn, q_castAgg, q_castTuple, q_uncons, q_isNil, q_sl, q_nils, q_emp, q_ptr, q_nilp, q_fn, q_cond_true, q_cond_false, Bool.not_true, Bool.not_false, decide_true, decide_false, castInt_bind, castBool_bind, castStr_bind, castPtr_bind, castFn_bind, castAgg_bind, castTuple_bind, uncons_bind, isNil_bind, one_bind, cond_bind, ite_bind_, List.cons_append, List.nil_append, fidx_any]
  exact W.ret ⟨rfl, l1⟩

end Go.B
