/- LexCut of both. -/
import Derived.Test.YtjadancpencnnaaCut
import Derived.Test.YtjadancpencnnaaN
set_option linter.unusedVariables false
set_option linter.unusedSimpArgs false
namespace Go.A
open Go.HM Go.Proofs
theorem isMark_runs {σ : Heap} (c : UInt8) : Runs G n_impl_isMark [.int .u8 (c.toNat : Int)] σ (.bool (decide (markC c))) σ := by
  refine Runs.of (W.to (fun k _ => impl_isMark.eq k _ _) ?_)
  refine W.ite (fun h => W.ret ⟨by rw [decide_eq_true (.inl h)], rfl⟩) fun h => W.ret ⟨?_, rfl⟩
  exact dec_iff (show markC c ↔ (c.toNat : Int) = 41 from ⟨fun k => k.resolve_left h, .inr⟩)
theorem isBlank_runs {σ : Heap} (c : UInt8) : Runs G n_impl_isBlank [.int .u8 (c.toNat : Int)] σ (.bool (decide (blankC c))) σ := by
  refine Runs.of (W.to (fun k _ => impl_isBlank.eq k _ _) ?_)
  refine W.ite (fun h => W.ret ⟨by rw [decide_eq_true (.inl h)], rfl⟩) fun h => W.ret ⟨?_, rfl⟩
  exact dec_iff (show blankC c ↔ (c.toNat : Int) = 10 from ⟨fun k => k.resolve_left h, .inr⟩)
theorem l1Blank_runs {σ : Heap} (c : UInt8) : Runs G n_spec_l1Blank [.int .u8 (c.toNat : Int)] σ (.bool (decide (blankC c))) σ := by
  refine Runs.of (W.to (fun k _ => spec_l1Blank.eq k _ _) ?_)
  refine W.ite (fun h => W.ret ⟨by rw [decide_eq_true (.inl h)], rfl⟩) fun h => W.ret ⟨?_, rfl⟩
  exact dec_iff (show blankC c ↔ (c.toNat : Int) = 10 from ⟨fun k => k.resolve_left h, .inr⟩)
theorem l1Fine_runs {σ : Heap} (c : UInt8) : Runs G n_spec_l1Fine [.int .u8 (c.toNat : Int)] σ (.bool (decide (blankC c ∨ fineC c))) σ := by
  refine Runs.of (W.to (fun k _ => spec_l1Fine.eq k _ _) ?_)
  refine W.run (l1Blank_runs c) ?_
  try simp only [q_bind_some, castInt_int, q_castBool, q_castStr, q_castPtr, q_castFn, q_castAgg, q_castTuple, q_uncons, q_isNil, q_sl, q_nils, q_emp, q_ptr, q_nilp, q_fn, q_cond_true, q_cond_false, Bool.not_true, Bool.not_false, decide_true, decide_false, List.cons_append, List.nil_append]
  refine W.ite (fun h => W.ret ⟨by rw [decide_eq_true (.inl h)], rfl⟩) fun h => ?_
  refine W.ite (fun h1 => W.ret ⟨?_, rfl⟩) fun h1 => W.ret ⟨?_, rfl⟩
  · exact dec_iff (show (blankC c ∨ fineC c) ↔ (c.toNat : Int) < 127 from ⟨fun k => by have := k.resolve_left h; unfold fineC at this; omega, fun k => .inr (by unfold fineC; omega)⟩)
  · rw [decide_eq_false (fun k => by have := k.resolve_left h; unfold fineC at this; omega)]
theorem ext_list (s : ByteArray) (a b : Nat) (h : b ≤ s.size) : s.extract a b = ⟨((s.data.toList.take b).drop a).toArray⟩ := by
  obtain ⟨⟨l⟩⟩ := s
  have hb : b ≤ l.length := h
  apply ba_eq
  rw [ByteArray.data_extract]
  simp [List.extract, List.drop_take]
theorem ssub_at {s : ByteArray} {a b : Nat} (h1 : a ≤ b) (h2 : b ≤ s.size) : ssub s (some (a : Int)) (some (b : Int)) = some ⟨((s.data.toList.take b).drop a).toArray⟩ := by
  unfold ssub
  simp only [Option.getD_some]
  rw [if_pos (by omega), ← ext_list s a b h2]
  simp
theorem ssub_end {s : ByteArray} {a : Nat} (h1 : a ≤ s.size) : ssub s (some (a : Int)) none = some ⟨((s.data.toList.take s.size).drop a).toArray⟩ := by
  unfold ssub
  simp only [Option.getD_some, Option.getD_none]
  rw [if_pos (by omega), ← ext_list s a s.size (Nat.le_refl _)]
  simp
theorem sz_list (s : ByteArray) : s.data.toList.length = s.size := by simp
/-- Where one is in a text: bytes up to i are read, what is open are the last ones. -/
def AtC (s : ByteArray) (i : Nat) (t : CutS) : Prop := runC startC (s.data.toList.take i) = some t ∧ t.2.length ≤ i ∧ t.2 = (s.data.toList.take i).drop (i - t.2.length) ∧ t.1.length ≤ 2 * i
theorem AtC.zero (s : ByteArray) : AtC s 0 startC := ⟨rfl, Nat.le_refl _, rfl, Nat.le_refl _⟩
theorem byte_get {s : ByteArray} {i : Nat} (h : i < s.size) : s.data.toList[i]? = some s[i] := by
  obtain ⟨⟨l⟩⟩ := s
  exact List.getElem?_eq_getElem h
theorem AtC.run {s : ByteArray} {i : Nat} {t : CutS} (h : AtC s i t) (hi : i < s.size) : runC startC (s.data.toList.take (i + 1)) = stepC t s[i] := by
  rw [take_next' (byte_get hi), runC_app, h.1, Option.bind_some, runC_one]
theorem flush_len (t : CutS) : (flushC t).length ≤ t.1.length + 1 := by
  unfold flushC
  split <;> simp
theorem AtC.shut {s : ByteArray} {i : Nat} {t : CutS} (h : AtC s i t) (hi : i < s.size) {outs : List ByteArray} (e : stepC t s[i] = some (outs, [])) (hl : outs.length ≤ 2 * i + 2) : AtC s (i + 1) (outs, []) :=
  ⟨by rw [h.run hi, e], Nat.zero_le _, by
    have : (s.data.toList.take (i + 1)).length ≤ i + 1 := by rw [List.length_take]; omega
    show [] = _
    rw [List.drop_of_length_le (by show _ ≤ i + 1 - 0; omega)], by show outs.length ≤ _; omega⟩
theorem AtC.more {s : ByteArray} {i : Nat} {t : CutS} (h : AtC s i t) (hi : i < s.size) (hf : fineC s[i]) (hm : ¬ markC s[i]) : AtC s (i + 1) (t.1, t.2 ++ [s[i]]) := by
  obtain ⟨h1, h2, h3, h4⟩ := h
  refine ⟨by rw [AtC.run ⟨h1, h2, h3, h4⟩ hi, step_plain hf hm], by simp; omega, ?_, by show t.1.length ≤ _; omega⟩
  have hl : (s.data.toList.take i).length = i := by rw [List.length_take, sz_list]; omega
  show t.2 ++ [s[i]] = _
  have e : i + 1 - (t.2 ++ [s[i]]).length = i - t.2.length := by simp
  rw [e, take_next' (byte_get hi), List.drop_append_of_le_length (by omega), ← h3]
theorem AtC.sub {s : ByteArray} {i : Nat} {t : CutS} (h : AtC s i t) (hi : i ≤ s.size) : ssub s (some ((i - t.2.length : Nat) : Int)) (some (i : Int)) = some ⟨t.2.toArray⟩ := by
  rw [ssub_at (by omega) hi, ← h.2.2.1]
theorem AtC.tail {s : ByteArray} {t : CutS} (h : AtC s s.size t) : ssub s (some ((s.size - t.2.length : Nat) : Int)) none = some ⟨t.2.toArray⟩ := by
  rw [ssub_end (by omega), ← h.2.2.1]
theorem one_sub {s : ByteArray} {i : Nat} (hi : i < s.size) : ssub s (some (i : Int)) (some ((i + 1 : Nat) : Int)) = some ⟨#[s[i]]⟩ := by
  rw [ssub_at (by omega) (by omega), take_next' (byte_get hi)]
  have hl : (s.data.toList.take i).length = i := by rw [List.length_take, sz_list]; omega
  rw [List.drop_append_of_le_length (by omega), List.drop_of_length_le (by omega)]
  rfl
theorem flush_some {t : CutS} (h : t.2 ≠ []) : flushC t = t.1 ++ [⟨t.2.toArray⟩] := by unfold flushC; rw [if_neg h]
theorem flush_none {t : CutS} (h : t.2 = []) : flushC t = t.1 := by unfold flushC; rw [if_pos h]
theorem step_mark {t : CutS} {c : UInt8} (h : markC c) : stepC t c = some (flushC t ++ [⟨#[c]⟩], []) := by unfold stepC; rw [if_pos h]
theorem step_blank {t : CutS} {c : UInt8} (h : ¬ markC c) (h2 : blankC c) : stepC t c = some (flushC t, []) := by unfold stepC; rw [if_neg h, if_pos h2]
theorem step_bad {t : CutS} {c : UInt8} (h : ¬ markC c) (h2 : ¬ blankC c) (h3 : ¬ fineC c) : stepC t c = none := by unfold stepC; rw [if_neg h, if_neg h2, if_neg h3]
theorem run_bad {s : ByteArray} {i : Nat} {t : CutS} (h : AtC s i t) (hi : i < s.size) (e : stepC t s[i] = none) : runC startC s.data.toList = none := by
  have : s.data.toList = s.data.toList.take (i + 1) ++ s.data.toList.drop (i + 1) := (List.take_append_drop _ _).symm
  rw [this, runC_app, h.run hi, e]
  rfl
def frm (i : Nat) (cur : List UInt8) : Int := if cur = [] then -1 else ((i - cur.length : Nat) : Int)
theorem frm_nil (i : Nat) : frm i [] = -1 := rfl
theorem frm_some {i : Nat} {cur : List UInt8} (h : cur ≠ []) : frm i cur = ((i - cur.length : Nat) : Int) := by unfold frm; rw [if_neg h]
def CutP (s : ByteArray) (σ : Heap) (w : V) (σ' : Heap) : Prop := ∃ v, w = .tuple [v, .bool (cutR s).2] ∧ RepS 1 StrRep σ' v (cutR s).1 ∧ Lh σ σ'
theorem implLexCut_ends (σ : Heap) (s : ByteArray) : HM.Ends G n_impl_LexCut [.str s] σ (CutP s σ) := by
  refine HM.Ends.mk (W.to (fun k _ => impl_LexCut.eq k _ _) ?_)
  refine W.ite (fun h4 => ?_) fun h4 => ?_
  · have e : cutR s = ([], false) := by unfold cutR; rw [if_pos (by omega)]
    exact W.ret ⟨.nils, by rw [e], by rw [e]; exact .nils, Lh.refl _⟩
  have hcut : cutR s = endC (runC startC s.data.toList) := by unfold cutR; rw [if_neg (by omega)]
  refine W.loop (S := Nat × CutS × V × Heap) (fun x => x.1 ≤ s.size ∧ AtC s x.1 x.2.1 ∧ GrS σ.length x.2.2.2 x.2.2.1 x.2.1.1 ∧ Lh σ x.2.2.2)
    (fun x => [.v (.str s), .v x.2.2.1, .v (.int .i64 (frm x.1 x.2.1.2)), .v (.int .i64 (s.size : Int)), .v (.int .i64 (x.1 : Int))]) (fun x => x.2.2.2) (fun x => s.size - x.1) (fun ⟨i, t, a, σi⟩ ⟨hi, hA, hG, hl⟩ => ?_)
    (0, startC, .sl σ.length 0 0 true, hnew σ 1 []) ⟨Nat.zero_le _, AtC.zero s, GrS.new σ true, Lh.new _ _ _⟩
  simp only at hi hA hG hl ⊢
  have h2i := hA.2.2.2
  have hfl := flush_len t
  refine W.to (fun k _ => by rw [impl_LexCut.L0_step]) ?_
  refine B.ite (fun hlt => ?_) fun hlt => ?_
  rotate_left
  · obtain rfl : i = s.size := by omega
    have hrun : runC startC s.data.toList = some t := by rw [← hA.1, List.take_of_length_le (by rw [sz_list]; omega)]
    rw [hrun] at hcut
    have fin : ∀ {ι : Type} {Next : Cmp ι → Prop} {v : V} {σ' : Heap}, GrS σ.length σ' v (flushC t) → Lh σ σ' → W (CutP s σ) Next (fun k m => (vlen v).bind fun k8 => bif decide (1500 < (k8 : Int)) then some (.tuple [.nils, .bool false], σ') else some (.tuple [v, .bool true], σ')) := by
      intro ι Next v σ' g l
      refine W.len (g.rep (P := StrRep) fun _ => rfl) (W.ite (fun h => ?_) fun h => ?_)
      · have e : cutR s = ([], false) := by rw [hcut]; unfold endC; simp only; rw [if_pos (by omega)]
        exact W.ret ⟨.nils, by rw [e], by rw [e]; exact .nils, l⟩
      · have e : cutR s = (flushC t, true) := by rw [hcut]; unfold endC; simp only; rw [if_neg (by omega)]
        exact W.ret ⟨v, by rw [e], by rw [e]; exact g.rep fun _ => rfl, l⟩
    by_cases hc : t.2 = []
    · have hf : frm s.size t.2 = -1 := by rw [hc]; rfl
      try simp only [q_bind_some, castInt_int, q_castBool, q_castStr, q_castPtr, q_castFn, q_castAgg, q_castTuple, q_uncons, q_isNil, q_sl, q_nils, q_emp, q_ptr, q_nilp, q_fn, q_cond_true, q_cond_false, Bool.not_true, Bool.not_false, decide_true, decide_false, List.cons_append, List.nil_append, hf, impl_LexCut.A0_x0, show decide ((0 : Int) ≤ -1) = false from rfl]
      exact fin (by rw [flush_none hc]; exact hG) hl
    · have hf := frm_some (i := s.size) hc
      have hp : (0 : Int) ≤ ((s.size - t.2.length : Nat) : Int) := by omega
      obtain ⟨v', σ', g1, g2, g3, g4, g5⟩ := hG.app' ⟨t.2.toArray⟩ (by omega)
      try simp only [q_bind_some, castInt_int, q_castBool, q_castStr, q_castPtr, q_castFn, q_castAgg, q_castTuple, q_uncons, q_isNil, q_sl, q_nils, q_emp, q_ptr, q_nilp, q_fn, q_cond_true, q_cond_false, Bool.not_true, Bool.not_false, decide_true, decide_false, List.cons_append, List.nil_append, hf, impl_LexCut.A0_x0, decide_eq_true hp, hA.tail, g1]
      exact fin (by rw [flush_some hc]; exact g2) (g3 σ (Nat.le_refl _) hl)
  have hil : i < s.size := by omega
  have hnext := wrap_next hil (by omega)
  have hone := one_sub hil
  have hsub := hA.sub (Nat.le_of_lt hil)
  refine B.byte hil ?_
  refine B.run (isMark_runs _) ?_
  by_cases hm : markC s[i]
  · have hA' : AtC s (i + 1) (flushC t ++ [⟨#[s[i]]⟩], []) := hA.shut hil (step_mark hm) (by simp; omega)
    by_cases hc : t.2 = []
    · have hf : frm i t.2 = -1 := by rw [hc]; rfl
      try simp only [q_bind_some, castInt_int, q_castBool, q_castStr, q_castPtr, q_castFn, q_castAgg, q_castTuple, q_uncons, q_isNil, q_sl, q_nils, q_emp, q_ptr, q_nilp, q_fn, q_cond_true, q_cond_false, Bool.not_true, Bool.not_false, decide_true, decide_false, List.cons_append, List.nil_append, decide_eq_true hm, hf, show decide ((0 : Int) ≤ -1) = false from rfl]
      refine B.run (isMark_runs _) ?_
      obtain ⟨v', σ', g1, g2, g3, g4, g5⟩ := hG.app' ⟨#[s[i]]⟩ (by omega)
      try simp only [q_bind_some, castInt_int, q_castBool, q_castStr, q_castPtr, q_castFn, q_castAgg, q_castTuple, q_uncons, q_isNil, q_sl, q_nils, q_emp, q_ptr, q_nilp, q_fn, q_cond_true, q_cond_false, Bool.not_true, Bool.not_false, decide_true, decide_false, List.cons_append, List.nil_append, decide_eq_true hm, hnext, hone, g1]
      rw [flush_none hc] at hA'
      exact W.again (i + 1, (t.1 ++ [⟨#[s[i]]⟩], []), v', σ') ⟨by show i + 1 ≤ s.size; omega, hA', g2, g3 σ (Nat.le_refl _) hl⟩ (by simp only; omega) rfl rfl
    · have hf := frm_some (i := i) hc
      have hp : (0 : Int) ≤ ((i - t.2.length : Nat) : Int) := by omega
      obtain ⟨v1, σ1, g1, g2, g3, g4, g5⟩ := hG.app' ⟨t.2.toArray⟩ (by omega)
      try simp only [q_bind_some, castInt_int, q_castBool, q_castStr, q_castPtr, q_castFn, q_castAgg, q_castTuple, q_uncons, q_isNil, q_sl, q_nils, q_emp, q_ptr, q_nilp, q_fn, q_cond_true, q_cond_false, Bool.not_true, Bool.not_false, decide_true, decide_false, List.cons_append, List.nil_append, decide_eq_true hm, hf, decide_eq_true hp, hsub, g1]
      refine B.run (isMark_runs _) ?_
      obtain ⟨v2, σ2, f1, f2, f3, f4, f5⟩ := g2.app' ⟨#[s[i]]⟩ (by simp; omega)
      try simp only [q_bind_some, castInt_int, q_castBool, q_castStr, q_castPtr, q_castFn, q_castAgg, q_castTuple, q_uncons, q_isNil, q_sl, q_nils, q_emp, q_ptr, q_nilp, q_fn, q_cond_true, q_cond_false, Bool.not_true, Bool.not_false, decide_true, decide_false, List.cons_append, List.nil_append, decide_eq_true hm, hnext, hone, f1]
      rw [flush_some hc] at hA'
      exact W.again (i + 1, (t.1 ++ [⟨t.2.toArray⟩] ++ [⟨#[s[i]]⟩], []), v2, σ2) ⟨by show i + 1 ≤ s.size; omega, hA', f2, f3 σ (Nat.le_refl _) (g3 σ (Nat.le_refl _) hl)⟩ (by simp only; omega) rfl rfl
  try simp only [q_bind_some, castInt_int, q_castBool, q_castStr, q_castPtr, q_castFn, q_castAgg, q_castTuple, q_uncons, q_isNil, q_sl, q_nils, q_emp, q_ptr, q_nilp, q_fn, q_cond_true, q_cond_false, Bool.not_true, Bool.not_false, decide_true, decide_false, List.cons_append, List.nil_append, decide_eq_false hm]
  refine B.run (isBlank_runs _) ?_
  by_cases hb : blankC s[i]
  · have hA' : AtC s (i + 1) (flushC t, []) := hA.shut hil (step_blank hm hb) (by omega)
    by_cases hc : t.2 = []
    · have hf : frm i t.2 = -1 := by rw [hc]; rfl
      try simp only [q_bind_some, castInt_int, q_castBool, q_castStr, q_castPtr, q_castFn, q_castAgg, q_castTuple, q_uncons, q_isNil, q_sl, q_nils, q_emp, q_ptr, q_nilp, q_fn, q_cond_true, q_cond_false, Bool.not_true, Bool.not_false, decide_true, decide_false, List.cons_append, List.nil_append, decide_eq_true hb, hf, show decide ((0 : Int) ≤ -1) = false from rfl]
      refine B.run (isMark_runs _) ?_
      try simp only [q_bind_some, castInt_int, q_castBool, q_castStr, q_castPtr, q_castFn, q_castAgg, q_castTuple, q_uncons, q_isNil, q_sl, q_nils, q_emp, q_ptr, q_nilp, q_fn, q_cond_true, q_cond_false, Bool.not_true, Bool.not_false, decide_true, decide_false, List.cons_append, List.nil_append, decide_eq_false hm]
      refine B.run (isBlank_runs _) ?_
      try simp only [q_bind_some, castInt_int, q_castBool, q_castStr, q_castPtr, q_castFn, q_castAgg, q_castTuple, q_uncons, q_isNil, q_sl, q_nils, q_emp, q_ptr, q_nilp, q_fn, q_cond_true, q_cond_false, Bool.not_true, Bool.not_false, decide_true, decide_false, List.cons_append, List.nil_append, decide_eq_true hb, hnext]
      rw [flush_none hc] at hA'
      exact W.again (i + 1, (t.1, []), a, σi) ⟨by show i + 1 ≤ s.size; omega, hA', hG, hl⟩ (by simp only; omega) rfl rfl
    · have hf := frm_some (i := i) hc
      have hp : (0 : Int) ≤ ((i - t.2.length : Nat) : Int) := by omega
      obtain ⟨v1, σ1, g1, g2, g3, g4, g5⟩ := hG.app' ⟨t.2.toArray⟩ (by omega)
      try simp only [q_bind_some, castInt_int, q_castBool, q_castStr, q_castPtr, q_castFn, q_castAgg, q_castTuple, q_uncons, q_isNil, q_sl, q_nils, q_emp, q_ptr, q_nilp, q_fn, q_cond_true, q_cond_false, Bool.not_true, Bool.not_false, decide_true, decide_false, List.cons_append, List.nil_append, decide_eq_true hb, hf, decide_eq_true hp, hsub, g1]
      refine B.run (isMark_runs _) ?_
      try simp only [q_bind_some, castInt_int, q_castBool, q_castStr, q_castPtr, q_castFn, q_castAgg, q_castTuple, q_uncons, q_isNil, q_sl, q_nils, q_emp, q_ptr, q_nilp, q_fn, q_cond_true, q_cond_false, Bool.not_true, Bool.not_false, decide_true, decide_false, List.cons_append, List.nil_append, decide_eq_false hm]
      refine B.run (isBlank_runs _) ?_
      try simp only [q_bind_some, castInt_int, q_castBool, q_castStr, q_castPtr, q_castFn, q_castAgg, q_castTuple, q_uncons, q_isNil, q_sl, q_nils, q_emp, q_ptr, q_nilp, q_fn, q_cond_true, q_cond_false, Bool.not_true, Bool.not_false, decide_true, decide_false, List.cons_append, List.nil_append, decide_eq_true hb, hnext]
      rw [flush_some hc] at hA'
      exact W.again (i + 1, (t.1 ++ [⟨t.2.toArray⟩], []), v1, σ1) ⟨by show i + 1 ≤ s.size; omega, hA', g2, g3 σ (Nat.le_refl _) hl⟩ (by simp only; omega) rfl rfl
  try simp only [q_bind_some, castInt_int, q_castBool, q_castStr, q_castPtr, q_castFn, q_castAgg, q_castTuple, q_uncons, q_isNil, q_sl, q_nils, q_emp, q_ptr, q_nilp, q_fn, q_cond_true, q_cond_false, Bool.not_true, Bool.not_false, decide_true, decide_false, List.cons_append, List.nil_append, decide_eq_false hb]
  refine B.run (isMark_runs _) ?_
  try simp only [q_bind_some, castInt_int, q_castBool, q_castStr, q_castPtr, q_castFn, q_castAgg, q_castTuple, q_uncons, q_isNil, q_sl, q_nils, q_emp, q_ptr, q_nilp, q_fn, q_cond_true, q_cond_false, Bool.not_true, Bool.not_false, decide_true, decide_false, List.cons_append, List.nil_append, decide_eq_false hm]
  refine B.run (isBlank_runs _) ?_
  try simp only [q_bind_some, castInt_int, q_castBool, q_castStr, q_castPtr, q_castFn, q_castAgg, q_castTuple, q_uncons, q_isNil, q_sl, q_nils, q_emp, q_ptr, q_nilp, q_fn, q_cond_true, q_cond_false, Bool.not_true, Bool.not_false, decide_true, decide_false, List.cons_append, List.nil_append, decide_eq_false hb]
  have hu8 : (s[i].toNat : Int) < 256 := by have := s[i].toNat_lt; omega
  have hw : IntKind.wrap .i64 (s[i].toNat : Int) = (s[i].toNat : Int) := wrap_id (by omega) (by omega)
  rw [hw]
  refine B.run (inRange_runs _ _ _) ?_
  by_cases hf : fineC s[i]
  · have hA' := hA.more hil hf hm
    have hf' : ((33 : Int) ≤ (s[i].toNat : Int) ∧ (s[i].toNat : Int) ≤ 126) := hf
    try simp only [q_bind_some, castInt_int, q_castBool, q_castStr, q_castPtr, q_castFn, q_castAgg, q_castTuple, q_uncons, q_isNil, q_sl, q_nils, q_emp, q_ptr, q_nilp, q_fn, q_cond_true, q_cond_false, Bool.not_true, Bool.not_false, decide_true, decide_false, List.cons_append, List.nil_append, decide_eq_true hf']
    by_cases hc : t.2 = []
    · have hfm : frm i t.2 = -1 := by rw [hc]; rfl
      try simp only [q_bind_some, castInt_int, q_castBool, q_castStr, q_castPtr, q_castFn, q_castAgg, q_castTuple, q_uncons, q_isNil, q_sl, q_nils, q_emp, q_ptr, q_nilp, q_fn, q_cond_true, q_cond_false, Bool.not_true, Bool.not_false, decide_true, decide_false, List.cons_append, List.nil_append, hfm, hnext, show decide ((-1 : Int) < 0) = true from rfl]
      refine W.again (i + 1, (t.1, t.2 ++ [s[i]]), a, σi) ⟨by show i + 1 ≤ s.size; omega, hA', hG, hl⟩ (by simp only; omega) ?_ rfl
      have : frm (i + 1) (t.2 ++ [s[i]]) = (i : Int) := by rw [hc]; unfold frm; simp
      simp only [this]
    · have hfm := frm_some (i := i) hc
      have hp : ¬ (((i - t.2.length : Nat) : Int) < 0) := by omega
      try simp only [q_bind_some, castInt_int, q_castBool, q_castStr, q_castPtr, q_castFn, q_castAgg, q_castTuple, q_uncons, q_isNil, q_sl, q_nils, q_emp, q_ptr, q_nilp, q_fn, q_cond_true, q_cond_false, Bool.not_true, Bool.not_false, decide_true, decide_false, List.cons_append, List.nil_append, hfm, hnext, decide_eq_false hp]
      refine W.again (i + 1, (t.1, t.2 ++ [s[i]]), a, σi) ⟨by show i + 1 ≤ s.size; omega, hA', hG, hl⟩ (by simp only; omega) ?_ rfl
      have : frm (i + 1) (t.2 ++ [s[i]]) = ((i - t.2.length : Nat) : Int) := by unfold frm; simp
      simp only [this]
  · have hf' : ¬ ((33 : Int) ≤ (s[i].toNat : Int) ∧ (s[i].toNat : Int) ≤ 126) := hf
    try simp only [q_bind_some, castInt_int, q_castBool, q_castStr, q_castPtr, q_castFn, q_castAgg, q_castTuple, q_uncons, q_isNil, q_sl, q_nils, q_emp, q_ptr, q_nilp, q_fn, q_cond_true, q_cond_false, Bool.not_true, Bool.not_false, decide_true, decide_false, List.cons_append, List.nil_append, decide_eq_false hf', impl_LexCut.A0_ret]
    rw [run_bad hA hil (step_bad hm hb hf)] at hcut
    exact W.ret ⟨.nils, by rw [hcut]; rfl, by rw [hcut]; exact .nils, hl⟩
end Go.A
