/- LexCut of the reference. -/
import Derived.Test.YtjadancpencnnaaLexCut
set_option linter.unusedVariables false
set_option linter.unusedSimpArgs false
namespace Go.A
open Go.HM Go.Proofs
theorem specLexCut_ends (σ : Heap) (s : ByteArray) : HM.Ends G n_spec_LexCut [.str s] σ (CutP s σ) := by
  refine HM.Ends.mk (W.to (fun k _ => spec_LexCut.eq k _ _) ?_)
  refine W.ite (fun h4 => ?_) fun h4 => ?_
  · have e : cutR s = ([], false) := by unfold cutR; rw [if_pos (by omega)]
    exact W.ret ⟨.nils, by rw [e], by rw [e]; exact .nils, Lh.refl _⟩
  have hcut : cutR s = endC (runC startC s.data.toList) := by unfold cutR; rw [if_neg (by omega)]
  refine W.loop (S := Nat × CutS × V × Heap) (fun x => ((x.1 ≤ s.size ∧ AtC s x.1 x.2.1) ∨ (x.1 = s.size + 1 ∧ x.2.1.2 = [] ∧ ∃ t', runC startC s.data.toList = some t' ∧ x.2.1.1 = flushC t')) ∧ GrS σ.length x.2.2.2 x.2.2.1 x.2.1.1 ∧ Lh σ x.2.2.2)
    (fun x => [.v (.str s), .v x.2.2.1, .v (.int .i64 ((x.1 - x.2.1.2.length : Nat) : Int)), .v (.int .i64 (x.1 : Int))]) (fun x => x.2.2.2) (fun x => s.size + 1 - x.1) (fun ⟨i, t, a, σi⟩ ⟨hA, hG, hl⟩ => ?_)
    (0, startC, .sl σ.length 0 0 true, hnew σ 1 []) ⟨.inl ⟨Nat.zero_le _, AtC.zero s⟩, GrS.new σ true, Lh.new _ _ _⟩
  simp only at hA hG hl ⊢
  have hfl := flush_len t
  refine W.to (fun k _ => by rw [spec_LexCut.L0_step]) ?_
  refine B.ite (fun hlt => ?_) fun hlt => ?_
  rotate_left
  · rcases hA with ⟨h1, _⟩ | ⟨hi, h2, t', h3, h5⟩
    · omega
    rw [h3] at hcut
    rw [h5] at hG
    try simp only [q_bind_some, castInt_int, q_castBool, q_castStr, q_castPtr, q_castFn, q_castAgg, q_castTuple, q_uncons, q_isNil, q_sl, q_nils, q_emp, q_ptr, q_nilp, q_fn, q_cond_true, q_cond_false, Bool.not_true, Bool.not_false, decide_true, decide_false, List.cons_append, List.nil_append, spec_LexCut.A0_x0]
    refine W.len (hG.rep (P := StrRep) fun _ => rfl) (W.ite (fun h => ?_) fun h => ?_)
    · have e : cutR s = ([], false) := by rw [hcut]; unfold endC; simp only; rw [if_pos (by omega)]
      exact W.ret ⟨.nils, by rw [e], by rw [e]; exact .nils, hl⟩
    · have e : cutR s = (flushC t', true) := by rw [hcut]; unfold endC; simp only; rw [if_neg (by omega)]
      exact W.ret ⟨a, by rw [e], by rw [e]; exact hG.rep fun _ => rfl, hl⟩
  rcases hA with ⟨hi, hA⟩ | ⟨hi, _⟩
  rotate_left
  · omega
  have h2i := hA.2.2.2
  have h2l := hA.2.1
  have hnext : IntKind.wrap .i64 ((i : Int) + 1) = ((i + 1 : Nat) : Int) := wrap_id (by omega) (by omega)
  have hsub := hA.sub hi
  by_cases hil : i < s.size
  rotate_left
  · obtain rfl : i = s.size := by omega
    have hd : decide ((s.size : Int) < (s.size : Int)) = false := decide_eq_false (by omega)
    have hrun : runC startC s.data.toList = some t := by rw [← hA.1, List.take_of_length_le (by rw [sz_list]; omega)]
    by_cases hc : t.2 = []
    · have hp : decide (((s.size - t.2.length : Nat) : Int) < (s.size : Int)) = false := decide_eq_false (by rw [hc]; simp)
      try simp only [q_bind_some, castInt_int, q_castBool, q_castStr, q_castPtr, q_castFn, q_castAgg, q_castTuple, q_uncons, q_isNil, q_sl, q_nils, q_emp, q_ptr, q_nilp, q_fn, q_cond_true, q_cond_false, Bool.not_true, Bool.not_false, decide_true, decide_false, List.cons_append, List.nil_append, hd, hp, hnext]
      exact W.again (s.size + 1, (t.1, []), a, σi) ⟨.inr ⟨rfl, rfl, t, hrun, (flush_none hc).symm⟩, hG, hl⟩ (by simp only; omega) rfl rfl
    · have hp : decide (((s.size - t.2.length : Nat) : Int) < (s.size : Int)) = true := decide_eq_true (by have := List.length_pos_iff.2 hc; omega)
      obtain ⟨v1, σ1, g1, g2, g3, g4, g5⟩ := hG.app' ⟨t.2.toArray⟩ (by omega)
      try simp only [q_bind_some, castInt_int, q_castBool, q_castStr, q_castPtr, q_castFn, q_castAgg, q_castTuple, q_uncons, q_isNil, q_sl, q_nils, q_emp, q_ptr, q_nilp, q_fn, q_cond_true, q_cond_false, Bool.not_true, Bool.not_false, decide_true, decide_false, List.cons_append, List.nil_append, hd, hp, hnext, hsub, g1]
      exact W.again (s.size + 1, (t.1 ++ [⟨t.2.toArray⟩], []), v1, σ1) ⟨.inr ⟨rfl, rfl, t, hrun, (flush_some hc).symm⟩, g2, g3 σ (Nat.le_refl _) hl⟩ (by simp only; omega) rfl rfl
  have hd : decide ((i : Int) < (s.size : Int)) = true := decide_eq_true (by omega)
  have hby : sbyte s (i : Int) = some (s[i].toNat : Int) := sbyte_at hil
  have hone := one_sub hil
  try simp only [q_bind_some, castInt_int, q_castBool, q_castStr, q_castPtr, q_castFn, q_castAgg, q_castTuple, q_uncons, q_isNil, q_sl, q_nils, q_emp, q_ptr, q_nilp, q_fn, q_cond_true, q_cond_false, Bool.not_true, Bool.not_false, decide_true, decide_false, List.cons_append, List.nil_append, hd, hby]
  refine B.run (l1Fine_runs _) ?_
  by_cases hbf : blankC s[i] ∨ fineC s[i]
  rotate_left
  · try simp only [q_bind_some, castInt_int, q_castBool, q_castStr, q_castPtr, q_castFn, q_castAgg, q_castTuple, q_uncons, q_isNil, q_sl, q_nils, q_emp, q_ptr, q_nilp, q_fn, q_cond_true, q_cond_false, Bool.not_true, Bool.not_false, decide_true, decide_false, List.cons_append, List.nil_append, decide_eq_false hbf, spec_LexCut.A0_ret]
    rw [run_bad hA hil (step_bad (fun h => hbf (.inr (mark_fine h))) (fun h => hbf (.inl h)) fun h => hbf (.inr h))] at hcut
    exact W.ret ⟨.nils, by rw [hcut]; rfl, by rw [hcut]; exact .nils, hl⟩
  try simp only [q_bind_some, castInt_int, q_castBool, q_castStr, q_castPtr, q_castFn, q_castAgg, q_castTuple, q_uncons, q_isNil, q_sl, q_nils, q_emp, q_ptr, q_nilp, q_fn, q_cond_true, q_cond_false, Bool.not_true, Bool.not_false, decide_true, decide_false, List.cons_append, List.nil_append, decide_eq_true hbf, hd, hby]
  refine B.run (l1Blank_runs _) ?_
  by_cases hb : blankC s[i]
  · have hm : ¬ markC s[i] := fun h => by unfold markC at h; unfold blankC at hb; omega
    have hA' : AtC s (i + 1) (flushC t, []) := hA.shut hil (step_blank hm hb) (by omega)
    by_cases hc : t.2 = []
    · have hp : decide (((i - t.2.length : Nat) : Int) < (i : Int)) = false := decide_eq_false (by rw [hc]; simp)
      try simp only [q_bind_some, castInt_int, q_castBool, q_castStr, q_castPtr, q_castFn, q_castAgg, q_castTuple, q_uncons, q_isNil, q_sl, q_nils, q_emp, q_ptr, q_nilp, q_fn, q_cond_true, q_cond_false, Bool.not_true, Bool.not_false, decide_true, decide_false, List.cons_append, List.nil_append, decide_eq_true hb, hp, hd, hby]
      refine B.run (l1Blank_runs _) ?_
      try simp only [q_bind_some, castInt_int, q_castBool, q_castStr, q_castPtr, q_castFn, q_castAgg, q_castTuple, q_uncons, q_isNil, q_sl, q_nils, q_emp, q_ptr, q_nilp, q_fn, q_cond_true, q_cond_false, Bool.not_true, Bool.not_false, decide_true, decide_false, List.cons_append, List.nil_append, decide_eq_true hb, hnext]
      rw [flush_none hc] at hA'
      exact W.again (i + 1, (t.1, []), a, σi) ⟨.inl ⟨by show i + 1 ≤ s.size; omega, hA'⟩, hG, hl⟩ (by simp only; omega) rfl rfl
    · have hp : decide (((i - t.2.length : Nat) : Int) < (i : Int)) = true := decide_eq_true (by have := List.length_pos_iff.2 hc; omega)
      obtain ⟨v1, σ1, g1, g2, g3, g4, g5⟩ := hG.app' ⟨t.2.toArray⟩ (by omega)
      try simp only [q_bind_some, castInt_int, q_castBool, q_castStr, q_castPtr, q_castFn, q_castAgg, q_castTuple, q_uncons, q_isNil, q_sl, q_nils, q_emp, q_ptr, q_nilp, q_fn, q_cond_true, q_cond_false, Bool.not_true, Bool.not_false, decide_true, decide_false, List.cons_append, List.nil_append, decide_eq_true hb, hp, hsub, g1, hd, hby]
      refine B.run (l1Blank_runs _) ?_
      try simp only [q_bind_some, castInt_int, q_castBool, q_castStr, q_castPtr, q_castFn, q_castAgg, q_castTuple, q_uncons, q_isNil, q_sl, q_nils, q_emp, q_ptr, q_nilp, q_fn, q_cond_true, q_cond_false, Bool.not_true, Bool.not_false, decide_true, decide_false, List.cons_append, List.nil_append, decide_eq_true hb, hnext]
      rw [flush_some hc] at hA'
      exact W.again (i + 1, (t.1 ++ [⟨t.2.toArray⟩], []), v1, σ1) ⟨.inl ⟨by show i + 1 ≤ s.size; omega, hA'⟩, g2, g3 σ (Nat.le_refl _) hl⟩ (by simp only; omega) rfl rfl
  have hf : fineC s[i] := hbf.resolve_left hb
  by_cases hm : markC s[i]
  rotate_left
  · have h40 : ¬ (s[i].toNat : Int) = 40 := fun h => hm (.inl h)
    have h41 : ¬ (s[i].toNat : Int) = 41 := fun h => hm (.inr h)
    have hA' := hA.more hil hf hm
    try simp only [q_bind_some, castInt_int, q_castBool, q_castStr, q_castPtr, q_castFn, q_castAgg, q_castTuple, q_uncons, q_isNil, q_sl, q_nils, q_emp, q_ptr, q_nilp, q_fn, q_cond_true, q_cond_false, Bool.not_true, Bool.not_false, decide_true, decide_false, List.cons_append, List.nil_append, decide_eq_false hb, hby, decide_eq_false h40, decide_eq_false h41, hnext]
    refine W.again (i + 1, (t.1, t.2 ++ [s[i]]), a, σi) ⟨.inl ⟨by show i + 1 ≤ s.size; omega, hA'⟩, hG, hl⟩ (by simp only; omega) ?_ rfl
    have : i + 1 - (t.2 ++ [s[i]]).length = i - t.2.length := by simp
    simp only [this]
  have hA' : AtC s (i + 1) (flushC t ++ [⟨#[s[i]]⟩], []) := hA.shut hil (step_mark hm) (by simp; omega)
  by_cases h40 : (s[i].toNat : Int) = 40
  · by_cases hc : t.2 = []
    · have hp : decide (((i - t.2.length : Nat) : Int) < (i : Int)) = false := decide_eq_false (by rw [hc]; simp)
      try simp only [q_bind_some, castInt_int, q_castBool, q_castStr, q_castPtr, q_castFn, q_castAgg, q_castTuple, q_uncons, q_isNil, q_sl, q_nils, q_emp, q_ptr, q_nilp, q_fn, q_cond_true, q_cond_false, Bool.not_true, Bool.not_false, decide_true, decide_false, List.cons_append, List.nil_append, decide_eq_false hb, hby, decide_eq_true h40, hp, hd]
      refine B.run (l1Blank_runs _) ?_
      obtain ⟨v', σ', g1, g2, g3, g4, g5⟩ := hG.app' ⟨#[s[i]]⟩ (by omega)
      try simp only [q_bind_some, castInt_int, q_castBool, q_castStr, q_castPtr, q_castFn, q_castAgg, q_castTuple, q_uncons, q_isNil, q_sl, q_nils, q_emp, q_ptr, q_nilp, q_fn, q_cond_true, q_cond_false, Bool.not_true, Bool.not_false, decide_true, decide_false, List.cons_append, List.nil_append, decide_eq_false hb, hnext, hone, g1]
      rw [flush_none hc] at hA'
      exact W.again (i + 1, (t.1 ++ [⟨#[s[i]]⟩], []), v', σ') ⟨.inl ⟨by show i + 1 ≤ s.size; omega, hA'⟩, g2, g3 σ (Nat.le_refl _) hl⟩ (by simp only; omega) rfl rfl
    · have hp : decide (((i - t.2.length : Nat) : Int) < (i : Int)) = true := decide_eq_true (by have := List.length_pos_iff.2 hc; omega)
      obtain ⟨v1, σ1, g1, g2, g3, g4, g5⟩ := hG.app' ⟨t.2.toArray⟩ (by omega)
      try simp only [q_bind_some, castInt_int, q_castBool, q_castStr, q_castPtr, q_castFn, q_castAgg, q_castTuple, q_uncons, q_isNil, q_sl, q_nils, q_emp, q_ptr, q_nilp, q_fn, q_cond_true, q_cond_false, Bool.not_true, Bool.not_false, decide_true, decide_false, List.cons_append, List.nil_append, decide_eq_false hb, hby, decide_eq_true h40, hp, hd, hsub, g1]
      refine B.run (l1Blank_runs _) ?_
      obtain ⟨v2, σ2, f1, f2, f3, f4, f5⟩ := g2.app' ⟨#[s[i]]⟩ (by simp; omega)
      try simp only [q_bind_some, castInt_int, q_castBool, q_castStr, q_castPtr, q_castFn, q_castAgg, q_castTuple, q_uncons, q_isNil, q_sl, q_nils, q_emp, q_ptr, q_nilp, q_fn, q_cond_true, q_cond_false, Bool.not_true, Bool.not_false, decide_true, decide_false, List.cons_append, List.nil_append, decide_eq_false hb, hnext, hone, f1]
      rw [flush_some hc] at hA'
      exact W.again (i + 1, (t.1 ++ [⟨t.2.toArray⟩] ++ [⟨#[s[i]]⟩], []), v2, σ2) ⟨.inl ⟨by show i + 1 ≤ s.size; omega, hA'⟩, f2, f3 σ (Nat.le_refl _) (g3 σ (Nat.le_refl _) hl)⟩ (by simp only; omega) rfl rfl
  · have h41 : (s[i].toNat : Int) = 41 := hm.resolve_left h40
    by_cases hc : t.2 = []
    · have hp : decide (((i - t.2.length : Nat) : Int) < (i : Int)) = false := decide_eq_false (by rw [hc]; simp)
      try simp only [q_bind_some, castInt_int, q_castBool, q_castStr, q_castPtr, q_castFn, q_castAgg, q_castTuple, q_uncons, q_isNil, q_sl, q_nils, q_emp, q_ptr, q_nilp, q_fn, q_cond_true, q_cond_false, Bool.not_true, Bool.not_false, decide_true, decide_false, List.cons_append, List.nil_append, decide_eq_false hb, hby, decide_eq_false h40, decide_eq_true h41, hp, hd]
      refine B.run (l1Blank_runs _) ?_
      obtain ⟨v', σ', g1, g2, g3, g4, g5⟩ := hG.app' ⟨#[s[i]]⟩ (by omega)
      try simp only [q_bind_some, castInt_int, q_castBool, q_castStr, q_castPtr, q_castFn, q_castAgg, q_castTuple, q_uncons, q_isNil, q_sl, q_nils, q_emp, q_ptr, q_nilp, q_fn, q_cond_true, q_cond_false, Bool.not_true, Bool.not_false, decide_true, decide_false, List.cons_append, List.nil_append, decide_eq_false hb, hnext, hone, g1]
      rw [flush_none hc] at hA'
      exact W.again (i + 1, (t.1 ++ [⟨#[s[i]]⟩], []), v', σ') ⟨.inl ⟨by show i + 1 ≤ s.size; omega, hA'⟩, g2, g3 σ (Nat.le_refl _) hl⟩ (by simp only; omega) rfl rfl
    · have hp : decide (((i - t.2.length : Nat) : Int) < (i : Int)) = true := decide_eq_true (by have := List.length_pos_iff.2 hc; omega)
      obtain ⟨v1, σ1, g1, g2, g3, g4, g5⟩ := hG.app' ⟨t.2.toArray⟩ (by omega)
      try simp only [q_bind_some, castInt_int, q_castBool, q_castStr, q_castPtr, q_castFn, q_castAgg, q_castTuple, q_uncons, q_isNil, q_sl, q_nils, q_emp, q_ptr, q_nilp, q_fn, q_cond_true, q_cond_false, Bool.not_true, Bool.not_false, decide_true, decide_false, List.cons_append, List.nil_append, decide_eq_false hb, hby, decide_eq_false h40, decide_eq_true h41, hp, hd, hsub, g1]
      refine B.run (l1Blank_runs _) ?_
      obtain ⟨v2, σ2, f1, f2, f3, f4, f5⟩ := g2.app' ⟨#[s[i]]⟩ (by simp; omega)
      try simp only [q_bind_some, castInt_int, q_castBool, q_castStr, q_castPtr, q_castFn, q_castAgg, q_castTuple, q_uncons, q_isNil, q_sl, q_nils, q_emp, q_ptr, q_nilp, q_fn, q_cond_true, q_cond_false, Bool.not_true, Bool.not_false, decide_true, decide_false, List.cons_append, List.nil_append, decide_eq_false hb, hnext, hone, f1]
      rw [flush_some hc] at hA'
      exact W.again (i + 1, (t.1 ++ [⟨t.2.toArray⟩] ++ [⟨#[s[i]]⟩], []), v2, σ2) ⟨.inl ⟨by show i + 1 ≤ s.size; omega, hA'⟩, f2, f3 σ (Nat.le_refl _) (g3 σ (Nat.le_refl _) hl)⟩ (by simp only; omega) rfl rfl
end Go.A
