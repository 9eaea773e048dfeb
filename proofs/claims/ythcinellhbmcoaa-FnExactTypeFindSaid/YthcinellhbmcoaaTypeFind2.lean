/- TypeFind of the reference. -/
import Derived.Test.YthcinellhbmcoaaTypeFind
set_option linter.unusedVariables false
set_option linter.unusedSimpArgs false
namespace Go.X
open Go.HM Go.Proofs
theorem specTypeFind_ends {σ : Heap} {m : TreeMod} (hm : m.total ≤ 1048576) {l : List TypeFace} (hl : l.length + totS TypeFace.total l ≤ 1048576) {cs : List V} (h : TreeMod.Rep σ cs m) {v : V} (hv : RepS 2 (TypeFace.Rep σ) σ v l) (mod name : ByteArray) :
    HM.Ends G n_spec_TypeFind [.agg cs, v, .str mod, .str name] σ (FindP σ (findSig m l mod name)) := by
  rw [TreeMod.total_eq] at hm
  cases h with
  | mk hU hF hM =>
  rename_i a0 a1 a2
  refine HM.Ends.mk (W.to (fun k _ => spec_TypeFind.eq k _ _ _ _ _ _ _) ?_)
  refine W.ite (fun hm0 => ?_) fun hm0 => ?_
  · refine W.loop (S := Nat) (fun i => i ≤ m.funs.length ∧ ∀ (j : Nat) y, j < i → m.funs[j]? = some y → decide (y.name = name) = false) (fun i => [.v (.str name), .box [a0, a1, a2], .box [.str (⟨#[]⟩ : ByteArray), .nils, .int .i64 0], .v (.int .i64 (i : Int))]) (fun _ => σ) (fun i => m.funs.length - i)
      (fun i ⟨hi, hno⟩ => ?_) 0 ⟨Nat.zero_le _, fun j y hj => absurd hj (Nat.not_lt_zero _)⟩
    refine W.to (fun k _ => by rw [spec_TypeFind.L0_step]) ?_
    refine B.len hF (B.ite (fun hlt => ?_) fun hlt => ?_)
    · have hil : i < m.funs.length := by omega
      have hx : m.funs[i]? = some m.funs[i] := List.getElem?_eq_getElem hil
      generalize m.funs[i] = x at hx
      obtain ⟨r, o, hv', cs, hr, hP⟩ := hF.at' hx
      have hxl : x.args.length ≤ 1048576 := by have := totS_mem TreeFun.total (List.mem_of_getElem? hx); have := TreeFun.total_eq x; omega
      have hc := specSig_ends hxl hP
      cases hP with
      | mk g1 g2 =>
      have e0 : rdc σ r (o + 0) 1 = some [.str x.name] := rdc_sub hr 0 1 (by omega)
      try simp only [q_bind_some, castInt_int, q_castBool, q_castStr, q_castPtr, q_castFn, q_castAgg, q_castTuple, q_uncons, q_isNil, q_sl, q_nils, q_emp, q_ptr, q_nilp, q_fn, q_cond_true, q_cond_false, Bool.not_true, Bool.not_false, decide_true, decide_false, List.cons_append, List.nil_append, hv', e0]
      by_cases hn : x.name = name
      · try simp only [q_bind_some, castInt_int, q_castBool, q_castStr, q_castPtr, q_castFn, q_castAgg, q_castTuple, q_uncons, q_isNil, q_sl, q_nils, q_emp, q_ptr, q_nilp, q_fn, q_cond_true, q_cond_false, Bool.not_true, Bool.not_false, decide_true, decide_false, List.cons_append, List.nil_append, decide_eq_true hn, hv', hr]
        refine B.call hc ?_
        rintro _ σ3 ⟨av, R, rfl, hO⟩
        try simp only [q_bind_some, castInt_int, q_castBool, q_castStr, q_castPtr, q_castFn, q_castAgg, q_castTuple, q_uncons, q_isNil, q_sl, q_nils, q_emp, q_ptr, q_nilp, q_fn, q_cond_true, q_cond_false, Bool.not_true, Bool.not_false, decide_true, decide_false, List.cons_append, List.nil_append, spec_TypeFind.A0_ret]
        rw [fs_own_some hm0 (find_at hx (by simp [hn]) hno)]
        exact W.ret ⟨av, R, rfl, hO⟩
      · try simp only [q_bind_some, castInt_int, q_castBool, q_castStr, q_castPtr, q_castFn, q_castAgg, q_castTuple, q_uncons, q_isNil, q_sl, q_nils, q_emp, q_ptr, q_nilp, q_fn, q_cond_true, q_cond_false, Bool.not_true, Bool.not_false, decide_true, decide_false, List.cons_append, List.nil_append, decide_eq_false hn, wrap_next hil (by omega)]
        refine W.again (i + 1) ⟨by omega, fun j y hj hy => ?_⟩ (by omega) rfl rfl
        by_cases hij : j = i
        · subst hij
          rw [hx] at hy
          injection hy with hy
          rw [← hy]; exact decide_eq_false hn
        · exact hno j y (by omega) hy
    · try simp only [q_bind_some, castInt_int, q_castBool, q_castStr, q_castPtr, q_castFn, q_castAgg, q_castTuple, q_uncons, q_isNil, q_sl, q_nils, q_emp, q_ptr, q_nilp, q_fn, q_cond_true, q_cond_false, Bool.not_true, Bool.not_false, decide_true, decide_false, List.cons_append, List.nil_append, spec_TypeFind.A0_x0]
      rw [fs_own_none hm0 (find_no fun j y hy => hno j y (by have := lt_of_get hy; omega) hy)]
      exact W.ret (FindP.none (Lh.refl _))
  refine W.loop (S := Nat × Bool) (fun s => s.1 ≤ m.uses.length ∧ (s.2 = true ↔ mod ∈ m.uses.take s.1)) (fun s => [.v v, .v (.str mod), .v (.str name), .box [a0, a1, a2], .box [.str (⟨#[]⟩ : ByteArray), .nils, .int .i64 0], .v (.bool s.2), .v (.int .i64 (s.1 : Int))]) (fun _ => σ) (fun s => m.uses.length - s.1)
    (fun ⟨i, b⟩ ⟨hi, hb⟩ => ?_) (0, false) ⟨Nat.zero_le _, by simp⟩
  simp only at hi hb ⊢
  refine W.to (fun k _ => by rw [spec_TypeFind.L1_step]) ?_
  refine B.len hU (B.ite (fun hlt => ?_) fun hlt => ?_)
  · have hil : i < m.uses.length := by omega
    have hx : m.uses[i]? = some m.uses[i] := List.getElem?_eq_getElem hil
    generalize m.uses[i] = x at hx
    have htk := take_next' hx
    cases b with
    | true =>
      try simp only [q_bind_some, castInt_int, q_castBool, q_castStr, q_castPtr, q_castFn, q_castAgg, q_castTuple, q_uncons, q_isNil, q_sl, q_nils, q_emp, q_ptr, q_nilp, q_fn, q_cond_true, q_cond_false, Bool.not_true, Bool.not_false, decide_true, decide_false, List.cons_append, List.nil_append, wrap_next hil (by omega)]
      exact W.again (i + 1, true) ⟨by show i + 1 ≤ m.uses.length; omega, by rw [htk]; simp [hb.1 rfl]⟩ (by simp only; omega) rfl rfl
    | false =>
      have hnm : mod ∉ m.uses.take i := fun hc => by have := hb.2 hc; cases this
      obtain ⟨r, o, hv', cs, hr, hP⟩ := hU.at' hx
      unfold StrRep at hP
      subst hP
      try simp only [q_bind_some, castInt_int, q_castBool, q_castStr, q_castPtr, q_castFn, q_castAgg, q_castTuple, q_uncons, q_isNil, q_sl, q_nils, q_emp, q_ptr, q_nilp, q_fn, q_cond_true, q_cond_false, Bool.not_true, Bool.not_false, decide_true, decide_false, List.cons_append, List.nil_append, hv', hr, wrap_next hil (by omega)]
      refine W.again (i + 1, decide (x = mod)) ⟨by show i + 1 ≤ m.uses.length; omega, ?_⟩ (by simp only; omega) rfl rfl
      rw [htk]
      simp only [decide_eq_true_eq, List.mem_append, List.mem_singleton]
      exact ⟨fun h => .inr h.symm, fun h => h.elim (fun h => absurd h hnm) fun h => h.symm⟩
  obtain rfl : i = m.uses.length := by omega
  rw [List.take_length] at hb
  try simp only [q_bind_some, castInt_int, q_castBool, q_castStr, q_castPtr, q_castFn, q_castAgg, q_castTuple, q_uncons, q_isNil, q_sl, q_nils, q_emp, q_ptr, q_nilp, q_fn, q_cond_true, q_cond_false, Bool.not_true, Bool.not_false, decide_true, decide_false, List.cons_append, List.nil_append, spec_TypeFind.A1_x2]
  refine W.loop (S := Nat) (fun i => i ≤ l.length ∧ ∀ (j : Nat) y, j < i → l[j]? = some y → decide (y.mod = mod) = false) (fun i => [.v v, .v (.str mod), .v (.str name), .box [.str (⟨#[]⟩ : ByteArray), .nils, .int .i64 0], .v (.bool b), .v (.int .i64 (i : Int))]) (fun _ => σ) (fun i => l.length - i)
    (fun i ⟨hi, hno⟩ => ?_) 0 ⟨Nat.zero_le _, fun j y hj => absurd hj (Nat.not_lt_zero _)⟩
  refine W.to (fun k _ => by rw [spec_TypeFind.L2_step]) ?_
  refine B.len hv (B.ite (fun hlt => ?_) fun hlt => ?_)
  rotate_left
  · try simp only [q_bind_some, castInt_int, q_castBool, q_castStr, q_castPtr, q_castFn, q_castAgg, q_castTuple, q_uncons, q_isNil, q_sl, q_nils, q_emp, q_ptr, q_nilp, q_fn, q_cond_true, q_cond_false, Bool.not_true, Bool.not_false, decide_true, decide_false, List.cons_append, List.nil_append, spec_TypeFind.A2_x4]
    rw [fs_no_face hm0 (find_no fun j y hy => hno j y (by have := lt_of_get hy; omega) hy)]
    exact W.ret (FindP.none (Lh.refl _))
  cases b with
  | false =>
    try simp only [q_bind_some, castInt_int, q_castBool, q_castStr, q_castPtr, q_castFn, q_castAgg, q_castTuple, q_uncons, q_isNil, q_sl, q_nils, q_emp, q_ptr, q_nilp, q_fn, q_cond_true, q_cond_false, Bool.not_true, Bool.not_false, decide_true, decide_false, List.cons_append, List.nil_append, spec_TypeFind.A2_x4]
    rw [fs_no_use hm0 fun hc => by have := hb.2 hc; cases this]
    exact W.ret (FindP.none (Lh.refl _))
  | true =>
  have hu := hb.1 rfl
  have hil : i < l.length := by omega
  have hx : l[i]? = some l[i] := List.getElem?_eq_getElem hil
  generalize l[i] = x at hx
  have hxt := totS_mem TypeFace.total (List.mem_of_getElem? hx)
  have hxe := TypeFace.total_eq x
  obtain ⟨r, o, hv', cs, hr, hP⟩ := hv.at' hx
  cases hP with
  | mk g1 =>
  rename_i b0
  have e0 : rdc σ r (o + 0) 1 = some [.str x.mod] := rdc_sub hr 0 1 (by omega)
  have e1 : rdc σ r (o + 1) 1 = some [b0] := rdc_sub hr 1 1 (by omega)
  try simp only [q_bind_some, castInt_int, q_castBool, q_castStr, q_castPtr, q_castFn, q_castAgg, q_castTuple, q_uncons, q_isNil, q_sl, q_nils, q_emp, q_ptr, q_nilp, q_fn, q_cond_true, q_cond_false, Bool.not_true, Bool.not_false, decide_true, decide_false, List.cons_append, List.nil_append, hv', e0]
  by_cases hn : x.mod = mod
  rotate_left
  · try simp only [q_bind_some, castInt_int, q_castBool, q_castStr, q_castPtr, q_castFn, q_castAgg, q_castTuple, q_uncons, q_isNil, q_sl, q_nils, q_emp, q_ptr, q_nilp, q_fn, q_cond_true, q_cond_false, Bool.not_true, Bool.not_false, decide_true, decide_false, List.cons_append, List.nil_append, decide_eq_false hn, wrap_next hil (by omega)]
    refine W.again (i + 1) ⟨by omega, fun j y hj hy => ?_⟩ (by omega) rfl rfl
    by_cases hij : j = i
    · subst hij
      rw [hx] at hy
      injection hy with hy
      rw [← hy]; exact decide_eq_false hn
    · exact hno j y (by omega) hy
  have hf : l.find? (fun f => decide (f.mod = mod)) = some x := find_at hx (by simp [hn]) hno
  try simp only [q_bind_some, castInt_int, q_castBool, q_castStr, q_castPtr, q_castFn, q_castAgg, q_castTuple, q_uncons, q_isNil, q_sl, q_nils, q_emp, q_ptr, q_nilp, q_fn, q_cond_true, q_cond_false, Bool.not_true, Bool.not_false, decide_true, decide_false, List.cons_append, List.nil_append, decide_eq_true hn]
  refine B.assoc ?_
  refine W.loop (S := Nat) (fun k => k ≤ x.sigs.length ∧ ∀ (j : Nat) y, j < k → x.sigs[j]? = some y → decide (y.name = name) = false) (fun k => [.v v, .v (.str name), .box [.str (⟨#[]⟩ : ByteArray), .nils, .int .i64 0], .v (.int .i64 (i : Int)), .v (.int .i64 (k : Int))]) (fun _ => σ) (fun k => x.sigs.length - k)
    (fun k ⟨hk, hno2⟩ => ?_) 0 ⟨Nat.zero_le _, fun j y hj => absurd hj (Nat.not_lt_zero _)⟩
  refine W.to (fun k _ => by rw [spec_TypeFind.L3_step]) ?_
  try simp only [q_bind_some, castInt_int, q_castBool, q_castStr, q_castPtr, q_castFn, q_castAgg, q_castTuple, q_uncons, q_isNil, q_sl, q_nils, q_emp, q_ptr, q_nilp, q_fn, q_cond_true, q_cond_false, Bool.not_true, Bool.not_false, decide_true, decide_false, List.cons_append, List.nil_append, hv', e1]
  refine B.len g1 (B.ite (fun hlt2 => ?_) fun hlt2 => ?_)
  · have hkl : k < x.sigs.length := by omega
    have hy : x.sigs[k]? = some x.sigs[k] := List.getElem?_eq_getElem hkl
    generalize x.sigs[k] = y at hy
    have hyt := totS_mem FaceSig.total (List.mem_of_getElem? hy)
    have hye := FaceSig.total_eq y
    obtain ⟨r4, o4, hv4, cs4, hr4, hP4⟩ := g1.at' hy
    have hc := l4Sig_ends (by omega) hP4
    cases hP4 with
    | mk g4 =>
    have f0 : rdc σ r4 (o4 + 0) 1 = some [.str y.name] := rdc_sub hr4 0 1 (by omega)
    try simp only [q_bind_some, castInt_int, q_castBool, q_castStr, q_castPtr, q_castFn, q_castAgg, q_castTuple, q_uncons, q_isNil, q_sl, q_nils, q_emp, q_ptr, q_nilp, q_fn, q_cond_true, q_cond_false, Bool.not_true, Bool.not_false, decide_true, decide_false, List.cons_append, List.nil_append, hv', e1, hv4, f0]
    by_cases hn2 : y.name = name
    · try simp only [q_bind_some, castInt_int, q_castBool, q_castStr, q_castPtr, q_castFn, q_castAgg, q_castTuple, q_uncons, q_isNil, q_sl, q_nils, q_emp, q_ptr, q_nilp, q_fn, q_cond_true, q_cond_false, Bool.not_true, Bool.not_false, decide_true, decide_false, List.cons_append, List.nil_append, decide_eq_true hn2, hv', e1, hv4, hr4]
      refine B.call hc ?_
      rintro _ σ4 ⟨av, R, rfl, hO⟩
      try simp only [q_bind_some, castInt_int, q_castBool, q_castStr, q_castPtr, q_castFn, q_castAgg, q_castTuple, q_uncons, q_isNil, q_sl, q_nils, q_emp, q_ptr, q_nilp, q_fn, q_cond_true, q_cond_false, Bool.not_true, Bool.not_false, decide_true, decide_false, List.cons_append, List.nil_append, spec_TypeFind.A3_ret, spec_TypeFind.A2_ret]
      rw [fs_sig hm0 hu hf (find_at hy (by simp [hn2]) hno2)]
      exact W.ret ⟨av, R, rfl, hO⟩
    · try simp only [q_bind_some, castInt_int, q_castBool, q_castStr, q_castPtr, q_castFn, q_castAgg, q_castTuple, q_uncons, q_isNil, q_sl, q_nils, q_emp, q_ptr, q_nilp, q_fn, q_cond_true, q_cond_false, Bool.not_true, Bool.not_false, decide_true, decide_false, List.cons_append, List.nil_append, decide_eq_false hn2, wrap_next hkl (by omega)]
      refine W.again (k + 1) ⟨by omega, fun j z hj hz => ?_⟩ (by omega) rfl rfl
      by_cases hij : j = k
      · subst hij
        rw [hy] at hz
        injection hz with hz
        rw [← hz]; exact decide_eq_false hn2
      · exact hno2 j z (by omega) hz
  · try simp only [q_bind_some, castInt_int, q_castBool, q_castStr, q_castPtr, q_castFn, q_castAgg, q_castTuple, q_uncons, q_isNil, q_sl, q_nils, q_emp, q_ptr, q_nilp, q_fn, q_cond_true, q_cond_false, Bool.not_true, Bool.not_false, decide_true, decide_false, List.cons_append, List.nil_append, spec_TypeFind.A3_x6, spec_TypeFind.A2_ret]
    rw [fs_no_sig hm0 hf (find_no fun j y hy => hno2 j y (by have := lt_of_get hy; omega) hy)]
    exact W.ret (FindP.none (Lh.refl _))
end Go.X
