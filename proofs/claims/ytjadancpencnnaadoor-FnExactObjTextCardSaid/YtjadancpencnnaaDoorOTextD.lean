/- ObjText of the program. -/
import Derived.Test.YtjadancpencnnaaDoorOTextC
set_option linter.unusedVariables false
set_option linter.unusedSimpArgs false
namespace Go.D
open Go.HM Go.Proofs
theorem implObjText_gives {σ : Heap} (htw : TypeW σ) (how : OpW σ) (hnw : TabW σ) {o : CodeObj} (hF : o.Fit) (ht : o.total ≤ 1048576) {cs : List V} (h : CodeObj.Rep σ cs o) : Gives G n_impl_ObjText [.agg cs] σ (.str (if ObjIs o then ba (objL o) else ⟨#[]⟩)) := by
  have c1 := implObjOk_gives hF ht h
  cases h with
  | mk h0 h1 =>
  rename_i b0 b1
  refine Gives.of (W.to (fun k _ => impl_ObjText.eq k _ _ _) ?_)
  refine W.give c1 fun σ1 l1 => ?_
  by_cases hok : ObjIs o
  rotate_left
  · try simp only [q_bind_some, castInt_int, q_castBool, q_castStr, q_castPtr, q_castFn, q_castAgg, q_castTuple, q_uncons, q_isNil, q_sl, q_nils, q_emp, q_ptr, q_nilp, q_fn, q_cond_true, q_cond_false, Bool.not_true, Bool.not_false, decide_true, decide_false, List.cons_append, List.nil_append, decide_eq_false hok]
    exact W.ret ⟨by rw [if_neg hok], l1⟩
  try simp only [q_bind_some, castInt_int, q_castBool, q_castStr, q_castPtr, q_castFn, q_castAgg, q_castTuple, q_uncons, q_isNil, q_sl, q_nils, q_emp, q_ptr, q_nilp, q_fn, q_cond_true, q_cond_false, Bool.not_true, Bool.not_false, decide_true, decide_false, List.cons_append, List.nil_append, decide_eq_true hok]
  rw [if_pos hok]
  have h40 := hok.1
  have h9 := hok.2.1
  have hoh : oh.length = 7 := rfl
  have hRl := fun i hi => refs_len hok i hi
  have hWl := fun i hi => funs_le hok i hi
  have hno : ∀ row, σ1[σ1.length]? ≠ some (some row) := fun row hc => by rw [List.getElem?_eq_none (Nat.le_refl _)] at hc; cases hc
  obtain ⟨σ2, c2, B2, K2⟩ := writeString_runs (F := σ1.length + 1) (by simp [hnewT]) (Bld.new σ1) (ba oh) (by rw [ba_size, hoh]; decide)
  have hl2 : Lh σ1 σ2 := K2.lh (Lh.append _ _) (by omega) hno
  have hn2 : σ1.length + 1 ≤ σ2.length := Nat.le_trans (by simp [hnewT]) K2.1
  have h00 : (⟨#[111, 98, 106, 101, 99, 116, 10]⟩ : ByteArray) = ba oh := rfl
  have h01 : (⟨#[]⟩ : ByteArray) ++ ba oh = ba (oh ++ catL refL o.refs 0) := by rw [catL_zero]; rfl
  rw [h01] at B2
  rw [h00]
  refine W.run c2 ?_
  try simp only [q_bind_some, castInt_int, q_castBool, q_castStr, q_castPtr, q_castFn, q_castAgg, q_castTuple, q_uncons, q_isNil, q_sl, q_nils, q_emp, q_ptr, q_nilp, q_fn, q_cond_true, q_cond_false, Bool.not_true, Bool.not_false, decide_true, decide_false, List.cons_append, List.nil_append]
  refine W.len h0 ?_
  refine W.loop (S := Nat × Heap) (fun s => s.1 ≤ o.refs.length ∧ Bld (σ1.length + 1) s.2 σ1.length (ba (oh ++ catL refL o.refs s.1)) ∧ Lh σ1 s.2 ∧ σ1.length + 1 ≤ s.2.length)
    (fun s => [.box [b0, b1], .v (.ptr σ1.length 0), .v b0, .v (.int .i64 (o.refs.length : Int)), .v (.int .i64 (s.1 : Int))]) (fun s => s.2) (fun s => o.refs.length - s.1)
    (fun ⟨i, σi⟩ ⟨hi, hB, hle, hlen'⟩ => ?_) (0, σ2) ⟨Nat.zero_le _, B2, hl2, hn2⟩
  simp only at hi hB hle hlen' ⊢
  have hl := hRl i hi
  refine W.to (fun k _ => by rw [impl_ObjText.L0_step]) ?_
  refine B.ite (fun hlt => ?_) fun hlt => ?_
  · have hil : i < o.refs.length := by omega
    have hx : o.refs[i]? = some o.refs[i] := List.getElem?_eq_getElem hil
    generalize o.refs[i] = x at hx
    obtain ⟨md, nm, g1, g2, g3, g4, g5⟩ := ref_ba (hok.2.2.2.1 x (List.mem_of_getElem? hx))
    have hstep := catL_next (f := refL) hx
    rw [g5] at hstep
    obtain ⟨r, p, hv, cs, hr, hP⟩ := h0.at' hx
    have hr' := (l1.trans hle).rdc hr
    cases hP with
    | mk =>
    try simp (disch := (simp only [List.length_append, List.length_cons, List.length_nil]; omega)) only [q_bind_some, castInt_int, q_castBool, q_castStr, q_castPtr, q_castFn, q_castAgg, q_castTuple, q_uncons, q_isNil, q_sl, q_nils, q_emp, q_ptr, q_nilp, q_fn, q_cond_true, q_cond_false, Bool.not_true, Bool.not_false, decide_true, decide_false, List.cons_append, List.nil_append, mk_ba, ba2, fitB, hv, hr', g1, g2]
    obtain ⟨σ3, c3, B3, K3⟩ := writeString_runs (F := σ1.length + 1) hlen' hB (ba ([114, 101, 102, 32] ++ md ++ [46] ++ nm ++ [10])) (by rw [ba_size, ba_size]; simp only [List.length_append, List.length_cons, List.length_nil]; omega)
    refine B.run c3 ?_
    try simp (disch := (simp only [List.length_append, List.length_cons, List.length_nil]; omega)) only [q_bind_some, castInt_int, q_castBool, q_castStr, q_castPtr, q_castFn, q_castAgg, q_castTuple, q_uncons, q_isNil, q_sl, q_nils, q_emp, q_ptr, q_nilp, q_fn, q_cond_true, q_cond_false, Bool.not_true, Bool.not_false, decide_true, decide_false, List.cons_append, List.nil_append, mk_ba, ba2, fitB, wrap_next hil (by omega)]
    rw [ba2, show oh ++ catL refL o.refs i ++ ([114, 101, 102, 32] ++ md ++ [46] ++ nm ++ [10]) = oh ++ catL refL o.refs (i + 1) by rw [hstep]; simp only [List.append_assoc]] at B3
    exact W.again (i + 1, σ3) ⟨by show i + 1 ≤ o.refs.length; omega, B3, K3.lh hle (by omega) hno, Nat.le_trans hlen' K3.1⟩ (by simp only; omega) rfl rfl
  obtain rfl : i = o.refs.length := by omega
  try simp only [q_bind_some, castInt_int, q_castBool, q_castStr, q_castPtr, q_castFn, q_castAgg, q_castTuple, q_uncons, q_isNil, q_sl, q_nils, q_emp, q_ptr, q_nilp, q_fn, q_cond_true, q_cond_false, Bool.not_true, Bool.not_false, decide_true, decide_false, List.cons_append, List.nil_append, impl_ObjText.A0_x0]
  have hRR := hRl o.refs.length (Nat.le_refl _)
  rw [objL_eq]
  generalize catL refL o.refs o.refs.length = RL at hRR hB
  refine W.len h1 ?_
  refine W.loop (S := Nat × Heap) (fun s => s.1 ≤ o.funs.length ∧ Bld (σ1.length + 1) s.2 σ1.length (ba (oh ++ RL ++ catL wholeL o.funs s.1)) ∧ Lh σ1 s.2 ∧ σ1.length + 1 ≤ s.2.length)
    (fun s => [.v (.ptr σ1.length 0), .v b1, .v (.int .i64 (o.funs.length : Int)), .v (.int .i64 (s.1 : Int))]) (fun s => s.2) (fun s => o.funs.length - s.1)
    (fun ⟨i, σi⟩ ⟨hi, hB, hle, hlen'⟩ => ?_) (0, σi) ⟨Nat.zero_le _, by rw [catL_zero, List.append_nil]; exact hB, hle, hlen'⟩
  simp only at hi hB hle hlen' ⊢
  have hl := hWl i hi
  refine W.to (fun k _ => by rw [impl_ObjText.L1_step]) ?_
  refine B.ite (fun hlt => ?_) fun hlt => ?_
  rotate_left
  · obtain rfl : i = o.funs.length := by omega
    try simp only [q_bind_some, castInt_int, q_castBool, q_castStr, q_castPtr, q_castFn, q_castAgg, q_castTuple, q_uncons, q_isNil, q_sl, q_nils, q_emp, q_ptr, q_nilp, q_fn, q_cond_true, q_cond_false, Bool.not_true, Bool.not_false, decide_true, decide_false, List.cons_append, List.nil_append, impl_ObjText.A1_x2]
    obtain ⟨σ4, c4, K4⟩ := builderText_runs hB (by rw [ba_size]; simp only [List.length_append]; omega)
    refine W.run c4 ?_
    try simp only [q_bind_some, castInt_int, q_castBool, q_castStr, q_castPtr, q_castFn, q_castAgg, q_castTuple, q_uncons, q_isNil, q_sl, q_nils, q_emp, q_ptr, q_nilp, q_fn, q_cond_true, q_cond_false, Bool.not_true, Bool.not_false, decide_true, decide_false, List.cons_append, List.nil_append]
    exact W.ret ⟨rfl, l1.trans (K4.lh hle (by omega) hno)⟩
  have hil : i < o.funs.length := by omega
  have hx : o.funs[i]? = some o.funs[i] := List.getElem?_eq_getElem hil
  generalize o.funs[i] = f at hx
  have hm := List.mem_of_getElem? hx
  have hfo := hok.2.2.2.2 f hm
  have hcl := code_le hok hm
  have hcb : (codeL f.code).length ≤ 14720 := by
    have := code_len hfo.2 _ (Nat.le_refl _)
    unfold codeL
    omega
  have hhd := head_len hfo
  have hwl := wholeL_len hfo
  have hstep := catL_next (f := wholeL) hx
  have hlh := l1.trans hle
  obtain ⟨nm, g1, g2, g3⟩ := fun_ba hfo
  have hw : wholeL f = funL f ++ codeL f.code := rfl
  obtain ⟨r, p, hv, cs, hr, hP⟩ := h1.at' hx
  have hP' := CodeFun.Rep.le hlh hP
  have hr' := hlh.rdc hr
  cases hP' with
  | mk t0 t1 =>
  rename_i c0 c1
  try simp only [q_bind_some, castInt_int, q_castBool, q_castStr, q_castPtr, q_castFn, q_castAgg, q_castTuple, q_uncons, q_isNil, q_sl, q_nils, q_emp, q_ptr, q_nilp, q_fn, q_cond_true, q_cond_false, Bool.not_true, Bool.not_false, decide_true, decide_false, List.cons_append, List.nil_append, hv, hr']
  have d1 := headText_gives (hlh.row _ _ htw) (hlh.row _ _ hnw) hfo.1.2.1.1 t0 f.type f.slots hfo.1.2.2.2.1 hfo.1.2.2.2.2
  refine B.cond (fun hp => ?_) fun hp => ?_
  all_goals
    have hpb : pubL f.pub = if f.pub = true then [112, 117, 98] else [111, 119, 110] := rfl
    rw [hp] at hpb
    simp only [if_true, Bool.false_eq_true, if_false] at hpb
    rw [hp, hpb] at g3
    try simp (disch := (simp only [List.length_append, List.length_cons, List.length_nil]; omega)) only [q_bind_some, castInt_int, q_castBool, q_castStr, q_castPtr, q_castFn, q_castAgg, q_castTuple, q_uncons, q_isNil, q_sl, q_nils, q_emp, q_ptr, q_nilp, q_fn, q_cond_true, q_cond_false, Bool.not_true, Bool.not_false, decide_true, decide_false, List.cons_append, List.nil_append, mk_ba, ba2, fitB, g1]
    refine B.give d1 fun σ3 l3 => ?_
    try simp (disch := (simp only [List.length_append, List.length_cons, List.length_nil]; omega)) only [q_bind_some, castInt_int, q_castBool, q_castStr, q_castPtr, q_castFn, q_castAgg, q_castTuple, q_uncons, q_isNil, q_sl, q_nils, q_emp, q_ptr, q_nilp, q_fn, q_cond_true, q_cond_false, Bool.not_true, Bool.not_false, decide_true, decide_false, List.cons_append, List.nil_append, mk_ba, ba2, fitB]
    refine B.give (codeText_gives ((hlh.trans l3).row _ _ how) ((hlh.trans l3).row _ _ hnw) (by omega) hfo.2 (t1.mono l3 fun _ _ _ h => CodeIns.Rep.le l3 h)) fun σ4 l4 => ?_
    try simp (disch := (simp only [List.length_append, List.length_cons, List.length_nil]; omega)) only [q_bind_some, castInt_int, q_castBool, q_castStr, q_castPtr, q_castFn, q_castAgg, q_castTuple, q_uncons, q_isNil, q_sl, q_nils, q_emp, q_ptr, q_nilp, q_fn, q_cond_true, q_cond_false, Bool.not_true, Bool.not_false, decide_true, decide_false, List.cons_append, List.nil_append, mk_ba, ba2, fitB]
    have l34 := l3.trans l4
    have hn4 : σ1.length + 1 ≤ σ4.length := Nat.le_trans hlen' l34.len
  · obtain ⟨σ5, c5, B5, K5⟩ := writeString_runs (F := σ1.length + 1) hn4 (hB.keep l34) (ba ([102, 117, 110, 32] ++ nm ++ [32] ++ [112, 117, 98] ++ [32] ++ headL f.args f.type f.slots ++ [10] ++ codeL f.code)) (by rw [ba_size, ba_size]; simp only [List.length_append, List.length_cons, List.length_nil]; omega)
    refine B.run c5 ?_
    try simp (disch := (simp only [List.length_append, List.length_cons, List.length_nil]; omega)) only [q_bind_some, castInt_int, q_castBool, q_castStr, q_castPtr, q_castFn, q_castAgg, q_castTuple, q_uncons, q_isNil, q_sl, q_nils, q_emp, q_ptr, q_nilp, q_fn, q_cond_true, q_cond_false, Bool.not_true, Bool.not_false, decide_true, decide_false, List.cons_append, List.nil_append, mk_ba, ba2, fitB, wrap_next hil (by omega)]
    rw [ba2, show oh ++ RL ++ catL wholeL o.funs i ++ ([102, 117, 110, 32] ++ nm ++ [32] ++ [112, 117, 98] ++ [32] ++ headL f.args f.type f.slots ++ [10] ++ codeL f.code) = oh ++ RL ++ catL wholeL o.funs (i + 1) by rw [hstep, hw, g3]; simp only [List.append_assoc]] at B5
    exact W.again (i + 1, σ5) ⟨by show i + 1 ≤ o.funs.length; omega, B5, K5.lh (hle.trans l34) (by omega) hno, Nat.le_trans hn4 K5.1⟩ (by simp only; omega) rfl rfl
  · obtain ⟨σ5, c5, B5, K5⟩ := writeString_runs (F := σ1.length + 1) hn4 (hB.keep l34) (ba ([102, 117, 110, 32] ++ nm ++ [32] ++ [111, 119, 110] ++ [32] ++ headL f.args f.type f.slots ++ [10] ++ codeL f.code)) (by rw [ba_size, ba_size]; simp only [List.length_append, List.length_cons, List.length_nil]; omega)
    refine B.run c5 ?_
    try simp (disch := (simp only [List.length_append, List.length_cons, List.length_nil]; omega)) only [q_bind_some, castInt_int, q_castBool, q_castStr, q_castPtr, q_castFn, q_castAgg, q_castTuple, q_uncons, q_isNil, q_sl, q_nils, q_emp, q_ptr, q_nilp, q_fn, q_cond_true, q_cond_false, Bool.not_true, Bool.not_false, decide_true, decide_false, List.cons_append, List.nil_append, mk_ba, ba2, fitB, wrap_next hil (by omega)]
    rw [ba2, show oh ++ RL ++ catL wholeL o.funs i ++ ([102, 117, 110, 32] ++ nm ++ [32] ++ [111, 119, 110] ++ [32] ++ headL f.args f.type f.slots ++ [10] ++ codeL f.code) = oh ++ RL ++ catL wholeL o.funs (i + 1) by rw [hstep, hw, g3]; simp only [List.append_assoc]] at B5
    exact W.again (i + 1, σ5) ⟨by show i + 1 ≤ o.funs.length; omega, B5, K5.lh (hle.trans l34) (by omega) hno, Nat.le_trans hn4 K5.1⟩ (by simp only; omega) rfl rfl
end Go.D
