/- ObjText of the reference, and of the program. -/
import Derived.Test.YtjadancpencnnaaDoorOTextB
set_option linter.unusedVariables false
set_option linter.unusedSimpArgs false
namespace Go.D
open Go.HM Go.Proofs
def oh : List UInt8 := [111, 98, 106, 101, 99, 116, 10]
theorem objL_eq (o : CodeObj) : objL o = oh ++ catL refL o.refs o.refs.length ++ catL wholeL o.funs o.funs.length := rfl
theorem ref_ba {x : CodeRef} (h : RefIs x) : ∃ md nm, x.mod = ba md ∧ x.name = ba nm ∧ md.length ≤ 8 ∧ nm.length ≤ 8 ∧ refL x = [114, 101, 102, 32] ++ md ++ [46] ++ nm ++ [10] :=
  ⟨x.mod.data.toList, x.name.data.toList, ba_self _, ba_self _, (ref_b h).2, (ref_b h).1, rfl⟩
theorem ins_ba {x : CodeIns} (h : InsOk x) : ∃ tw, opw x.op = ba tw ∧ tw.length ≤ 6 ∧ insL x = tw ++ [32] ++ Lib.itoa x.a ++ [10] := ⟨_, (opw_ba x.op).1, (opw_ba x.op).2, rfl⟩
theorem fun_ba {f : CodeFun} (h : CFunOk f) : ∃ nm, f.name = ba nm ∧ nm.length ≤ 8 ∧ funL f = [102, 117, 110, 32] ++ nm ++ [32] ++ pubL f.pub ++ [32] ++ headL f.args f.type f.slots ++ [10] := ⟨_, ba_self _, name_len h, rfl⟩
theorem code_le {o : CodeObj} (h : ObjIs o) {f : CodeFun} (hm : f ∈ o.funs) : f.code.length ≤ 460 := by
  have := totS_mem (fun f : CodeFun => f.code.length) hm
  have h2 : totS (fun f : CodeFun => f.code.length) o.funs ≤ 460 := h.2.2.1
  omega
theorem funs_le {o : CodeObj} (h : ObjIs o) (i : Nat) (hi : i ≤ o.funs.length) : (catL wholeL o.funs i).length ≤ 15620 := by
  have h1 := funs_len h i hi
  have h2 := codes_take_le o.funs i
  have h3 := h.2.2.1
  omega
theorem specObjText_gives {σ : Heap} {o : CodeObj} (hF : o.Fit) (ht : o.total ≤ 1048576) {cs : List V} (h : CodeObj.Rep σ cs o) : Gives G n_spec_ObjText [.agg cs] σ (.str (if ObjIs o then ba (objL o) else ⟨#[]⟩)) := by
  have c1 := specObjOk_gives hF ht h
  cases h with
  | mk h0 h1 =>
  rename_i b0 b1
  refine Gives.of (W.to (fun k _ => spec_ObjText.eq k _ _ _) ?_)
  refine W.give c1 fun σ1 l1 => ?_
  by_cases hok : ObjIs o
  rotate_left
  · try simp only [q_bind_some, castInt_int, q_castBool, q_castStr, q_castPtr, q_castFn, q_castAgg, q_castTuple, q_uncons, q_isNil, q_sl, q_nils, q_emp, q_ptr, q_nilp, q_fn, q_cond_true, q_cond_false, Bool.not_true, Bool.not_false, decide_true, decide_false, List.cons_append, List.nil_append, decide_eq_false hok]
    exact W.ret ⟨by rw [if_neg hok], l1⟩
  try simp only [q_bind_some, castInt_int, q_castBool, q_castStr, q_castPtr, q_castFn, q_castAgg, q_castTuple, q_uncons, q_isNil, q_sl, q_nils, q_emp, q_ptr, q_nilp, q_fn, q_cond_true, q_cond_false, Bool.not_true, Bool.not_false, decide_true, decide_false, List.cons_append, List.nil_append, decide_eq_true hok]
  rw [if_pos hok]
  have h40 := hok.1
  have h9 := hok.2.1
  have hoh : oh.length = 7 := rfl
  have hRl := fun i hi => refs_len hok i hi
  have hWl := fun i hi => funs_le hok i hi
  have h00 : (⟨#[111, 98, 106, 101, 99, 116, 10]⟩ : ByteArray) = ba (oh ++ catL refL o.refs 0) := by rw [catL_zero]; rfl
  rw [h00]
  refine W.loop (S := Nat) (fun i => i ≤ o.refs.length) (fun i => [.box [b0, b1], .v (.str (ba (oh ++ catL refL o.refs i))), .v (.int .i64 (i : Int))]) (fun _ => σ1) (fun i => o.refs.length - i) (fun i hi => ?_) 0 (Nat.zero_le _)
  refine W.to (fun k _ => by rw [spec_ObjText.L0_step]) ?_
  refine B.len h0 (B.ite (fun hlt => ?_) fun hlt => ?_)
  · have hil : i < o.refs.length := by omega
    have hx : o.refs[i]? = some o.refs[i] := List.getElem?_eq_getElem hil
    generalize o.refs[i] = x at hx
    obtain ⟨md, nm, g1, g2, g3, g4, g5⟩ := ref_ba (hok.2.2.2.1 x (List.mem_of_getElem? hx))
    have hstep := catL_next (f := refL) hx
    rw [g5] at hstep
    have hl := hRl i hi
    obtain ⟨r, p, hv, cs, hr, hP⟩ := h0.at' hx
    have hr' := l1.rdc hr
    cases hP with
    | mk =>
    have e0 : rdc σ1 r (p + 0) 1 = some [.str x.mod] := rdc_sub hr' 0 1 (by omega)
    have e1 : rdc σ1 r (p + 1) 1 = some [.str x.name] := rdc_sub hr' 1 1 (by omega)
    try simp (disch := (simp only [List.length_append, List.length_cons, List.length_nil]; omega)) only [q_bind_some, castInt_int, q_castBool, q_castStr, q_castPtr, q_castFn, q_castAgg, q_castTuple, q_uncons, q_isNil, q_sl, q_nils, q_emp, q_ptr, q_nilp, q_fn, q_cond_true, q_cond_false, Bool.not_true, Bool.not_false, decide_true, decide_false, List.cons_append, List.nil_append, mk_ba, ba2, fitB, hv, e0, e1, g1, g2, wrap_next hil (by omega)]
    exact W.again (i + 1) (by omega) (by omega) (by simp only [hstep, List.append_assoc, List.cons_append, List.nil_append]) rfl
  obtain rfl : i = o.refs.length := by omega
  try simp only [q_bind_some, castInt_int, q_castBool, q_castStr, q_castPtr, q_castFn, q_castAgg, q_castTuple, q_uncons, q_isNil, q_sl, q_nils, q_emp, q_ptr, q_nilp, q_fn, q_cond_true, q_cond_false, Bool.not_true, Bool.not_false, decide_true, decide_false, List.cons_append, List.nil_append, spec_ObjText.A0_x0]
  have hRR := hRl o.refs.length (Nat.le_refl _)
  rw [objL_eq]
  generalize catL refL o.refs o.refs.length = RL at hRR
  have h01 : ba (oh ++ RL) = ba (oh ++ RL ++ catL wholeL o.funs 0) := by rw [catL_zero, List.append_nil]
  rw [h01]
  refine W.loop (S := Nat × Heap) (fun s => s.1 ≤ o.funs.length ∧ Lh σ s.2) (fun s => [.box [b0, b1], .v (.str (ba (oh ++ RL ++ catL wholeL o.funs s.1))), .v (.int .i64 (s.1 : Int))]) (fun s => s.2) (fun s => o.funs.length - s.1) (fun ⟨i, σi⟩ ⟨hi, hle⟩ => ?_) (0, σ1) ⟨Nat.zero_le _, l1⟩
  simp only at hi hle ⊢
  refine W.to (fun k _ => by rw [spec_ObjText.L1_step]) ?_
  refine B.len h1 (B.ite (fun hlt => ?_) fun hlt => ?_)
  rotate_left
  · obtain rfl : i = o.funs.length := by omega
    try simp only [q_bind_some, castInt_int, q_castBool, q_castStr, q_castPtr, q_castFn, q_castAgg, q_castTuple, q_uncons, q_isNil, q_sl, q_nils, q_emp, q_ptr, q_nilp, q_fn, q_cond_true, q_cond_false, Bool.not_true, Bool.not_false, decide_true, decide_false, List.cons_append, List.nil_append, spec_ObjText.A1_x2]
    exact W.ret ⟨rfl, hle⟩
  have hil : i < o.funs.length := by omega
  have hx : o.funs[i]? = some o.funs[i] := List.getElem?_eq_getElem hil
  generalize o.funs[i] = f at hx
  have hm := List.mem_of_getElem? hx
  have hfo := hok.2.2.2.2 f hm
  have hfl := funL_len hfo
  have hcl := code_le hok hm
  have hins := fun z hz => code_len hfo.2 z hz
  have hstep := catL_next (f := wholeL) hx
  have hl := hWl i hi
  obtain ⟨r, p, hv, cs, hr, hP⟩ := h1.at' hx
  have hP' := CodeFun.Rep.le hle hP
  have hh := l8Head_gives hfo hP'
  cases hP with
  | mk t0 t1 =>
  rename_i c0 c1
  have hr' := hle.rdc hr
  try simp only [q_bind_some, castInt_int, q_castBool, q_castStr, q_castPtr, q_castFn, q_castAgg, q_castTuple, q_uncons, q_isNil, q_sl, q_nils, q_emp, q_ptr, q_nilp, q_fn, q_cond_true, q_cond_false, Bool.not_true, Bool.not_false, decide_true, decide_false, List.cons_append, List.nil_append, hv, hr']
  refine B.give hh fun σ2 l2 => ?_
  have l02 := hle.trans l2
  have h02 : ba (funL f) = ba (funL f ++ catL insL f.code 0) := by rw [catL_zero, List.append_nil]
  try simp (disch := (simp only [List.length_append, List.length_cons, List.length_nil]; omega)) only [q_bind_some, castInt_int, q_castBool, q_castStr, q_castPtr, q_castFn, q_castAgg, q_castTuple, q_uncons, q_isNil, q_sl, q_nils, q_emp, q_ptr, q_nilp, q_fn, q_cond_true, q_cond_false, Bool.not_true, Bool.not_false, decide_true, decide_false, List.cons_append, List.nil_append, mk_ba, ba2, fitB]
  rw [show oh ++ RL ++ catL wholeL o.funs i ++ funL f = oh ++ RL ++ catL wholeL o.funs i ++ funL f ++ catL insL f.code 0 by rw [catL_zero, List.append_nil]]
  refine B.assoc ?_
  refine W.loop (S := Nat × Heap) (fun s => s.1 ≤ f.code.length ∧ Lh σ s.2) (fun s => [.box [b0, b1], .v (.str (ba (oh ++ RL ++ catL wholeL o.funs i ++ funL f ++ catL insL f.code s.1))), .v (.int .i64 (i : Int)), .v (.int .i64 (s.1 : Int))]) (fun s => s.2) (fun s => f.code.length - s.1) (fun ⟨z, σz⟩ ⟨hz, hlz⟩ => ?_) (0, σ2) ⟨Nat.zero_le _, l02⟩
  simp only at hz hlz ⊢
  refine W.to (fun k _ => by rw [spec_ObjText.L2_step]) ?_
  have e5 : rdc σz r (p + 5) 1 = some [c1] := rdc_sub (hlz.rdc hr) 5 1 (by omega)
  have hlc := hins z hz
  try simp only [q_bind_some, castInt_int, q_castBool, q_castStr, q_castPtr, q_castFn, q_castAgg, q_castTuple, q_uncons, q_isNil, q_sl, q_nils, q_emp, q_ptr, q_nilp, q_fn, q_cond_true, q_cond_false, Bool.not_true, Bool.not_false, decide_true, decide_false, List.cons_append, List.nil_append, hv, e5]
  refine B.len t1 (B.ite (fun hlt2 => ?_) fun hlt2 => ?_)
  · have hzl : z < f.code.length := by omega
    have hy : f.code[z]? = some f.code[z] := List.getElem?_eq_getElem hzl
    generalize f.code[z] = y at hy
    have hyo := hfo.2 y (List.mem_of_getElem? hy)
    obtain ⟨tw, g1, g2, g3⟩ := ins_ba hyo
    have hb := ins_b hyo
    have hit := Lib.itoa_length_le y.a (by omega) (by omega)
    have hs2 := catL_next (f := insL) hy
    rw [g3] at hs2
    obtain ⟨r3, p3, hv3, cs3, hr3, hP3⟩ := t1.at' hy
    have hr3' := hlz.rdc hr3
    cases hP3 with
    | mk =>
    try simp only [q_bind_some, castInt_int, q_castBool, q_castStr, q_castPtr, q_castFn, q_castAgg, q_castTuple, q_uncons, q_isNil, q_sl, q_nils, q_emp, q_ptr, q_nilp, q_fn, q_cond_true, q_cond_false, Bool.not_true, Bool.not_false, decide_true, decide_false, List.cons_append, List.nil_append, hv, e5, hv3, hr3']
    refine B.give (l8Word_gives _ _) fun σ3 l3 => ?_
    try simp (disch := (simp only [List.length_append, List.length_cons, List.length_nil]; omega)) only [q_bind_some, castInt_int, q_castBool, q_castStr, q_castPtr, q_castFn, q_castAgg, q_castTuple, q_uncons, q_isNil, q_sl, q_nils, q_emp, q_ptr, q_nilp, q_fn, q_cond_true, q_cond_false, Bool.not_true, Bool.not_false, decide_true, decide_false, List.cons_append, List.nil_append, mk_ba, ba2, fitB, g1]
    refine B.give (l23Dec_gives _ (by omega) (by omega)) fun σ4 l4 => ?_
    try simp (disch := (simp only [List.length_append, List.length_cons, List.length_nil]; omega)) only [q_bind_some, castInt_int, q_castBool, q_castStr, q_castPtr, q_castFn, q_castAgg, q_castTuple, q_uncons, q_isNil, q_sl, q_nils, q_emp, q_ptr, q_nilp, q_fn, q_cond_true, q_cond_false, Bool.not_true, Bool.not_false, decide_true, decide_false, List.cons_append, List.nil_append, mk_ba, ba2, fitB, wrap_next hzl (by omega)]
    exact W.again (z + 1, σ4) ⟨by show z + 1 ≤ f.code.length; omega, (hlz.trans l3).trans l4⟩ (by simp only; omega) (by simp only [hs2, List.append_assoc, List.cons_append, List.nil_append]) rfl
  · obtain rfl : z = f.code.length := by omega
    try simp only [q_bind_some, castInt_int, q_castBool, q_castStr, q_castPtr, q_castFn, q_castAgg, q_castTuple, q_uncons, q_isNil, q_sl, q_nils, q_emp, q_ptr, q_nilp, q_fn, q_cond_true, q_cond_false, Bool.not_true, Bool.not_false, decide_true, decide_false, List.cons_append, List.nil_append, spec_ObjText.A2_x4, wrap_next hil (by omega)]
    have hw : wholeL f = funL f ++ catL insL f.code f.code.length := rfl
    exact W.out' _ (W.again (i + 1, σz) ⟨by show i + 1 ≤ o.funs.length; omega, hlz⟩ (by simp only; omega) (by simp only [hstep, hw, List.append_assoc]) rfl) fun k j m => rfl
end Go.D
