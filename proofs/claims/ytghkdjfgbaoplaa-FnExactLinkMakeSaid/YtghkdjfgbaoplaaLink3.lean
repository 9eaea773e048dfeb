/- What is wrong with parts, as the reference asks it. -/
import Derived.Test.YtghkdjfgbaoplaaLink2
set_option linter.unusedVariables false
set_option linter.unusedSimpArgs false
namespace Go.B
open Go.HM Go.Proofs
theorem l9Form_gives {σ : Heap} {v : V} {l : List LinkPart} (ht : l.length + totS LinkPart.total l ≤ 1048576) (hF : ∀ x, x ∈ l → x.Fit) (h : RepS 3 (LinkPart.Rep σ) σ v l) {i : Nat} {p : LinkPart} (hp : l[i]? = some p) :
    Gives G n_spec_l9Form [v, .int .i64 (i : Int)] σ (FV (formFault l i p)) := by
  have hm := List.mem_of_getElem? hp
  have hf := part_fit (hF p hm)
  have hpt := part_total ht hm
  have hol := obj_lens hpt
  refine Gives.of (W.to (fun k _ => spec_l9Form.eq k _ _ _) ?_)
  obtain ⟨r, o, hv, cs, hr, hP⟩ := h.at' hp
  obtain ⟨x, rfl⟩ : ∃ x, x = p := ⟨p, rfl⟩
  cases hP with
  | mk q0 q1 =>
  rename_i b0 b1
  have hO : ∀ {σ' : Heap}, Lh σ σ' → CodeObj.Rep σ' [b0, b1] x.obj := fun l => CodeObj.Rep.le l (.mk q0 q1)
  have e0 : ∀ {σ' : Heap}, Lh σ σ' → rdc σ' r (o + 0) 1 = some [.str x.name] := fun l => rdc_sub (l.rdc hr) 0 1 (by omega)
  have e1 : rdc σ r (o + 1) 2 = some [b0, b1] := rdc_sub hr 1 2 (by omega)
  try simp only [q_bind_some, Option.bind_assoc, castInt_int, q_castBool, q_castStr, q_castPtr, q_castFn, q_castAgg, q_castTuple, q_uncons, q_isNil, q_sl, q_nils, q_emp, q_ptr, q_nilp, q_fn, q_cond_true, q_cond_false, Bool.not_true, Bool.not_false, decide_true, decide_false, castInt_bind, castBool_bind, castStr_bind, castPtr_bind, castFn_bind, castAgg_bind, castTuple_bind, uncons_bind, isNil_bind, one_bind, cond_bind, ite_bind_, List.cons_append, List.nil_append, hv, e1]
  refine W.give (specObjOk_gives hf.2 hpt (hO (Lh.refl _))) fun σ1 l1 => ?_
  try simp only [q_bind_some, Option.bind_assoc, castInt_int, q_castBool, q_castStr, q_castPtr, q_castFn, q_castAgg, q_castTuple, q_uncons, q_isNil, q_sl, q_nils, q_emp, q_ptr, q_nilp, q_fn, q_cond_true, q_cond_false, Bool.not_true, Bool.not_false, decide_true, decide_false, castInt_bind, castBool_bind, castStr_bind, castPtr_bind, castFn_bind, castAgg_bind, castTuple_bind, uncons_bind, isNil_bind, one_bind, cond_bind, ite_bind_, List.cons_append, List.nil_append]
  by_cases hOb : ObjIs x.obj
  rotate_left
  · try simp only [q_bind_some, Option.bind_assoc, castInt_int, q_castBool, q_castStr, q_castPtr, q_castFn, q_castAgg, q_castTuple, q_uncons, q_isNil, q_sl, q_nils, q_emp, q_ptr, q_nilp, q_fn, q_cond_true, q_cond_false, Bool.not_true, Bool.not_false, decide_true, decide_false, castInt_bind, castBool_bind, castStr_bind, castPtr_bind, castFn_bind, castAgg_bind, castTuple_bind, uncons_bind, isNil_bind, one_bind, cond_bind, ite_bind_, List.cons_append, List.nil_append, hOb]
    exact W.ret ⟨by rw [formFault, if_pos (.inl hOb)]; rfl, l1⟩
  try simp only [q_bind_some, Option.bind_assoc, castInt_int, q_castBool, q_castStr, q_castPtr, q_castFn, q_castAgg, q_castTuple, q_uncons, q_isNil, q_sl, q_nils, q_emp, q_ptr, q_nilp, q_fn, q_cond_true, q_cond_false, Bool.not_true, Bool.not_false, decide_true, decide_false, castInt_bind, castBool_bind, castStr_bind, castPtr_bind, castFn_bind, castAgg_bind, castTuple_bind, uncons_bind, isNil_bind, one_bind, cond_bind, ite_bind_, List.cons_append, List.nil_append, hOb, e0 l1]
  refine W.give (specLexName_gives σ1 _ hf.1) fun σ2 l2 => ?_
  have l02 := l1.trans l2
  try simp only [q_bind_some, Option.bind_assoc, castInt_int, q_castBool, q_castStr, q_castPtr, q_castFn, q_castAgg, q_castTuple, q_uncons, q_isNil, q_sl, q_nils, q_emp, q_ptr, q_nilp, q_fn, q_cond_true, q_cond_false, Bool.not_true, Bool.not_false, decide_true, decide_false, castInt_bind, castBool_bind, castStr_bind, castPtr_bind, castFn_bind, castAgg_bind, castTuple_bind, uncons_bind, isNil_bind, one_bind, cond_bind, ite_bind_, List.cons_append, List.nil_append, e0 l02]
  by_cases hN : IsName x.name
  rotate_left
  · try simp only [q_bind_some, Option.bind_assoc, castInt_int, q_castBool, q_castStr, q_castPtr, q_castFn, q_castAgg, q_castTuple, q_uncons, q_isNil, q_sl, q_nils, q_emp, q_ptr, q_nilp, q_fn, q_cond_true, q_cond_false, Bool.not_true, Bool.not_false, decide_true, decide_false, castInt_bind, castBool_bind, castStr_bind, castPtr_bind, castFn_bind, castAgg_bind, castTuple_bind, uncons_bind, isNil_bind, one_bind, cond_bind, ite_bind_, List.cons_append, List.nil_append, hN]
    exact W.ret ⟨by rw [formFault, if_pos (.inr hN)]; rfl, l02⟩
  try simp only [q_bind_some, Option.bind_assoc, castInt_int, q_castBool, q_castStr, q_castPtr, q_castFn, q_castAgg, q_castTuple, q_uncons, q_isNil, q_sl, q_nils, q_emp, q_ptr, q_nilp, q_fn, q_cond_true, q_cond_false, Bool.not_true, Bool.not_false, decide_true, decide_false, castInt_bind, castBool_bind, castStr_bind, castPtr_bind, castFn_bind, castAgg_bind, castTuple_bind, uncons_bind, isNil_bind, one_bind, cond_bind, ite_bind_, List.cons_append, List.nil_append, hN]
  refine W.run (l9Part_runs (by omega) (h.mono l02 fun cs x _ hc => LinkPart.Rep.le l02 hc) x.name) ?_
  try simp only [q_bind_some, Option.bind_assoc, castInt_int, q_castBool, q_castStr, q_castPtr, q_castFn, q_castAgg, q_castTuple, q_uncons, q_isNil, q_sl, q_nils, q_emp, q_ptr, q_nilp, q_fn, q_cond_true, q_cond_false, Bool.not_true, Bool.not_false, decide_true, decide_false, castInt_bind, castBool_bind, castStr_bind, castPtr_bind, castFn_bind, castAgg_bind, castTuple_bind, uncons_bind, isNil_bind, one_bind, cond_bind, ite_bind_, List.cons_append, List.nil_append]
  have hform : formFault l i x = if partIdx l x.name < (i : Int) then (3, (i : Int), 0) else twice x.obj i := by
    rw [formFault, if_neg (by simp [hOb, hN])]
  refine W.ite (fun k1 => ?_) fun k1 => ?_
  · exact W.ret ⟨by rw [hform, if_pos k1]; rfl, l02⟩
  rw [hform, if_neg k1]
  refine W.loop (S := Nat) (fun j => j ≤ x.obj.funs.length ∧ ∀ (j' : Nat) f, j' < j → x.obj.funs[j']? = some f → ¬ funIdx x.obj f.name < (j' : Int))
    (fun j => [.v (.int .i64 (i : Int)), .box [.int .i64 0, .int .i64 0, .int .i64 0], .box [b0, b1], .v (.int .i64 (j : Int))]) (fun _ => σ2) (fun j => x.obj.funs.length - j) (fun j ⟨hj, hok⟩ => ?_)
    0 ⟨Nat.zero_le _, fun j f hj => absurd hj (Nat.not_lt_zero _)⟩
  refine W.to (fun k _ => by rw [spec_l9Form.L0_step]) ?_
  refine B.len q1 (B.ite (fun hlt => ?_) fun hlt => ?_)
  · refine B.at q1 l02 (by omega) fun r o cs f hx hr hP => ?_
    cases hP with
    | mk p0 p1 =>
    have e2 : rdc σ2 r (o + 0) 1 = some [.str f.name] := rdc_sub hr 0 1 (by omega)
    try simp only [q_bind_some, castInt_int, q_castBool, q_castStr, q_castPtr, q_castFn, q_castAgg, q_castTuple, q_uncons, q_isNil, q_sl, q_nils, q_emp, q_ptr, q_nilp, q_fn, q_cond_true, q_cond_false, Bool.not_true, Bool.not_false, decide_true, decide_false, List.cons_append, List.nil_append, e2]
    refine B.run (l9Fun_runs (by omega) (hO l02) f.name) ?_
    try simp only [q_bind_some, castInt_int, q_castBool, q_castStr, q_castPtr, q_castFn, q_castAgg, q_castTuple, q_uncons, q_isNil, q_sl, q_nils, q_emp, q_ptr, q_nilp, q_fn, q_cond_true, q_cond_false, Bool.not_true, Bool.not_false, decide_true, decide_false, List.cons_append, List.nil_append]
    refine B.ite (fun k2 => ?_) fun k2 => ?_
    · try simp only [q_bind_some, castInt_int, q_castBool, q_castStr, q_castPtr, q_castFn, q_castAgg, q_castTuple, q_uncons, q_isNil, q_sl, q_nils, q_emp, q_ptr, q_nilp, q_fn, q_cond_true, q_cond_false, Bool.not_true, Bool.not_false, decide_true, decide_false, List.cons_append, List.nil_append, spec_l9Form.A0_ret]
      refine W.ret ⟨?_, l02⟩
      rw [twice, scan_at hx (by simp [k2, noF]) fun j' y hj' hy => by rw [Nat.zero_add, if_neg (hok j' y hj' hy)], Nat.zero_add, if_pos k2]
      rfl
    · try simp only [q_bind_some, castInt_int, q_castBool, q_castStr, q_castPtr, q_castFn, q_castAgg, q_castTuple, q_uncons, q_isNil, q_sl, q_nils, q_emp, q_ptr, q_nilp, q_fn, q_cond_true, q_cond_false, Bool.not_true, Bool.not_false, decide_true, decide_false, List.cons_append, List.nil_append, wrap_next (show j < x.obj.funs.length by omega) (by omega)]
      exact W.again (j + 1) ⟨by omega, ext_hok hx hok k2⟩ (by omega) rfl rfl
  · try simp only [q_bind_some, castInt_int, q_castBool, q_castStr, q_castPtr, q_castFn, q_castAgg, q_castTuple, q_uncons, q_isNil, q_sl, q_nils, q_emp, q_ptr, q_nilp, q_fn, q_cond_true, q_cond_false, Bool.not_true, Bool.not_false, decide_true, decide_false, List.cons_append, List.nil_append, spec_l9Form.A0_x0]
    refine W.ret ⟨?_, l02⟩
    rw [twice, scan_none fun j' y hy => by rw [Nat.zero_add, if_neg (hok j' y (by have := lt_of_get hy; omega) hy)]]
    rfl
theorem l9Ref_runs {σ : Heap} {v : V} {l : List LinkPart} (ht : l.length + totS LinkPart.total l ≤ 1048576) (h : RepS 3 (LinkPart.Rep σ) σ v l) {i j : Nat} {p : LinkPart} (hp : l[i]? = some p) {rf : CodeRef} (hrf : p.obj.refs[j]? = some rf) :
    Runs G n_spec_l9Ref [v, .int .i64 (i : Int), .int .i64 (j : Int)] σ (FV (refFault l i p j rf)) σ := by
  have hm := List.mem_of_getElem? hp
  have hol := obj_lens (part_total ht hm)
  refine Runs.of (W.to (fun k _ => spec_l9Ref.eq k _ _ _ _) ?_)
  refine W.at h (Lh.refl _) (lt_of_get hp) fun r o cs x hx hr hP => ?_
  obtain rfl : x = p := by rw [hp] at hx; injection hx with hx; exact hx.symm
  cases hP with
  | mk q0 q1 =>
  rename_i b0 b1
  have e0 : rdc σ r (o + 1 + 0) 1 = some [b0] := rdc_sub hr 1 1 (by omega)
  try simp only [q_bind_some, castInt_int, q_castBool, q_castStr, q_castPtr, q_castFn, q_castAgg, q_castTuple, q_uncons, q_isNil, q_sl, q_nils, q_emp, q_ptr, q_nilp, q_fn, q_cond_true, q_cond_false, Bool.not_true, Bool.not_false, decide_true, decide_false, List.cons_append, List.nil_append, e0]
  refine W.at q0 (Lh.refl _) (lt_of_get hrf) fun r2 o2 cs2 rf2 hrf2 hr2 hP2 => ?_
  obtain rfl : rf2 = rf := by rw [hrf] at hrf2; injection hrf2 with h; exact h.symm
  cases hP2 with
  | mk =>
  try simp only [q_bind_some, castInt_int, q_castBool, q_castStr, q_castPtr, q_castFn, q_castAgg, q_castTuple, q_uncons, q_isNil, q_sl, q_nils, q_emp, q_ptr, q_nilp, q_fn, q_cond_true, q_cond_false, Bool.not_true, Bool.not_false, decide_true, decide_false, List.cons_append, List.nil_append, hr2]
  by_cases hmo : rf2.mod = ⟨#[]⟩
  · have hnl : (0 : Int) ≤ (i : Int) := by omega
    try simp only [q_bind_some, castInt_int, q_castBool, q_castStr, q_castPtr, q_castFn, q_castAgg, q_castTuple, q_uncons, q_isNil, q_sl, q_nils, q_emp, q_ptr, q_nilp, q_fn, q_cond_true, q_cond_false, Bool.not_true, Bool.not_false, decide_true, decide_false, List.cons_append, List.nil_append, hmo, hnl]
    refine W.at h (Lh.refl _) (lt_of_get hp) fun r3 o3 cs3 x3 hx3 hr3 hP3 => ?_
    obtain rfl : x3 = x := by rw [hp] at hx3; injection hx3 with hx3; exact hx3.symm
    cases hP3 with
    | mk p0 p1 =>
    rename_i d0 d1
    have e1 : rdc σ r3 (o3 + 1) 2 = some [d0, d1] := rdc_sub hr3 1 2 (by omega)
    try simp only [q_bind_some, castInt_int, q_castBool, q_castStr, q_castPtr, q_castFn, q_castAgg, q_castTuple, q_uncons, q_isNil, q_sl, q_nils, q_emp, q_ptr, q_nilp, q_fn, q_cond_true, q_cond_false, Bool.not_true, Bool.not_false, decide_true, decide_false, List.cons_append, List.nil_append, e1]
    refine W.run (l9Fun_runs (by omega) (.mk p0 p1) rf2.name) ?_
    try simp only [q_bind_some, castInt_int, q_castBool, q_castStr, q_castPtr, q_castFn, q_castAgg, q_castTuple, q_uncons, q_isNil, q_sl, q_nils, q_emp, q_ptr, q_nilp, q_fn, q_cond_true, q_cond_false, Bool.not_true, Bool.not_false, decide_true, decide_false, List.cons_append, List.nil_append]
    have hrefF : refFault l i x3 j rf2 = if funIdx x3.obj rf2.name < 0 then (4, (i : Int), (j : Int)) else noF := by rw [refFault, if_pos hmo]
    refine W.ite (fun k2 => ?_) fun k2 => ?_
    · exact W.ret ⟨by rw [hrefF, if_pos k2]; rfl, rfl⟩
    · exact W.ret ⟨by rw [hrefF, if_neg k2]; rfl, rfl⟩
  · try simp only [q_bind_some, castInt_int, q_castBool, q_castStr, q_castPtr, q_castFn, q_castAgg, q_castTuple, q_uncons, q_isNil, q_sl, q_nils, q_emp, q_ptr, q_nilp, q_fn, q_cond_true, q_cond_false, Bool.not_true, Bool.not_false, decide_true, decide_false, List.cons_append, List.nil_append, hmo]
    refine W.run (l9Part_runs (by omega) h rf2.mod) ?_
    try simp only [q_bind_some, castInt_int, q_castBool, q_castStr, q_castPtr, q_castFn, q_castAgg, q_castTuple, q_uncons, q_isNil, q_sl, q_nils, q_emp, q_ptr, q_nilp, q_fn, q_cond_true, q_cond_false, Bool.not_true, Bool.not_false, decide_true, decide_false, List.cons_append, List.nil_append]
    refine W.ite (fun k1 => ?_) fun k1 => ?_
    rotate_left
    · have hm1 : ((-1 : Int) < 0) = True := by simp
      try simp only [q_bind_some, castInt_int, q_castBool, q_castStr, q_castPtr, q_castFn, q_castAgg, q_castTuple, q_uncons, q_isNil, q_sl, q_nils, q_emp, q_ptr, q_nilp, q_fn, q_cond_true, q_cond_false, Bool.not_true, Bool.not_false, decide_true, decide_false, List.cons_append, List.nil_append, hm1]
      refine W.ret ⟨?_, rfl⟩
      have : refFault l i x j rf2 = (4, (i : Int), (j : Int)) := by
        rw [refFault, if_neg hmo]
        split
        · rfl
        · rw [if_pos (by omega)]
      rw [this]; rfl
    have hpl : partIdx l rf2.mod < (l.length : Int) := fidx_lt _
    obtain ⟨q, hq⟩ : ∃ q : Nat, partIdx l rf2.mod = (q : Int) := ⟨(partIdx l rf2.mod).toNat, by omega⟩
    rw [hq]
    refine W.at h (Lh.refl _) (by omega) fun r3 o3 cs3 x2 hx2 hr3 hP3 => ?_
    have hol2 := obj_lens (part_total ht (List.mem_of_getElem? hx2))
    have e : ((q : Int)).toNat = q := by omega
    have hrefF : refFault l i x j rf2 = if funIdx x2.obj rf2.name < 0 then (4, (i : Int), (j : Int)) else if pubAt x2.obj (funIdx x2.obj rf2.name) then noF else (5, (i : Int), (j : Int)) := by
      rw [refFault, if_neg hmo, hq, e, hx2]
      simp only
      rw [if_neg (by omega)]
    cases hP3 with
    | mk p0 p1 =>
    rename_i d0 d1
    have e1 : rdc σ r3 (o3 + 1) 2 = some [d0, d1] := rdc_sub hr3 1 2 (by omega)
    try simp only [q_bind_some, castInt_int, q_castBool, q_castStr, q_castPtr, q_castFn, q_castAgg, q_castTuple, q_uncons, q_isNil, q_sl, q_nils, q_emp, q_ptr, q_nilp, q_fn, q_cond_true, q_cond_false, Bool.not_true, Bool.not_false, decide_true, decide_false, List.cons_append, List.nil_append, e1]
    refine W.run (l9Fun_runs (by omega) (.mk p0 p1) rf2.name) ?_
    try simp only [q_bind_some, castInt_int, q_castBool, q_castStr, q_castPtr, q_castFn, q_castAgg, q_castTuple, q_uncons, q_isNil, q_sl, q_nils, q_emp, q_ptr, q_nilp, q_fn, q_cond_true, q_cond_false, Bool.not_true, Bool.not_false, decide_true, decide_false, List.cons_append, List.nil_append]
    refine W.ite (fun k2 => ?_) fun k2 => ?_
    · exact W.ret ⟨by rw [hrefF, if_pos k2]; rfl, rfl⟩
    have hfl : funIdx x2.obj rf2.name < (x2.obj.funs.length : Int) := fidx_lt _
    obtain ⟨z, hz⟩ : ∃ z : Nat, funIdx x2.obj rf2.name = (z : Int) := ⟨(funIdx x2.obj rf2.name).toNat, by omega⟩
    refine W.at h (Lh.refl _) (by omega) fun r5 o5 cs5 x5 hx5 hr5 hP5 => ?_
    obtain rfl : x5 = x2 := by rw [hx2] at hx5; injection hx5 with hx5; exact hx5.symm
    cases hP5 with
    | mk p0' p1' =>
    rename_i d0' d1'
    have hr6 : rdc σ r5 (o5 + 1 + 1) 1 = some [d1'] := rdc_sub hr5 2 1 (by omega)
    try simp only [q_bind_some, castInt_int, q_castBool, q_castStr, q_castPtr, q_castFn, q_castAgg, q_castTuple, q_uncons, q_isNil, q_sl, q_nils, q_emp, q_ptr, q_nilp, q_fn, q_cond_true, q_cond_false, Bool.not_true, Bool.not_false, decide_true, decide_false, List.cons_append, List.nil_append, hr6]
    rw [hz]
    refine W.at p1' (Lh.refl _) (by omega) fun r7 o7 cs7 f7 hx7 hr7 hP7 => ?_
    cases hP7 with
    | mk t0 t1 =>
    have hr8 : rdc σ r7 (o7 + 1) 1 = some [.bool f7.pub] := rdc_sub hr7 1 1 (by omega)
    try simp only [q_bind_some, castInt_int, q_castBool, q_castStr, q_castPtr, q_castFn, q_castAgg, q_castTuple, q_uncons, q_isNil, q_sl, q_nils, q_emp, q_ptr, q_nilp, q_fn, q_cond_true, q_cond_false, Bool.not_true, Bool.not_false, decide_true, decide_false, List.cons_append, List.nil_append, hr8]
    have hpub : pubAt x5.obj (funIdx x5.obj rf2.name) = f7.pub := by rw [hz]; exact pub_at hx7
    cases hb : f7.pub with
    | false =>
      try simp only [q_bind_some, castInt_int, q_castBool, q_castStr, q_castPtr, q_castFn, q_castAgg, q_castTuple, q_uncons, q_isNil, q_sl, q_nils, q_emp, q_ptr, q_nilp, q_fn, q_cond_true, q_cond_false, Bool.not_true, Bool.not_false, decide_true, decide_false, List.cons_append, List.nil_append]
      exact W.ret ⟨by rw [hrefF, if_neg k2, hpub, hb]; rfl, rfl⟩
    | true =>
      try simp only [q_bind_some, castInt_int, q_castBool, q_castStr, q_castPtr, q_castFn, q_castAgg, q_castTuple, q_uncons, q_isNil, q_sl, q_nils, q_emp, q_ptr, q_nilp, q_fn, q_cond_true, q_cond_false, Bool.not_true, Bool.not_false, decide_true, decide_false, List.cons_append, List.nil_append]
      exact W.ret ⟨by rw [hrefF, if_neg k2, hpub, hb]; rfl, rfl⟩
theorem l9Calls_runs {σ : Heap} {v : V} {l : List LinkPart} (ht : l.length + totS LinkPart.total l ≤ 1048576) (h : RepS 3 (LinkPart.Rep σ) σ v l) {i : Nat} {p : LinkPart} (hp : l[i]? = some p) :
    Runs G n_spec_l9Calls [v, .int .i64 (i : Int)] σ (FV (scan (callFault p i) 0 p.obj.funs)) σ := by
  have hm := List.mem_of_getElem? hp
  have hol := obj_lens (part_total ht hm)
  refine Runs.of (W.to (fun k _ => spec_l9Calls.eq k _ _ _) ?_)
  refine W.at h (Lh.refl _) (lt_of_get hp) fun r o cs x hx hr hP => ?_
  obtain rfl : x = p := by rw [hp] at hx; injection hx with hx; exact hx.symm
  cases hP with
  | mk q0 q1 =>
  rename_i b0 b1
  have e1 : rdc σ r (o + 1) 2 = some [b0, b1] := rdc_sub hr 1 2 (by omega)
  try simp only [q_bind_some, castInt_int, q_castBool, q_castStr, q_castPtr, q_castFn, q_castAgg, q_castTuple, q_uncons, q_isNil, q_sl, q_nils, q_emp, q_ptr, q_nilp, q_fn, q_cond_true, q_cond_false, Bool.not_true, Bool.not_false, decide_true, decide_false, List.cons_append, List.nil_append, e1]
  refine W.loop (S := Nat) (fun j => j ≤ x.obj.funs.length ∧ ∀ (j' : Nat) f, j' < j → x.obj.funs[j']? = some f → callFault x i j' f = noF)
    (fun j => [.v (.int .i64 (i : Int)), .box [.int .i64 0, .int .i64 0, .int .i64 0], .box [b0, b1], .v (.int .i64 (j : Int))]) (fun _ => σ) (fun j => x.obj.funs.length - j) (fun j ⟨hj, hok⟩ => ?_)
    0 ⟨Nat.zero_le _, fun j f hj => absurd hj (Nat.not_lt_zero _)⟩
  refine W.to (fun k _ => by rw [spec_l9Calls.L0_step]) ?_
  refine B.len q1 (B.ite (fun hlt => ?_) fun hlt => ?_)
  rotate_left
  · try simp only [q_bind_some, castInt_int, q_castBool, q_castStr, q_castPtr, q_castFn, q_castAgg, q_castTuple, q_uncons, q_isNil, q_sl, q_nils, q_emp, q_ptr, q_nilp, q_fn, q_cond_true, q_cond_false, Bool.not_true, Bool.not_false, decide_true, decide_false, List.cons_append, List.nil_append, spec_l9Calls.A0_x0]
    refine W.ret ⟨?_, rfl⟩
    rw [scan_none fun j' y hy => by rw [Nat.zero_add]; exact hok j' y (by have := lt_of_get hy; omega) hy]
    rfl
  have hjl : j < x.obj.funs.length := by omega
  have hf : x.obj.funs[j]? = some x.obj.funs[j] := List.getElem?_eq_getElem hjl
  obtain ⟨r2, o2, hv2, cs2, hr2, hP2⟩ := q1.at hjl
  generalize x.obj.funs[j] = f at hf hP2
  have hfl := hol.2.2 f (List.mem_of_getElem? hf)
  cases hP2 with
  | mk t0 t1 =>
  rename_i c0 c1
  have e2 : rdc σ r2 (o2 + 5) 1 = some [c1] := rdc_sub hr2 5 1 (by omega)
  refine B.assoc ?_
  refine W.loop (S := Nat) (fun z => z ≤ f.code.length ∧ ∀ (z' : Nat) y, z' < z → f.code[z']? = some y → badCall x.obj.refs.length y = false)
    (fun z => [.v (.int .i64 (i : Int)), .box [.int .i64 0, .int .i64 0, .int .i64 0], .box [b0, b1], .v (.int .i64 (j : Int)), .v (.int .i64 (z : Int))]) (fun _ => σ) (fun z => f.code.length - z) (fun z ⟨hz, hokz⟩ => ?_)
    0 ⟨Nat.zero_le _, fun j f hj => absurd hj (Nat.not_lt_zero _)⟩
  refine W.to (fun k _ => by rw [spec_l9Calls.L1_step]) ?_
  try simp only [q_bind_some, castInt_int, q_castBool, q_castStr, q_castPtr, q_castFn, q_castAgg, q_castTuple, q_uncons, q_isNil, q_sl, q_nils, q_emp, q_ptr, q_nilp, q_fn, q_cond_true, q_cond_false, Bool.not_true, Bool.not_false, decide_true, decide_false, List.cons_append, List.nil_append, hv2, e2]
  refine B.len t1 (B.ite (fun hlt2 => ?_) fun hlt2 => ?_)
  · try simp only [q_bind_some, castInt_int, q_castBool, q_castStr, q_castPtr, q_castFn, q_castAgg, q_castTuple, q_uncons, q_isNil, q_sl, q_nils, q_emp, q_ptr, q_nilp, q_fn, q_cond_true, q_cond_false, Bool.not_true, Bool.not_false, decide_true, decide_false, List.cons_append, List.nil_append, hv2, e2]
    refine B.at t1 (Lh.refl _) (by omega) fun r3 o3 cs3 y hy hr3 hP3 => ?_
    cases hP3 with
    | mk =>
    try simp only [q_bind_some, castInt_int, q_castBool, q_castStr, q_castPtr, q_castFn, q_castAgg, q_castTuple, q_uncons, q_isNil, q_sl, q_nils, q_emp, q_ptr, q_nilp, q_fn, q_cond_true, q_cond_false, Bool.not_true, Bool.not_false, decide_true, decide_false, List.cons_append, List.nil_append, hr3]
    refine B.ite (fun k1 => ?_) fun k1 => ?_
    · refine B.len q0 (B.ite (fun k2 => ?_) fun k2 => ?_)
      · try simp only [q_bind_some, castInt_int, q_castBool, q_castStr, q_castPtr, q_castFn, q_castAgg, q_castTuple, q_uncons, q_isNil, q_sl, q_nils, q_emp, q_ptr, q_nilp, q_fn, q_cond_true, q_cond_false, Bool.not_true, Bool.not_false, decide_true, decide_false, List.cons_append, List.nil_append, spec_l9Calls.A1_ret, spec_l9Calls.A0_ret]
        refine W.ret ⟨?_, rfl⟩
        have hb : badCall x.obj.refs.length y = true := by simp [badCall, k1, k2]
        have hcf : callFault x i j f = (6, (i : Int), (j : Int)) := by
          rw [callFault, List.any_eq_true.2 ⟨y, List.mem_of_getElem? hy, hb⟩]; rfl
        rw [scan_at hf (by rw [Nat.zero_add, hcf]; simp [noF]) fun j' y hj' hy => by rw [Nat.zero_add]; exact hok j' y hj' hy, Nat.zero_add, hcf]
        rfl
      · try simp only [q_bind_some, castInt_int, q_castBool, q_castStr, q_castPtr, q_castFn, q_castAgg, q_castTuple, q_uncons, q_isNil, q_sl, q_nils, q_emp, q_ptr, q_nilp, q_fn, q_cond_true, q_cond_false, Bool.not_true, Bool.not_false, decide_true, decide_false, List.cons_append, List.nil_append, wrap_next (show z < f.code.length by omega) (by omega)]
        exact W.again (z + 1) ⟨by omega, ext_hok hy hokz (by simp [badCall, k2])⟩ (by omega) rfl rfl
    · try simp only [q_bind_some, castInt_int, q_castBool, q_castStr, q_castPtr, q_castFn, q_castAgg, q_castTuple, q_uncons, q_isNil, q_sl, q_nils, q_emp, q_ptr, q_nilp, q_fn, q_cond_true, q_cond_false, Bool.not_true, Bool.not_false, decide_true, decide_false, List.cons_append, List.nil_append, wrap_next (show z < f.code.length by omega) (by omega)]
      exact W.again (z + 1) ⟨by omega, ext_hok hy hokz (by simp [badCall, k1])⟩ (by omega) rfl rfl
  · have hcf : callFault x i j f = noF := by
      rw [callFault, List.any_eq_false.2 fun y hy => by
        obtain ⟨z', hz', rfl⟩ := List.getElem_of_mem hy
        rw [hokz z' _ (by omega) (List.getElem?_eq_getElem hz')]; simp]
      rfl
    try simp only [q_bind_some, castInt_int, q_castBool, q_castStr, q_castPtr, q_castFn, q_castAgg, q_castTuple, q_uncons, q_isNil, q_sl, q_nils, q_emp, q_ptr, q_nilp, q_fn, q_cond_true, q_cond_false, Bool.not_true, Bool.not_false, decide_true, decide_false, List.cons_append, List.nil_append, spec_l9Calls.A1_x2]
    refine W.out' _ (W.again (j + 1) ⟨by omega, ext_hok hf hok hcf⟩ (by omega) (by rw [wrap_next (show j < x.obj.funs.length by omega) (by omega)]) rfl) fun k j m => rfl
theorem ok_pos {f : Flt} (h : FOk f) : 0 < f.1 ↔ f ≠ noF := by
  constructor
  · rintro h rfl
    simp [noF] at h
  · intro hn
    exact h.resolve_left hn
theorem specLinkCheck_gives {σ : Heap} {v : V} {l : List LinkPart} (ht : l.length + totS LinkPart.total l ≤ 1048576) (hF : ∀ x, x ∈ l → x.Fit) (h : RepS 3 (LinkPart.Rep σ) σ v l) : Gives G n_spec_LinkCheck [v] σ (FV (linkFault l)) := by
  refine Gives.of (W.to (fun k _ => spec_LinkCheck.eq k _ _) ?_)
  refine W.len h (W.ite (fun k1 => ?_) fun k1 => ?_)
  · exact W.ret ⟨by rw [linkFault, if_pos (by omega)]; rfl, Lh.refl _⟩
  refine W.loop (S := Nat × Heap) (fun s => s.1 ≤ l.length ∧ Lh σ s.2 ∧ ∀ (j : Nat) p, j < s.1 → l[j]? = some p → formFault l j p = noF)
    (fun s => [.v v, .box [.int .i64 0, .int .i64 0, .int .i64 0], .v (.int .i64 (s.1 : Int))]) (fun s => s.2) (fun s => l.length - s.1) (fun ⟨i, σi⟩ ⟨hi, hle, hok⟩ => ?_)
    (0, σ) ⟨Nat.zero_le _, Lh.refl _, fun j f hj => absurd hj (Nat.not_lt_zero _)⟩
  simp only at hi hle hok ⊢
  refine W.to (fun k _ => by rw [spec_LinkCheck.L0_step]) ?_
  refine B.len h (B.ite (fun hlt => ?_) fun hlt => ?_)
  · have hil : i < l.length := by omega
    have hp : l[i]? = some l[i] := List.getElem?_eq_getElem hil
    generalize l[i] = p at hp
    refine B.give (l9Form_gives ht hF (h.mono hle fun cs x _ hc => LinkPart.Rep.le hle hc) hp) fun σ1 l1 => ?_
    have l01 := hle.trans l1
    try simp only [q_bind_some, castInt_int, q_castBool, q_castStr, q_castPtr, q_castFn, q_castAgg, q_castTuple, q_uncons, q_isNil, q_sl, q_nils, q_emp, q_ptr, q_nilp, q_fn, q_cond_true, q_cond_false, Bool.not_true, Bool.not_false, decide_true, decide_false, List.cons_append, List.nil_append, FV]
    have hpos := ok_pos (formFault_ok l i p)
    refine B.ite (fun k2 => ?_) fun k2 => ?_
    · try simp only [q_bind_some, castInt_int, q_castBool, q_castStr, q_castPtr, q_castFn, q_castAgg, q_castTuple, q_uncons, q_isNil, q_sl, q_nils, q_emp, q_ptr, q_nilp, q_fn, q_cond_true, q_cond_false, Bool.not_true, Bool.not_false, decide_true, decide_false, List.cons_append, List.nil_append, spec_LinkCheck.A0_ret]
      refine W.ret ⟨?_, l01⟩
      have hs : scan (formFault l) 0 l = formFault l i p := by
        rw [scan_at hp (by rw [Nat.zero_add]; exact hpos.1 k2) fun j' y hj' hy => by rw [Nat.zero_add]; exact hok j' y hj' hy, Nat.zero_add]
      rw [linkFault, if_neg (by omega), hs, if_neg (hpos.1 k2)]
    · try simp only [q_bind_some, castInt_int, q_castBool, q_castStr, q_castPtr, q_castFn, q_castAgg, q_castTuple, q_uncons, q_isNil, q_sl, q_nils, q_emp, q_ptr, q_nilp, q_fn, q_cond_true, q_cond_false, Bool.not_true, Bool.not_false, decide_true, decide_false, List.cons_append, List.nil_append, wrap_next hil (by omega)]
      exact W.again (i + 1, σ1) ⟨by show i + 1 ≤ l.length; omega, l01, ext_hok hp hok (Classical.byContradiction fun hn => k2 (hpos.2 hn))⟩ (by simp only; omega) rfl rfl
  have hform : scan (formFault l) 0 l = noF := scan_none fun j' y hy => by rw [Nat.zero_add]; exact hok j' y (by have := lt_of_get hy; omega) hy
  have hlf : linkFault l = scan (refsFault l) 0 l := by rw [linkFault, if_neg (by omega), if_pos hform]
  rw [hlf]
  try simp only [q_bind_some, castInt_int, q_castBool, q_castStr, q_castPtr, q_castFn, q_castAgg, q_castTuple, q_uncons, q_isNil, q_sl, q_nils, q_emp, q_ptr, q_nilp, q_fn, q_cond_true, q_cond_false, Bool.not_true, Bool.not_false, decide_true, decide_false, List.cons_append, List.nil_append, spec_LinkCheck.A0_x0]
  refine W.loop (S := Nat × Heap) (fun s => s.1 ≤ l.length ∧ Lh σ s.2 ∧ ∀ (j : Nat) p, j < s.1 → l[j]? = some p → refsFault l j p = noF)
    (fun s => [.v v, .box [.int .i64 0, .int .i64 0, .int .i64 0], .v (.int .i64 (s.1 : Int))]) (fun s => s.2) (fun s => l.length - s.1) (fun ⟨a, σa⟩ ⟨ha, hla, hoka⟩ => ?_)
    (0, σi) ⟨Nat.zero_le _, hle, fun j f hj => absurd hj (Nat.not_lt_zero _)⟩
  simp only at ha hla hoka ⊢
  refine W.to (fun k _ => by rw [spec_LinkCheck.L1_step]) ?_
  refine B.len h (B.ite (fun hlt => ?_) fun hlt => ?_)
  rotate_left
  · try simp only [q_bind_some, castInt_int, q_castBool, q_castStr, q_castPtr, q_castFn, q_castAgg, q_castTuple, q_uncons, q_isNil, q_sl, q_nils, q_emp, q_ptr, q_nilp, q_fn, q_cond_true, q_cond_false, Bool.not_true, Bool.not_false, decide_true, decide_false, List.cons_append, List.nil_append, spec_LinkCheck.A1_x2]
    refine W.ret ⟨?_, hla⟩
    rw [scan_none fun j' y hy => by rw [Nat.zero_add]; exact hoka j' y (by have := lt_of_get hy; omega) hy]
    rfl
  have hal : a < l.length := by omega
  have hp : l[a]? = some l[a] := List.getElem?_eq_getElem hal
  have hLa := h.mono hla fun cs x _ hc => LinkPart.Rep.le hla hc
  obtain ⟨r2, o2, hv2, cs2, hr2, hP2⟩ := hLa.at hal
  generalize l[a] = p at hp hP2
  have hol := obj_lens (part_total ht (List.mem_of_getElem? hp))
  cases hP2 with
  | mk t0 t1 =>
  rename_i c0 c1
  have e2 : rdc σa r2 (o2 + 1 + 0) 1 = some [c0] := rdc_sub hr2 1 1 (by omega)
  have found : ∀ {f : Flt}, refsFault l a p = f → f ≠ noF → scan (refsFault l) 0 l = f := fun he hn => by
    rw [scan_at hp (by rw [Nat.zero_add, he]; exact hn) fun j' y hj' hy => by rw [Nat.zero_add]; exact hoka j' y hj' hy, Nat.zero_add, he]
  refine B.assoc ?_
  refine W.loop (S := Nat) (fun z => z ≤ p.obj.refs.length ∧ ∀ (z' : Nat) y, z' < z → p.obj.refs[z']? = some y → refFault l a p z' y = noF)
    (fun z => [.v v, .box [.int .i64 0, .int .i64 0, .int .i64 0], .v (.int .i64 (a : Int)), .v (.int .i64 (z : Int))]) (fun _ => σa) (fun z => p.obj.refs.length - z) (fun z ⟨hz, hokz⟩ => ?_)
    0 ⟨Nat.zero_le _, fun j f hj => absurd hj (Nat.not_lt_zero _)⟩
  refine W.to (fun k _ => by rw [spec_LinkCheck.L2_step]) ?_
  try simp only [q_bind_some, castInt_int, q_castBool, q_castStr, q_castPtr, q_castFn, q_castAgg, q_castTuple, q_uncons, q_isNil, q_sl, q_nils, q_emp, q_ptr, q_nilp, q_fn, q_cond_true, q_cond_false, Bool.not_true, Bool.not_false, decide_true, decide_false, List.cons_append, List.nil_append, hv2, e2]
  refine B.len t0 (B.ite (fun hlt2 => ?_) fun hlt2 => ?_)
  · have hzl : z < p.obj.refs.length := by omega
    have hy : p.obj.refs[z]? = some p.obj.refs[z] := List.getElem?_eq_getElem hzl
    generalize p.obj.refs[z] = y at hy
    refine B.run (l9Ref_runs ht hLa hp hy) ?_
    try simp only [q_bind_some, castInt_int, q_castBool, q_castStr, q_castPtr, q_castFn, q_castAgg, q_castTuple, q_uncons, q_isNil, q_sl, q_nils, q_emp, q_ptr, q_nilp, q_fn, q_cond_true, q_cond_false, Bool.not_true, Bool.not_false, decide_true, decide_false, List.cons_append, List.nil_append, FV]
    have hpos := ok_pos (refFault_ok l a p z y)
    refine B.ite (fun k2 => ?_) fun k2 => ?_
    · try simp only [q_bind_some, castInt_int, q_castBool, q_castStr, q_castPtr, q_castFn, q_castAgg, q_castTuple, q_uncons, q_isNil, q_sl, q_nils, q_emp, q_ptr, q_nilp, q_fn, q_cond_true, q_cond_false, Bool.not_true, Bool.not_false, decide_true, decide_false, List.cons_append, List.nil_append, spec_LinkCheck.A2_ret, spec_LinkCheck.A1_ret]
      refine W.ret ⟨?_, hla⟩
      have hs : scan (refFault l a p) 0 p.obj.refs = refFault l a p z y := by
        rw [scan_at hy (by rw [Nat.zero_add]; exact hpos.1 k2) fun j' y hj' hy => by rw [Nat.zero_add]; exact hokz j' y hj' hy, Nat.zero_add]
      rw [found (by rw [refsFault, hs, if_neg (hpos.1 k2)]) (hpos.1 k2)]
    · try simp only [q_bind_some, castInt_int, q_castBool, q_castStr, q_castPtr, q_castFn, q_castAgg, q_castTuple, q_uncons, q_isNil, q_sl, q_nils, q_emp, q_ptr, q_nilp, q_fn, q_cond_true, q_cond_false, Bool.not_true, Bool.not_false, decide_true, decide_false, List.cons_append, List.nil_append, wrap_next hzl (by omega)]
      exact W.again (z + 1) ⟨by omega, ext_hok hy hokz (Classical.byContradiction fun hn => k2 (hpos.2 hn))⟩ (by omega) rfl rfl
  · have hrefs : scan (refFault l a p) 0 p.obj.refs = noF := scan_none fun j' y hy => by rw [Nat.zero_add]; exact hokz j' y (by have := lt_of_get hy; omega) hy
    have hrf : refsFault l a p = scan (callFault p a) 0 p.obj.funs := by rw [refsFault, if_pos hrefs]
    try simp only [q_bind_some, castInt_int, q_castBool, q_castStr, q_castPtr, q_castFn, q_castAgg, q_castTuple, q_uncons, q_isNil, q_sl, q_nils, q_emp, q_ptr, q_nilp, q_fn, q_cond_true, q_cond_false, Bool.not_true, Bool.not_false, decide_true, decide_false, List.cons_append, List.nil_append, spec_LinkCheck.A2_x4]
    refine B.run (l9Calls_runs ht hLa hp) ?_
    rw [← hrf]
    try simp only [q_bind_some, castInt_int, q_castBool, q_castStr, q_castPtr, q_castFn, q_castAgg, q_castTuple, q_uncons, q_isNil, q_sl, q_nils, q_emp, q_ptr, q_nilp, q_fn, q_cond_true, q_cond_false, Bool.not_true, Bool.not_false, decide_true, decide_false, List.cons_append, List.nil_append, FV]
    have hpos := ok_pos (refsFault_ok l a p)
    refine B.ite (fun k2 => ?_) fun k2 => ?_
    · try simp only [q_bind_some, castInt_int, q_castBool, q_castStr, q_castPtr, q_castFn, q_castAgg, q_castTuple, q_uncons, q_isNil, q_sl, q_nils, q_emp, q_ptr, q_nilp, q_fn, q_cond_true, q_cond_false, Bool.not_true, Bool.not_false, decide_true, decide_false, List.cons_append, List.nil_append, spec_LinkCheck.A1_ret]
      refine W.ret ⟨?_, hla⟩
      rw [found rfl (hpos.1 k2)]
    · have hn : refsFault l a p = noF := Classical.byContradiction fun hn => k2 (hpos.2 hn)
      refine W.out' _ (W.again (a + 1, σa) ⟨by show a + 1 ≤ l.length; omega, hla, ext_hok hp hoka hn⟩ (by simp only; omega) (by rw [wrap_next hal (by omega)]) rfl) fun k j m => rfl
end Go.B
