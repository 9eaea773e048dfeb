/- What LinkMake makes: the reference's. -/
import Derived.Test.YtghkdjfgbaoplaaLink5
set_option linter.unusedVariables false
set_option linter.unusedSimpArgs false
namespace Go.B
open Go.HM Go.Proofs
theorem CodeFun.Rep.prot {σ : Heap} {cs : List V} {x : CodeFun} (r : Nat) (h : CodeFun.Rep σ cs x) : CodeFun.Rep (prot [r] σ) cs x := by
  cases h with
  | mk a b => exact .mk (a.prot1 r) ((b.prot1 r).mono (Lh.refl _) fun cs x _ h => by cases h; exact .mk)
theorem LinkPart.Rep.prot {σ : Heap} {cs : List V} {x : LinkPart} (r : Nat) (h : LinkPart.Rep σ cs x) : LinkPart.Rep (prot [r] σ) cs x := by
  cases h with
  | mk a b => exact .mk ((a.prot1 r).mono (Lh.refl _) fun cs x _ h => by cases h; exact .mk) ((b.prot1 r).mono (Lh.refl _) fun cs x _ h => h.prot r)
theorem l9Move_ends {σ : Heap} {v : V} {l : List LinkPart} (ht : l.length + totS LinkPart.total l ≤ 1048576) (h : RepS 3 (LinkPart.Rep σ) σ v l) {i : Nat} {p : LinkPart} (hp : l[i]? = some p)
    {c : V} {code : List CodeIns} (hc : RepS 2 (CodeIns.Rep σ) σ c code) (hok : ∀ x, x ∈ code → x.op = 8 → 0 ≤ x.a ∧ x.a < (p.obj.refs.length : Int)) (hlen : code.length ≤ 1048576) :
    ∃ v' σ' R, Runs G n_spec_l9Move [v, .int .i64 (i : Int), c] σ v' σ' ∧ Lh σ σ' ∧ RepR 2 (RCodeIns σ') σ' v' (code.map (moveIns l p)) R ∧ R.Nodup ∧ ∀ j, j ∈ R → σ.length ≤ j := by
  have e46 : (2 : Nat) ^ 46 = 70368744177664 := by decide
  suffices hE : HM.Ends G n_spec_l9Move [v, .int .i64 (i : Int), c] σ (fun v' σ' => ∃ R, Lh σ σ' ∧ RepR 2 (RCodeIns σ') σ' v' (code.map (moveIns l p)) R ∧ R.Nodup ∧ ∀ j, j ∈ R → σ.length ≤ j) by
    obtain ⟨w, σ', ⟨R, hp⟩, hr⟩ := hE
    exact ⟨w, σ', R, hr, hp⟩
  obtain ⟨r0, o0, hv0, cs0, hr0, hP0⟩ := h.at' hp
  cases hP0 with
  | mk q0 q1 =>
  rename_i b0 b1
  refine HM.Ends.mk (W.to (fun k _ => spec_l9Move.eq k _ _ _ _) ?_)
  refine W.loop (S := Nat × V × Heap) (fun s => s.1 ≤ code.length ∧ Lh σ s.2.2 ∧ At0 s.2.1 ∧ ∃ R, RepR 2 (RCodeIns s.2.2) s.2.2 s.2.1 ((code.take s.1).map (moveIns l p)) R ∧ R.Nodup ∧ ∀ j, j ∈ R → σ.length ≤ j)
    (fun s => [.v v, .v (.int .i64 (i : Int)), .v c, .v s.2.1, .v (.int .i64 (s.1 : Int))]) (fun s => s.2.2) (fun s => code.length - s.1) (fun ⟨j, a4, σi⟩ ⟨hj, hle, h0, R, hR, hn, hb⟩ => ?_)
    (0, .sl σ.length 0 0 true, hnew σ 2 []) ⟨Nat.zero_le _, Lh.new _ _ _, .inr ⟨_, _, _, rfl⟩, [σ.length], (RepR.flat (P := fun cs (x : CodeIns) => cs = [.int .i64 x.op, .int .i64 x.a]) (l := []) (cells := []) (ty := 0) (by simp [hnew]) ⟨by simp, fun i x hx => by simp at hx⟩).keep (fun _ _ => rfl) (fun cs x R h _ => h), by simp, fun j hj => by simp at hj; omega⟩
  simp only at hj hle h0 hR ⊢
  refine W.to (fun k _ => by rw [spec_l9Move.L0_step]) ?_
  refine B.len hc ?_
  refine B.ite (fun hlt => ?_) fun hlt => ?_
  rotate_left
  · obtain rfl : j = code.length := by omega
    try simp only [q_bind_some, castInt_int, q_castBool, q_castStr, q_castPtr, q_castFn, q_castAgg, q_castTuple, q_uncons, q_isNil, q_sl, q_nils, q_emp, q_ptr, q_nilp, q_fn, q_cond_true, q_cond_false, Bool.not_true, Bool.not_false, decide_true, decide_false, List.cons_append, List.nil_append, spec_l9Move.A0_x0]
    rw [List.take_length] at hR
    exact W.ret ⟨R, hle, hR, hn, hb⟩
  have hil : j < code.length := by omega
  have hx : code[j]? = some code[j] := List.getElem?_eq_getElem hil
  have hxm : code[j] ∈ code := List.getElem_mem hil
  generalize code[j] = x at hx hxm
  have hnext := wrap_next hil (by omega)
  obtain ⟨r, o, hv, cs, hr, hP⟩ := hc.at' hx
  have hr' := hle.rdc hr
  have hstep : (code.take (j + 1)).map (moveIns l p) = (code.take j).map (moveIns l p) ++ [moveIns l p x] := by
    rw [take_next' hx, List.map_append]
    rfl
  have hlen2 : ((code.take j).map (moveIns l p)).length ≤ 1048576 := by simp; omega
  have put : ∀ (y : CodeIns), y = moveIns l p x → ∃ a4' σ2, vappend 2 16 σi a4 1 [.int .i64 y.op, .int .i64 y.a] = some (a4', σ2) ∧ Lh σ σ2 ∧ At0 a4' ∧ ∃ R, RepR 2 (RCodeIns σ2) σ2 a4' ((code.take (j + 1)).map (moveIns l p)) R ∧ R.Nodup ∧ ∀ j, j ∈ R → σ.length ≤ j := by
    intro y hy
    obtain ⟨v', σ2, R', k1, k2, k3, k4, k5, k6, k7⟩ := hR.app (bytes := 16) (Q := RCodeIns) h0 (x := y) (cs := [.int .i64 y.op, .int .i64 y.a]) (Rx := []) ⟨rfl, rfl⟩ rfl (fun cs x R h k => RCodeIns.keep cs x R h k) (fun cs x R h => RCodeIns.lt cs x R h) (by simpa using hn) (by omega) (by omega)
    refine ⟨v', σ2, k1, ⟨by rw [k6]; have := hle.len; omega, fun q row hq => ?_⟩, k3, R', by rw [hstep, ← hy]; exact k2, k4, fun q hq => ?_⟩
    · have := get_lt hq
      have h2 := hle.row _ _ hq
      rw [k7 q (get_lt h2) fun hc => by have := hb q hc; omega]
      exact h2
    · rcases k5 q hq with hq | hq | hq
      · have := hle.len; omega
      · exact hb q hq
      · cases hq
  cases hP with
  | mk =>
  try simp only [q_bind_some, castInt_int, q_castBool, q_castStr, q_castPtr, q_castFn, q_castAgg, q_castTuple, q_uncons, q_isNil, q_sl, q_nils, q_emp, q_ptr, q_nilp, q_fn, q_cond_true, q_cond_false, Bool.not_true, Bool.not_false, decide_true, decide_false, List.cons_append, List.nil_append, hv, hr']
  by_cases hop : x.op = 8
  rotate_left
  · obtain ⟨a4', σ2, m1, m2, m3, m4⟩ := put x (by rw [moveIns, if_neg hop])
    try simp only [q_bind_some, castInt_int, q_castBool, q_castStr, q_castPtr, q_castFn, q_castAgg, q_castTuple, q_uncons, q_isNil, q_sl, q_nils, q_emp, q_ptr, q_nilp, q_fn, q_cond_true, q_cond_false, Bool.not_true, Bool.not_false, decide_true, decide_false, List.cons_append, List.nil_append, decide_eq_false hop, m1]
    exact W.again (j + 1, a4', σ2) ⟨by show j + 1 ≤ code.length; omega, m2, m3, m4⟩ (by simp only; omega) (by rw [hnext]) rfl
  · obtain ⟨ha0, ha1⟩ := hok x hxm hop
    obtain ⟨a, ha⟩ : ∃ a : Nat, x.a = (a : Int) := ⟨x.a.toNat, by omega⟩
    have hal : a < p.obj.refs.length := by omega
    have hrf : p.obj.refs[a]? = some p.obj.refs[a] := List.getElem?_eq_getElem hal
    generalize p.obj.refs[a] = rf at hrf
    obtain ⟨r2, o2, hv2, cs2, hr2, hP2⟩ := (q0.mono hle fun cs x _ h => CodeRef.Rep.le hle h).at' hrf
    have e1 : x.a.toNat = a := by omega
    have hmv : moveIns l p x = ⟨x.op, (linkFind l (if rf.mod = ⟨#[]⟩ then p.name else rf.mod) rf.name).1⟩ := by
      rw [moveIns, if_pos hop, e1, hrf]
    have g0 : rdc σi r0 (o0 + 1 + 0) 1 = some [b0] := rdc_sub (hle.rdc hr0) 1 1 (by omega)
    have g1 : rdc σi r0 (o0 + 0) 1 = some [.str p.name] := rdc_sub (hle.rdc hr0) 0 1 (by omega)
    have hfind := fun md => specLinkFind_runs ht (h.mono hle fun cs x _ h => LinkPart.Rep.le hle h) md rf.name
    cases hP2 with
    | mk =>
    rw [ha]
    try simp only [q_bind_some, castInt_int, q_castBool, q_castStr, q_castPtr, q_castFn, q_castAgg, q_castTuple, q_uncons, q_isNil, q_sl, q_nils, q_emp, q_ptr, q_nilp, q_fn, q_cond_true, q_cond_false, Bool.not_true, Bool.not_false, decide_true, decide_false, List.cons_append, List.nil_append, decide_eq_true hop, hv0, g0, hv2, hr2, unprot_prot]
    by_cases hm : rf.mod = ⟨#[]⟩
    · obtain ⟨a4', σ2, m1, m2, m3, m4⟩ := put ⟨x.op, (linkFind l p.name rf.name).1⟩ (by rw [hmv, if_pos hm])
      try simp only [q_bind_some, castInt_int, q_castBool, q_castStr, q_castPtr, q_castFn, q_castAgg, q_castTuple, q_uncons, q_isNil, q_sl, q_nils, q_emp, q_ptr, q_nilp, q_fn, q_cond_true, q_cond_false, Bool.not_true, Bool.not_false, decide_true, decide_false, List.cons_append, List.nil_append, decide_eq_true hm, g1]
      refine B.run (hfind p.name) ?_
      try simp only [q_bind_some, castInt_int, q_castBool, q_castStr, q_castPtr, q_castFn, q_castAgg, q_castTuple, q_uncons, q_isNil, q_sl, q_nils, q_emp, q_ptr, q_nilp, q_fn, q_cond_true, q_cond_false, Bool.not_true, Bool.not_false, decide_true, decide_false, List.cons_append, List.nil_append, m1]
      exact W.again (j + 1, a4', σ2) ⟨by show j + 1 ≤ code.length; omega, m2, m3, m4⟩ (by simp only; omega) (by rw [hnext]) rfl
    · obtain ⟨a4', σ2, m1, m2, m3, m4⟩ := put ⟨x.op, (linkFind l rf.mod rf.name).1⟩ (by rw [hmv, if_neg hm])
      try simp only [q_bind_some, castInt_int, q_castBool, q_castStr, q_castPtr, q_castFn, q_castAgg, q_castTuple, q_uncons, q_isNil, q_sl, q_nils, q_emp, q_ptr, q_nilp, q_fn, q_cond_true, q_cond_false, Bool.not_true, Bool.not_false, decide_true, decide_false, List.cons_append, List.nil_append, decide_eq_false hm]
      refine B.run (hfind rf.mod) ?_
      try simp only [q_bind_some, castInt_int, q_castBool, q_castStr, q_castPtr, q_castFn, q_castAgg, q_castTuple, q_uncons, q_isNil, q_sl, q_nils, q_emp, q_ptr, q_nilp, q_fn, q_cond_true, q_cond_false, Bool.not_true, Bool.not_false, decide_true, decide_false, List.cons_append, List.nil_append, m1]
      exact W.again (j + 1, a4', σ2) ⟨by show j + 1 ≤ code.length; omega, m2, m3, m4⟩ (by simp only; omega) (by rw [hnext]) rfl
theorem specLinkMake_ends {σ : Heap} {v : V} {l : List LinkPart} (ht : l.length + totS LinkPart.total l ≤ 1048576) (hF : ∀ x, x ∈ l → x.Fit) (h : RepS 3 (LinkPart.Rep σ) σ v l) :
    ∃ fv mv σ' R7 R8, Runs G n_spec_LinkMake [v] σ (.tuple [.agg [fv, mv], FV (linkFault l)]) σ' ∧ Jn σ (img l).funs (img l).mains fv mv σ' R7 R8 := by
  suffices hE : HM.Ends G n_spec_LinkMake [v] σ (fun w σ' => ∃ fv mv R7 R8, w = .tuple [.agg [fv, mv], FV (linkFault l)] ∧ Jn σ (img l).funs (img l).mains fv mv σ' R7 R8) by
    obtain ⟨w, σ', ⟨fv, mv, R7, R8, rfl, hp⟩, hr⟩ := hE
    exact ⟨fv, mv, σ', R7, R8, hr, hp⟩
  refine HM.Ends.mk (W.to (fun k _ => spec_LinkMake.eq k _ _) ?_)
  refine W.give (specLinkCheck_gives ht hF h) fun σ1 l1 => ?_
  have hok : FOk (linkFault l) := by
    unfold linkFault
    split
    · exact .inr (by simp)
    · split
      · exact scan_ok fun j y _ => refsFault_ok l j y
      · exact scan_ok fun j y _ => formFault_ok l j y
  try simp only [q_bind_some, castInt_int, q_castBool, q_castStr, q_castPtr, q_castFn, q_castAgg, q_castTuple, q_uncons, q_isNil, q_sl, q_nils, q_emp, q_ptr, q_nilp, q_fn, q_cond_true, q_cond_false, Bool.not_true, Bool.not_false, decide_true, decide_false, List.cons_append, List.nil_append, FV]
  by_cases hz : linkFault l = noF
  rotate_left
  · have hpos := (ok_pos hok).2 hz
    try simp only [q_bind_some, castInt_int, q_castBool, q_castStr, q_castPtr, q_castFn, q_castAgg, q_castTuple, q_uncons, q_isNil, q_sl, q_nils, q_emp, q_ptr, q_nilp, q_fn, q_cond_true, q_cond_false, Bool.not_true, Bool.not_false, decide_true, decide_false, List.cons_append, List.nil_append, decide_eq_true hpos]
    refine W.ret ⟨.nils, .nils, [], [], rfl, ?_⟩
    rw [img, if_neg hz]
    exact ⟨.nils, .inl rfl, .nils, .inl rfl, List.nodup_nil, fun j hj => (by cases hj), l1⟩
  have hpos : ¬ 0 < (linkFault l).1 := fun hc => (ok_pos hok).1 hc hz
  try simp only [q_bind_some, castInt_int, q_castBool, q_castStr, q_castPtr, q_castFn, q_castAgg, q_castTuple, q_uncons, q_isNil, q_sl, q_nils, q_emp, q_ptr, q_nilp, q_fn, q_cond_true, q_cond_false, Bool.not_true, Bool.not_false, decide_true, decide_false, List.cons_append, List.nil_append, decide_eq_false hpos]
  have himg : img l = ⟨dn l l.length, mIdx 0 (dn l l.length)⟩ := by rw [img, if_pos hz]
  have hbase : ∀ i, baseOf l i ≤ 1048576 := fun i => Nat.le_trans (base_le l i) (by omega)
  refine W.loop (S := Nat × V × V × Heap) (fun s => s.1 ≤ l.length ∧ ∃ R7 R8, Jn σ (dn l s.1) (mIdx 0 (dn l s.1)) s.2.1 s.2.2.1 s.2.2.2 R7 R8)
    (fun s => [.v v, .box [.nils, .nils], .box [.int .i64 0, .int .i64 0, .int .i64 0], .box [s.2.1, s.2.2.1], .v (.int .i64 (s.1 : Int))]) (fun s => s.2.2.2) (fun s => l.length - s.1) (fun ⟨i, a7, a8, σi⟩ ⟨hi, R7, R8, hJ⟩ => ?_)
    (0, .nils, .nils, σ1) ⟨Nat.zero_le _, [], [], .nils, .inl rfl, .nils, .inl rfl, List.nodup_nil, fun j hj => (by cases hj), l1⟩
  simp only at hi hJ ⊢
  refine W.to (fun k _ => by rw [spec_LinkMake.L0_step]) ?_
  refine B.len h ?_
  refine B.ite (fun hlt => ?_) fun hlt => ?_
  rotate_left
  · obtain rfl : i = l.length := by omega
    try simp only [q_bind_some, castInt_int, q_castBool, q_castStr, q_castPtr, q_castFn, q_castAgg, q_castTuple, q_uncons, q_isNil, q_sl, q_nils, q_emp, q_ptr, q_nilp, q_fn, q_cond_true, q_cond_false, Bool.not_true, Bool.not_false, decide_true, decide_false, List.cons_append, List.nil_append, spec_LinkMake.A0_x0]
    refine W.ret ⟨a7, a8, R7, R8, by rw [hz]; rfl, ?_⟩
    rw [himg]
    exact hJ
  have hil : i < l.length := by omega
  have hp : l[i]? = some l[i] := List.getElem?_eq_getElem hil
  have hpm : l[i] ∈ l := List.getElem_mem hil
  generalize l[i] = p at hp hpm
  have hfine := link_fine hz hp
  have hnext := wrap_next hil (by omega)
  have hpt := part_total ht hpm
  have hlens := obj_lens hpt
  obtain ⟨r, o, hv, cs, hr, hP⟩ := h.at' hp
  have hrl : r < σ.length := by
    obtain ⟨rowr, hrowr, _⟩ := rdc_some hr
    exact get_lt hrowr
  cases hP with
  | mk q0 q1 =>
  rename_i b0 b1
  refine W.to (fun k jm => Option.bind_assoc _ _ _) ?_
  refine W.loop (S := Nat × V × V × Heap) (fun s => s.1 ≤ p.obj.funs.length ∧ ∃ R7 R8, Jn σ (dn l i ++ (p.obj.funs.take s.1).map (moveFun l p)) (mIdx 0 (dn l i ++ (p.obj.funs.take s.1).map (moveFun l p))) s.2.1 s.2.2.1 s.2.2.2 R7 R8)
    (fun s => [.v v, .box [.nils, .nils], .box [.int .i64 0, .int .i64 0, .int .i64 0], .box [s.2.1, s.2.2.1], .v (.int .i64 (i : Int)), .v (.int .i64 (s.1 : Int))]) (fun s => s.2.2.2) (fun s => p.obj.funs.length - s.1) (fun ⟨j, c7, c8, σj⟩ ⟨hj, S7, S8, hK⟩ => ?_)
    (0, a7, a8, σi) ⟨Nat.zero_le _, R7, R8, by simpa using hJ⟩
  simp only at hj hK ⊢
  refine W.to (fun k _ => by rw [spec_LinkMake.L1_step]) ?_
  have g2 : rdc σj r (o + 1 + 1) 1 = some [b1] := rdc_sub (hK.le.rdc hr) 2 1 (by omega)
  try simp only [q_bind_some, castInt_int, q_castBool, q_castStr, q_castPtr, q_castFn, q_castAgg, q_castTuple, q_uncons, q_isNil, q_sl, q_nils, q_emp, q_ptr, q_nilp, q_fn, q_cond_true, q_cond_false, Bool.not_true, Bool.not_false, decide_true, decide_false, List.cons_append, List.nil_append, hv, g2]
  refine B.len q1 ?_
  refine B.ite (fun hltj => ?_) fun hltj => ?_
  rotate_left
  · have hjl : j = p.obj.funs.length := by omega
    rw [hjl, List.take_length] at hK
    rw [← dn_next hp] at hK
    try simp only [q_bind_some, castInt_int, q_castBool, q_castStr, q_castPtr, q_castFn, q_castAgg, q_castTuple, q_uncons, q_isNil, q_sl, q_nils, q_emp, q_ptr, q_nilp, q_fn, q_cond_true, q_cond_false, Bool.not_true, Bool.not_false, decide_true, decide_false, List.cons_append, List.nil_append, spec_LinkMake.A1_x2, hnext]
    exact W.out' _ (W.again (i + 1, c7, c8, σj) ⟨by show i + 1 ≤ l.length; omega, S7, S8, hK⟩ (by simp only; omega) rfl rfl) (fun k j m => rfl)
  have hjl : j < p.obj.funs.length := by omega
  have hf : p.obj.funs[j]? = some p.obj.funs[j] := List.getElem?_eq_getElem hjl
  have hfm : p.obj.funs[j] ∈ p.obj.funs := List.getElem_mem hjl
  generalize p.obj.funs[j] = f at hf hfm
  have hnextj := wrap_next hjl (by omega)
  obtain ⟨r2, o2, hv2, cs2, hr2, hP2⟩ := q1.at' hf
  have hr2' := hK.le.rdc hr2
  have hfl : f.args.length ≤ 1048576 ∧ f.code.length ≤ 1048576 := by
    have h1 := totS_mem CodeFun.total hfm
    have h2 := CodeObj.total_eq p.obj
    have h3 := CodeFun.total_eq f
    omega
  have hdl : (dn l i ++ (p.obj.funs.take j).map (moveFun l p)).length ≤ 2097151 := by
    rw [List.length_append, dn_len (by omega), List.length_map, List.length_take]
    have := hbase i
    have := hlens.2.1
    omega
  have hstep : dn l i ++ (p.obj.funs.take (j + 1)).map (moveFun l p) = (dn l i ++ (p.obj.funs.take j).map (moveFun l p)) ++ [moveFun l p f] := by
    rw [take_next' hf, List.map_append, List.append_assoc]
    rfl
  generalize hfs : dn l i ++ (p.obj.funs.take j).map (moveFun l p) = fs at hK hdl hstep
  have hml := mIdx_len fs 0
  have hvl : vlen c7 = some fs.length := (hK.f.rep (P := LinkFun.Rep σj) fun cs x R _ h => RLinkFun.rep cs x R h).vlen
  cases hP2 with
  | mk p0 p1 =>
  rename_i d0 d1
  try simp only [q_bind_some, castInt_int, q_castBool, q_castStr, q_castPtr, q_castFn, q_castAgg, q_castTuple, q_uncons, q_isNil, q_sl, q_nils, q_emp, q_ptr, q_nilp, q_fn, q_cond_true, q_cond_false, Bool.not_true, Bool.not_false, decide_true, decide_false, List.cons_append, List.nil_append, hv, g2, hv2, hr2']
  have e46 : (2 : Nat) ^ 46 = 70368744177664 := by decide
  have rest : ∀ (ms : List Int) (c8' : V) (σk : Heap) (T8 : List Nat), Jn σ fs ms c7 c8' σk S7 T8 → mIdx 0 (fs ++ [moveFun l p f]) = ms →
      ∃ cs va τa σa vc τc σc c7' τd σd, rdc σk r (o + 0) 1 = some [.str p.name] ∧ unprot [r] σk (hnew (prot [r] σk) 1 []) = hnew σk 1 [] ∧ (prot [r] σk).length = σk.length ∧ vcells (prot [r] (hnew σk 1 [])) 1 d0 = some (f.args.length, cs) ∧
        vappend 1 8 (prot [r] (hnew σk 1 [])) (.sl σk.length 0 0 true) f.args.length cs = some (va, τa) ∧ unprot [r] (hnew σk 1 []) τa = σa ∧
        Runs G n_spec_l9Move [v, .int .i64 (i : Int), d1] (prot [r] σa) vc τc ∧ unprot [r] σa τc = σc ∧ isSl va = true ∧ isSl vc = true ∧ vappend 6 96 (prot [r] σc) c7 1 [.str p.name, .str f.name, va, .int .i64 f.type, .int .i64 f.slots, vc] = some (c7', τd) ∧ unprot [r] σc τd = σd ∧ isSl c7' = true ∧
        ∃ T7 T8, Jn σ (dn l i ++ (p.obj.funs.take (j + 1)).map (moveFun l p)) (mIdx 0 (dn l i ++ (p.obj.funs.take (j + 1)).map (moveFun l p))) c7' c8' σd T7 T8 := by
    intro ms c8' σk T8 hk hms
    obtain ⟨cs, va, σa, Ra, x0, x1, x2, x3, _, x4, x5, _⟩ := clone_ok (bytes := 8) (p0.le hk.le) (by omega) (by omega)
    have hrk : r < σk.length := Nat.lt_of_lt_of_le hrl hk.le.len
    obtain ⟨τa, u1, u2⟩ := vappend_prot (p := r) (fun q o n lim he => by injection he with he; omega) x1
    have hla := hk.le.trans x2
    have hlrep := h.mono hla fun cs x _ h => LinkPart.Rep.le hla h
    obtain ⟨vc, τc, Rc, y1, y2, y3, y4, y5⟩ := l9Move_ends (σ := prot [r] σa) ht ((hlrep.prot1 r).mono (Lh.refl _) fun cs x _ h => h.prot r) hp (((p1.mono hla fun cs x _ h => CodeIns.Rep.le hla h).prot1 r).mono (Lh.refl _) fun cs x _ h => by cases h; exact .mk) (hfine f hfm) hfl.2
    rw [prot1_len] at y5
    have hlc : Lh σa (unprot [r] σa τc) := y2.unprot1
    have hra : r < σa.length := Nat.lt_of_lt_of_le hrk x2.len
    have y3' : RepR 2 (RCodeIns (unprot [r] σa τc)) (unprot [r] σa τc) vc (f.code.map (moveIns l p)) Rc := y3.keep (fun j hj => unprot1_get _ _ (by have := y5 j hj; omega)) fun cs x R h k => RCodeIns.keep cs x R h k
    have hlt7 := hk.lt7
    have hlt8 := hk.lt8
    have x3' : RepR 1 (RInt σa) σa va f.args Ra := x3.keep (fun _ _ => rfl) fun cs x R h _ => h
    have hltA := x3'.lt fun cs x R h => RInt.lt cs x R h
    have hk' := hk.up (x2.trans hlc)
    have h1 := x2.len
    have h2 := hk.le.len
    obtain ⟨c7', σd, T7, z1, z2, z3⟩ := hk'.fun (moveFun l p f) (x3'.le hlc fun cs x R h => RInt.le hlc cs x R h) y3' (nodup_far x4 y4 hltA y5) (fun j hj => by
      have hge : σk.length ≤ j := by
        rcases List.mem_append.1 hj with hj | hj
        · exact x5 j hj
        · have := y5 j hj; omega
      exact ⟨by omega, fun hc => by have := hlt7 j hc; omega, fun hc => by have := hlt8 j hc; omega⟩) (by omega)
    obtain ⟨τd, w1, w2⟩ := vappend_prot (p := r) (fun q o n lim he hq => by
      have hf7 := hk'.f
      rw [he] at hf7
      cases hf7 with
      | sl _ _ _ _ row _ Rs _ hrow =>
        have := hk'.lo q (by simp)
        omega) z1
    refine ⟨cs, va, τa, σa, vc, τc, _, c7', τd, σd, rdc_sub (hk.le.rdc hr) 0 1 (by omega), unprot1 σk r _, prot1_len _ _, vcells_prot x0, u1, u2, y1, rfl, x3'.isSl, y3'.isSl, w1, w2, z2, T7, T8, ?_⟩
    rw [hstep, hms]
    exact z3
  by_cases hmain : f.name = mainW
  · have hmain' : f.name = (⟨#[109, 97, 105, 110]⟩ : ByteArray) := hmain
    obtain ⟨c8', σk, T8, m1, m2, m3⟩ := hK.main (fs.length : Int) (by omega)
    have hms : mIdx 0 (fs ++ [moveFun l p f]) = mIdx 0 fs ++ [(fs.length : Int)] := by
      rw [mIdx_app, mIdx, mIdx]
      have : (moveFun l p f).name = mainW := hmain
      rw [if_pos this]
      simp
    obtain ⟨cs, va, τa, σa, vc, τc, σc, c7', τd, σd, a1, a2, a3, a4, a5, a6, a7, a8, x2, y2, z1, z2, z3, T7, T8', z4⟩ := rest _ c8' σk T8 m3 hms
    try simp only [q_bind_some, castInt_int, q_castBool, q_castStr, q_castPtr, q_castFn, q_castAgg, q_castTuple, q_uncons, q_isNil, q_sl, q_nils, q_emp, q_ptr, q_nilp, q_fn, q_cond_true, q_cond_false, Bool.not_true, Bool.not_false, decide_true, decide_false, List.cons_append, List.nil_append, decide_eq_true hmain', hvl, m1, one_sl' m2, hv, a1, a2, a3, a4, a5, a6]
    refine B.run a7 ?_
    try simp only [q_bind_some, castInt_int, q_castBool, q_castStr, q_castPtr, q_castFn, q_castAgg, q_castTuple, q_uncons, q_isNil, q_sl, q_nils, q_emp, q_ptr, q_nilp, q_fn, q_cond_true, q_cond_false, Bool.not_true, Bool.not_false, decide_true, decide_false, List.cons_append, List.nil_append, one_sl' x2, one_sl' y2, a8, unprot0, z1, z2, one_sl' z3]
    exact W.again (j + 1, c7', c8', σd) ⟨by show j + 1 ≤ p.obj.funs.length; omega, T7, T8', z4⟩ (by simp only; omega) (by rw [hnextj]) rfl
  · have hmain' : ¬ f.name = (⟨#[109, 97, 105, 110]⟩ : ByteArray) := hmain
    have hms : mIdx 0 (fs ++ [moveFun l p f]) = mIdx 0 fs := by
      rw [mIdx_app, mIdx, mIdx]
      have : ¬ (moveFun l p f).name = mainW := hmain
      rw [if_neg this]
      simp
    obtain ⟨cs, va, τa, σa, vc, τc, σc, c7', τd, σd, a1, a2, a3, a4, a5, a6, a7, a8, x2, y2, z1, z2, z3, T7, T8', z4⟩ := rest _ c8 σj S8 hK hms
    try simp only [q_bind_some, castInt_int, q_castBool, q_castStr, q_castPtr, q_castFn, q_castAgg, q_castTuple, q_uncons, q_isNil, q_sl, q_nils, q_emp, q_ptr, q_nilp, q_fn, q_cond_true, q_cond_false, Bool.not_true, Bool.not_false, decide_true, decide_false, List.cons_append, List.nil_append, decide_eq_false hmain', hv, a1, a2, a3, a4, a5, a6]
    refine B.run a7 ?_
    try simp only [q_bind_some, castInt_int, q_castBool, q_castStr, q_castPtr, q_castFn, q_castAgg, q_castTuple, q_uncons, q_isNil, q_sl, q_nils, q_emp, q_ptr, q_nilp, q_fn, q_cond_true, q_cond_false, Bool.not_true, Bool.not_false, decide_true, decide_false, List.cons_append, List.nil_append, one_sl' x2, one_sl' y2, a8, unprot0, z1, z2, one_sl' z3]
    exact W.again (j + 1, c7', c8, σd) ⟨by show j + 1 ≤ p.obj.funs.length; omega, T7, T8', z4⟩ (by simp only; omega) (by rw [hnextj]) rfl
end Go.B
