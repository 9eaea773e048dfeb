/- What LinkMake makes: the program's loop. -/
import Derived.Test.YtghkdjfgbaoplaaLink4
set_option linter.unusedVariables false
set_option linter.unusedSimpArgs false
namespace Go.B
open Go.HM Go.Proofs
noncomputable def img (l : List LinkPart) : LinkImage := open Classical in if linkFault l = noF then ⟨dn l l.length, mIdx 0 (dn l l.length)⟩ else ⟨[], []⟩
structure Jn (σ : Heap) (fs : List LinkFun) (ms : List Int) (a7 a8 : V) (σi : Heap) (R7 R8 : List Nat) : Prop where
  f : RepR 6 (RLinkFun σi) σi a7 fs R7
  f0 : At0 a7
  m : RepR 1 (RInt σi) σi a8 ms R8
  m0 : At0 a8
  nd : (R7 ++ R8).Nodup
  lo : ∀ j, j ∈ R7 ++ R8 → σ.length ≤ j
  le : Lh σ σi
theorem Jn.lt7 {σ : Heap} {fs : List LinkFun} {ms : List Int} {a7 a8 : V} {σi : Heap} {R7 R8 : List Nat} (h : Jn σ fs ms a7 a8 σi R7 R8) : ∀ j, j ∈ R7 → j < σi.length := h.f.lt fun cs x R h => RLinkFun.lt cs x R h
theorem Jn.lt8 {σ : Heap} {fs : List LinkFun} {ms : List Int} {a7 a8 : V} {σi : Heap} {R7 R8 : List Nat} (h : Jn σ fs ms a7 a8 σi R7 R8) : ∀ j, j ∈ R8 → j < σi.length := h.m.lt fun cs x R h => RInt.lt cs x R h
theorem Jn.main {σ : Heap} {fs : List LinkFun} {ms : List Int} {a7 a8 : V} {σi : Heap} {R7 R8 : List Nat} (h : Jn σ fs ms a7 a8 σi R7 R8) (n : Int) (hl : ms.length + 1 ≤ 2097152) :
    ∃ a8' σ' R8', vappend 1 8 σi a8 1 [.int .i64 n] = some (a8', σ') ∧ isSl a8' = true ∧ Jn σ fs (ms ++ [n]) a7 a8' σ' R7 R8' := by
  have e46 : (2 : Nat) ^ 46 = 70368744177664 := by decide
  obtain ⟨n1, n2, n3⟩ := nodup_sub (c := []) h.nd
  have hlt7 := h.lt7
  obtain ⟨v', σ', R', k1, k2, k3, k4, k5, k6, k7⟩ := h.m.app (bytes := 8) (Q := RInt) h.m0 (x := n) (cs := [.int .i64 n]) (Rx := []) ⟨rfl, rfl⟩ rfl (fun cs x R h k => RInt.keep cs x R h k) (fun cs x R h => RInt.lt cs x R h) (by simpa using n2) (by omega) (by omega)
  have hk7 : ∀ j, j ∈ R7 → σ'[j]? = σi[j]? := fun j hj => k7 j (hlt7 j hj) fun hc => n3 j hj hc
  refine ⟨v', σ', R', k1, k2.isSl, h.f.keep hk7 (fun cs x R hq hk => RLinkFun.keep cs x R hq hk), h.f0, k2, k3, ?_, ?_, ⟨by rw [k6]; have := h.le.len; omega, fun j row hj => ?_⟩⟩
  · refine nodup_app n1 k4 fun x hx y hy hxy => ?_
    subst hxy
    rcases k5 x hy with hy | hy | hy
    · have := hlt7 x hx; omega
    · exact n3 x hx hy
    · cases hy
  · intro j hj
    rcases List.mem_append.1 hj with hj | hj
    · exact h.lo j (List.mem_append_left _ hj)
    · rcases k5 j hj with hj | hj | hj
      · have := h.le.len; omega
      · exact h.lo j (List.mem_append_right _ hj)
      · cases hj
  · have := get_lt hj
    have h2 := h.le.row _ _ hj
    rw [k7 j (get_lt h2) fun hc => by have := h.lo j (List.mem_append_right _ hc); omega]
    exact h2
theorem Jn.up {σ : Heap} {fs : List LinkFun} {ms : List Int} {a7 a8 : V} {σi σ' : Heap} {R7 R8 : List Nat} (h : Jn σ fs ms a7 a8 σi R7 R8) (hl : Lh σi σ') : Jn σ fs ms a7 a8 σ' R7 R8 :=
  ⟨h.f.le hl (fun cs x R h => RLinkFun.le hl cs x R h), h.f0, h.m.le hl (fun cs x R h => RInt.le hl cs x R h), h.m0, h.nd, h.lo, h.le.trans hl⟩
theorem Jn.fun {σ : Heap} {fs : List LinkFun} {ms : List Int} {a7 a8 : V} {σi : Heap} {R7 R8 : List Nat} (h : Jn σ fs ms a7 a8 σi R7 R8) (x : LinkFun) {va vc : V} {Ra Rc : List Nat} (ha : RepR 1 (RInt σi) σi va x.args Ra) (hc : RepR 2 (RCodeIns σi) σi vc x.code Rc) (hac : (Ra ++ Rc).Nodup)
    (hfar : ∀ j, j ∈ Ra ++ Rc → σ.length ≤ j ∧ j ∉ R7 ∧ j ∉ R8) (hl : fs.length + 1 ≤ 2097152) :
    ∃ a7' σ' R7', vappend 6 96 σi a7 1 [.str x.mod, .str x.name, va, .int .i64 x.type, .int .i64 x.slots, vc] = some (a7', σ') ∧ isSl a7' = true ∧ Jn σ (fs ++ [x]) ms a7' a8 σ' R7' R8 := by
  have e46 : (2 : Nat) ^ 46 = 70368744177664 := by decide
  obtain ⟨n1, n2, n3⟩ := nodup_sub (c := []) h.nd
  have hlt8 := h.lt8
  have hx : RLinkFun σi [.str x.mod, .str x.name, va, .int .i64 x.type, .int .i64 x.slots, vc] x (Ra ++ Rc) := ⟨va, Ra, vc, Rc, rfl, ha, hc, rfl⟩
  obtain ⟨v', σ', R', k1, k2, k3, k4, k5, k6, k7⟩ := h.f.app (bytes := 96) (Q := RLinkFun) h.f0 hx rfl (fun cs x R h k => RLinkFun.keep cs x R h k) (fun cs x R h => RLinkFun.lt cs x R h) (nodup_app n1 hac fun y hy z hz hyz => (hfar z hz).2.1 (hyz ▸ hy)) (by omega) (by omega)
  have hk8 : ∀ j, j ∈ R8 → σ'[j]? = σi[j]? := fun j hj => k7 j (hlt8 j hj) fun hc => n3 j hc hj
  refine ⟨v', σ', R', k1, k2.isSl, k2, k3, h.m.keep hk8 (fun cs x R hq hk => RInt.keep cs x R hq hk), h.m0, ?_, ?_, ⟨by rw [k6]; have := h.le.len; omega, fun j row hj => ?_⟩⟩
  · refine nodup_app k4 n2 fun x hx y hy hxy => ?_
    subst hxy
    rcases k5 x hx with hx | hx | hx
    · have := hlt8 x hy; omega
    · exact n3 x hx hy
    · exact (hfar x hx).2.2 hy
  · intro j hj
    rcases List.mem_append.1 hj with hj | hj
    · rcases k5 j hj with hj | hj | hj
      · have := h.le.len; omega
      · exact h.lo j (List.mem_append_left _ hj)
      · exact (hfar j hj).1
    · exact h.lo j (List.mem_append_right _ hj)
  · have := get_lt hj
    have h2 := h.le.row _ _ hj
    rw [k7 j (get_lt h2) fun hc => by have := h.lo j (List.mem_append_left _ hc); omega]
    exact h2
theorem implLinkMake_ends {σ : Heap} {v : V} {l : List LinkPart} (ht : l.length + totS LinkPart.total l ≤ 1048576) (hF : ∀ x, x ∈ l → x.Fit) (h : RepS 3 (LinkPart.Rep σ) σ v l) :
    ∃ fv mv σ' R7 R8, Runs G n_impl_LinkMake [v] σ (.tuple [.agg [fv, mv], FV (linkFault l)]) σ' ∧ Jn σ (img l).funs (img l).mains fv mv σ' R7 R8 := by
  suffices hE : HM.Ends G n_impl_LinkMake [v] σ (fun w σ' => ∃ fv mv R7 R8, w = .tuple [.agg [fv, mv], FV (linkFault l)] ∧ Jn σ (img l).funs (img l).mains fv mv σ' R7 R8) by
    obtain ⟨w, σ', ⟨fv, mv, R7, R8, rfl, hp⟩, hr⟩ := hE
    exact ⟨fv, mv, σ', R7, R8, hr, hp⟩
  refine HM.Ends.mk (W.to (fun k _ => impl_LinkMake.eq k _ _) ?_)
  refine W.give (implLinkCheck_gives ht hF h) fun σ1 l1 => ?_
  have hok : FOk (linkFault l) := by
    unfold linkFault
    split
    · exact .inr (by simp)
    · split
      · exact scan_ok fun j y _ => refsFault_ok l j y
      · exact scan_ok fun j y _ => formFault_ok l j y
  try simp only [q_bind_some, castInt_int, q_castBool, q_castStr, q_castPtr, q_castFn, q_castAgg, q_castTuple, q_uncons, q_isNil, q_sl, q_nils, q_emp, q_ptr, q_nilp, q_fn, q_cond_true, q_cond_false, Bool.not_true, Bool.not_false, decide_true, decide_false, List.cons_append, List.nil_append, FV]
  rw [fv_zero hok]
  by_cases hz : linkFault l = noF
  rotate_left
  · try simp only [q_bind_some, castInt_int, q_castBool, q_castStr, q_castPtr, q_castFn, q_castAgg, q_castTuple, q_uncons, q_isNil, q_sl, q_nils, q_emp, q_ptr, q_nilp, q_fn, q_cond_true, q_cond_false, Bool.not_true, Bool.not_false, decide_true, decide_false, List.cons_append, List.nil_append, decide_eq_false hz]
    refine W.ret ⟨.nils, .nils, [], [], rfl, ?_⟩
    rw [img, if_neg hz]
    exact ⟨.nils, .inl rfl, .nils, .inl rfl, List.nodup_nil, fun j hj => (by cases hj), l1⟩
  try simp only [q_bind_some, castInt_int, q_castBool, q_castStr, q_castPtr, q_castFn, q_castAgg, q_castTuple, q_uncons, q_isNil, q_sl, q_nils, q_emp, q_ptr, q_nilp, q_fn, q_cond_true, q_cond_false, Bool.not_true, Bool.not_false, decide_true, decide_false, List.cons_append, List.nil_append, decide_eq_true hz]
  have himg : img l = ⟨dn l l.length, mIdx 0 (dn l l.length)⟩ := by rw [img, if_pos hz]
  have hbase : ∀ i, baseOf l i ≤ 1048576 := fun i => Nat.le_trans (base_le l i) (by omega)
  refine W.len h ?_
  refine W.loop (S := Nat × V × V × Heap) (fun s => s.1 ≤ l.length ∧ ∃ R7 R8, Jn σ (dn l s.1) (mIdx 0 (dn l s.1)) s.2.1 s.2.2.1 s.2.2.2 R7 R8)
    (fun s => [.v v, .box [.nils, .nils], .box [.int .i64 0, .int .i64 0, .int .i64 0], .box [s.2.1, s.2.2.1], .v v, .v (.int .i64 (l.length : Int)), .v (.int .i64 (s.1 : Int))]) (fun s => s.2.2.2) (fun s => l.length - s.1) (fun ⟨i, a7, a8, σi⟩ ⟨hi, R7, R8, hJ⟩ => ?_)
    (0, .nils, .nils, σ1) ⟨Nat.zero_le _, [], [], .nils, .inl rfl, .nils, .inl rfl, List.nodup_nil, fun j hj => (by cases hj), l1⟩
  simp only at hi hJ ⊢
  refine W.to (fun k _ => by rw [impl_LinkMake.L0_step]) ?_
  refine B.ite (fun hlt => ?_) fun hlt => ?_
  rotate_left
  · obtain rfl : i = l.length := by omega
    try simp only [q_bind_some, castInt_int, q_castBool, q_castStr, q_castPtr, q_castFn, q_castAgg, q_castTuple, q_uncons, q_isNil, q_sl, q_nils, q_emp, q_ptr, q_nilp, q_fn, q_cond_true, q_cond_false, Bool.not_true, Bool.not_false, decide_true, decide_false, List.cons_append, List.nil_append, impl_LinkMake.A0_x0]
    refine W.ret ⟨a7, a8, R7, R8, by rw [hz]; rfl, ?_⟩
    rw [himg]
    exact hJ
  have hil : i < l.length := by omega
  have hp : l[i]? = some l[i] := List.getElem?_eq_getElem hil
  have hpm : l[i] ∈ l := List.getElem_mem hil
  generalize l[i] = p at hp hpm
  have hfine := link_fine hz hp
  have hnext := wrap_next hil (by omega)
  have hpt := part_total ht hpm
  have hlens := obj_lens hpt
  obtain ⟨r, o, hv, cs, hr, hP⟩ := h.at' hp
  have hr' := hJ.le.rdc hr
  cases hP with
  | mk q0 q1 =>
  rename_i b0 b1
  try simp only [q_bind_some, castInt_int, q_castBool, q_castStr, q_castPtr, q_castFn, q_castAgg, q_castTuple, q_uncons, q_isNil, q_sl, q_nils, q_emp, q_ptr, q_nilp, q_fn, q_cond_true, q_cond_false, Bool.not_true, Bool.not_false, decide_true, decide_false, List.cons_append, List.nil_append, hv, hr']
  refine B.len q1 ?_
  -- the functions of a part
  refine W.to (fun k jm => Option.bind_assoc _ _ _) ?_
  refine W.loop (S := Nat × V × V × Heap) (fun s => s.1 ≤ p.obj.funs.length ∧ ∃ R7 R8, Jn σ (dn l i ++ (p.obj.funs.take s.1).map (moveFun l p)) (mIdx 0 (dn l i ++ (p.obj.funs.take s.1).map (moveFun l p))) s.2.1 s.2.2.1 s.2.2.2 R7 R8)
    (fun s => [.v v, .box [.nils, .nils], .box [.int .i64 0, .int .i64 0, .int .i64 0], .box [s.2.1, s.2.2.1], .box [.str p.name, b0, b1], .v v, .v (.int .i64 (l.length : Int)), .v (.int .i64 (i : Int)), .v b1, .v (.int .i64 (p.obj.funs.length : Int)), .v (.int .i64 (s.1 : Int))]) (fun s => s.2.2.2) (fun s => p.obj.funs.length - s.1) (fun ⟨j, c7, c8, σj⟩ ⟨hj, S7, S8, hK⟩ => ?_)
    (0, a7, a8, σi) ⟨Nat.zero_le _, R7, R8, by simpa using hJ⟩
  simp only at hj hK ⊢
  refine W.to (fun k _ => by rw [impl_LinkMake.L1_step]) ?_
  refine B.ite (fun hltj => ?_) fun hltj => ?_
  rotate_left
  · have hjl : j = p.obj.funs.length := by omega
    rw [hjl, List.take_length] at hK
    rw [← dn_next hp] at hK
    try simp only [q_bind_some, castInt_int, q_castBool, q_castStr, q_castPtr, q_castFn, q_castAgg, q_castTuple, q_uncons, q_isNil, q_sl, q_nils, q_emp, q_ptr, q_nilp, q_fn, q_cond_true, q_cond_false, Bool.not_true, Bool.not_false, decide_true, decide_false, List.cons_append, List.nil_append, impl_LinkMake.A1_x2, hnext]
    exact W.out' _ (W.again (i + 1, c7, c8, σj) ⟨by show i + 1 ≤ l.length; omega, S7, S8, hK⟩ (by simp only; omega) rfl rfl) (fun k j m => rfl)
  have hjl : j < p.obj.funs.length := by omega
  have hf : p.obj.funs[j]? = some p.obj.funs[j] := List.getElem?_eq_getElem hjl
  have hfm : p.obj.funs[j] ∈ p.obj.funs := List.getElem_mem hjl
  generalize p.obj.funs[j] = f at hf hfm
  have hnextj := wrap_next hjl (by omega)
  obtain ⟨r2, o2, hv2, cs2, hr2, hP2⟩ := q1.at' hf
  have hr2' := hK.le.rdc hr2
  have hfl : f.args.length ≤ 1048576 ∧ f.code.length ≤ 1048576 := by
    have h1 := totS_mem CodeFun.total hfm
    have h2 := CodeObj.total_eq p.obj
    have h3 := CodeFun.total_eq f
    omega
  have hdl : (dn l i ++ (p.obj.funs.take j).map (moveFun l p)).length ≤ 2097151 := by
    rw [List.length_append, dn_len (by omega), List.length_map, List.length_take]
    have := hbase i
    have := hlens.2.1
    omega
  have hstep : dn l i ++ (p.obj.funs.take (j + 1)).map (moveFun l p) = (dn l i ++ (p.obj.funs.take j).map (moveFun l p)) ++ [moveFun l p f] := by
    rw [take_next' hf, List.map_append, List.append_assoc]
    rfl
  generalize hfs : dn l i ++ (p.obj.funs.take j).map (moveFun l p) = fs at hK hdl hstep
  have hml := mIdx_len fs 0
  have hvl : vlen c7 = some fs.length := (hK.f.rep (P := LinkFun.Rep σj) fun cs x R _ h => RLinkFun.rep cs x R h).vlen
  cases hP2 with
  | mk p0 p1 =>
  rename_i d0 d1
  try simp only [q_bind_some, castInt_int, q_castBool, q_castStr, q_castPtr, q_castFn, q_castAgg, q_castTuple, q_uncons, q_isNil, q_sl, q_nils, q_emp, q_ptr, q_nilp, q_fn, q_cond_true, q_cond_false, Bool.not_true, Bool.not_false, decide_true, decide_false, List.cons_append, List.nil_append, hv2, hr2']
  have rest : ∀ (ms : List Int) (c8' : V) (σk : Heap) (T8 : List Nat), Jn σ fs ms c7 c8' σk S7 T8 → mIdx 0 (fs ++ [moveFun l p f]) = ms →
      ∃ va σa vc σc c7' σd, Runs G n_slices_Clone_int_int [d0] σk va σa ∧ Runs G n_impl_linked [v, .agg [.str p.name, b0, b1], d1] σa vc σc ∧ isSl va = true ∧ isSl vc = true ∧ vappend 6 96 σc c7 1 [.str p.name, .str f.name, va, .int .i64 f.type, .int .i64 f.slots, vc] = some (c7', σd) ∧ isSl c7' = true ∧
        ∃ T7 T8, Jn σ (dn l i ++ (p.obj.funs.take (j + 1)).map (moveFun l p)) (mIdx 0 (dn l i ++ (p.obj.funs.take (j + 1)).map (moveFun l p))) c7' c8' σd T7 T8 := by
    intro ms c8' σk T8 hk hms
    obtain ⟨va, σa, Ra, x1, x2, x3, x4, x5⟩ := cloneInt_ends (p0.le hk.le) hfl.1
    have hla := hk.le.trans x2
    obtain ⟨vc, σc, Rc, y1, y2, y3, y4, y5⟩ := linked_ends ht (h.mono hla fun cs x _ h => LinkPart.Rep.le hla h) (q0.mono hla fun cs x _ h => CodeRef.Rep.le hla h) (p1.mono hla fun cs x _ h => CodeIns.Rep.le hla h) (hfine f hfm) hfl.2
    have hlt7 := hk.lt7
    have hlt8 := hk.lt8
    have hltA := x3.lt fun cs x R h => RInt.lt cs x R h
    have hk' := hk.up (x2.trans y2)
    have h1 := x2.len
    have h2 := hk.le.len
    obtain ⟨c7', σd, T7, z1, z2, z3⟩ := hk'.fun (moveFun l p f) (x3.le y2 fun cs x R h => RInt.le y2 cs x R h) y3 (nodup_far x4 y4 hltA y5) (fun j hj => by
      have hge : σk.length ≤ j := by
        rcases List.mem_append.1 hj with hj | hj
        · exact x5 j hj
        · have := y5 j hj; omega
      exact ⟨by omega, fun hc => by have := hlt7 j hc; omega, fun hc => by have := hlt8 j hc; omega⟩) (by omega)
    refine ⟨va, σa, vc, σc, c7', σd, x1, y1, x3.isSl, y3.isSl, z1, z2, T7, T8, ?_⟩
    rw [hstep, hms]
    exact z3
  by_cases hmain : f.name = mainW
  · have hmain' : f.name = (⟨#[109, 97, 105, 110]⟩ : ByteArray) := hmain
    obtain ⟨c8', σk, T8, m1, m2, m3⟩ := hK.main (fs.length : Int) (by omega)
    have hms : mIdx 0 (fs ++ [moveFun l p f]) = mIdx 0 fs ++ [(fs.length : Int)] := by
      rw [mIdx_app, mIdx, mIdx]
      have : (moveFun l p f).name = mainW := hmain
      rw [if_pos this]
      simp
    obtain ⟨va, σa, vc, σc, c7', σd, x1, y1, x2, y2, z1, z2, T7, T8', z3⟩ := rest _ c8' σk T8 m3 hms
    try simp only [q_bind_some, castInt_int, q_castBool, q_castStr, q_castPtr, q_castFn, q_castAgg, q_castTuple, q_uncons, q_isNil, q_sl, q_nils, q_emp, q_ptr, q_nilp, q_fn, q_cond_true, q_cond_false, Bool.not_true, Bool.not_false, decide_true, decide_false, List.cons_append, List.nil_append, decide_eq_true hmain', hvl, m1, one_sl' m2]
    refine B.run x1 (B.run y1 ?_)
    try simp only [q_bind_some, castInt_int, q_castBool, q_castStr, q_castPtr, q_castFn, q_castAgg, q_castTuple, q_uncons, q_isNil, q_sl, q_nils, q_emp, q_ptr, q_nilp, q_fn, q_cond_true, q_cond_false, Bool.not_true, Bool.not_false, decide_true, decide_false, List.cons_append, List.nil_append, one_sl' x2, one_sl' y2, z1, one_sl' z2]
    exact W.again (j + 1, c7', c8', σd) ⟨by show j + 1 ≤ p.obj.funs.length; omega, T7, T8', z3⟩ (by simp only; omega) (by rw [hnextj]) rfl
  · have hmain' : ¬ f.name = (⟨#[109, 97, 105, 110]⟩ : ByteArray) := hmain
    have hms : mIdx 0 (fs ++ [moveFun l p f]) = mIdx 0 fs := by
      rw [mIdx_app, mIdx, mIdx]
      have : ¬ (moveFun l p f).name = mainW := hmain
      rw [if_neg this]
      simp
    obtain ⟨va, σa, vc, σc, c7', σd, x1, y1, x2, y2, z1, z2, T7, T8', z3⟩ := rest _ c8 σj S8 hK hms
    try simp only [q_bind_some, castInt_int, q_castBool, q_castStr, q_castPtr, q_castFn, q_castAgg, q_castTuple, q_uncons, q_isNil, q_sl, q_nils, q_emp, q_ptr, q_nilp, q_fn, q_cond_true, q_cond_false, Bool.not_true, Bool.not_false, decide_true, decide_false, List.cons_append, List.nil_append, decide_eq_false hmain']
    refine B.run x1 (B.run y1 ?_)
    try simp only [q_bind_some, castInt_int, q_castBool, q_castStr, q_castPtr, q_castFn, q_castAgg, q_castTuple, q_uncons, q_isNil, q_sl, q_nils, q_emp, q_ptr, q_nilp, q_fn, q_cond_true, q_cond_false, Bool.not_true, Bool.not_false, decide_true, decide_false, List.cons_append, List.nil_append, one_sl' x2, one_sl' y2, z1, one_sl' z2]
    exact W.again (j + 1, c7', c8, σd) ⟨by show j + 1 ≤ p.obj.funs.length; omega, T7, T8', z3⟩ (by simp only; omega) (by rw [hnextj]) rfl
end Go.B
