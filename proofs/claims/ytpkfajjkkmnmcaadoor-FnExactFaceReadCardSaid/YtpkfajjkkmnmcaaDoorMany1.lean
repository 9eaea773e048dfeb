/- The contracts of this claim, laid together: part 1. -/
import Derived.Test.YtpkfajjkkmnmcaaDoorMany0
import Derived.Test.YtpkfajjkkmnmcaaDoorC
import Derived.Test.YtpkfajjkkmnmcaaDoorOFnExactFaceRead
/- FaceRead of both. -/
set_option linter.unusedVariables false
set_option linter.unusedSimpArgs false
namespace Go.R
open Go.HM Go.Proofs
/-- What both hand back: the face that is written as the text, or none. -/
def RdP (σ : Heap) (t : List UInt8) (w : V) (σ' : Heap) : Prop :=
  (∃ l v, RdT t l ∧ w = .tuple [v, .bool true] ∧ FaceP σ l v σ') ∨ ((∀ l, ¬ RdT t l) ∧ w = .tuple [.nils, .bool false] ∧ Lh σ σ')
theorem FaceP.after {σ σi σ' : Heap} {l : List FaceSig} {v : V} (h : FaceP σ l v σi) (hl : Lh σi σ') : FaceP σ l v σ' := by
  obtain ⟨R, h1, h2, h3, h4⟩ := h
  exact ⟨R, h1.le hl fun cs x R hq => RSig.le hl cs x R hq, h2, h3, h4.trans hl⟩
theorem FaceP.down {σ0 σ σ' : Heap} {l : List FaceSig} {v : V} (h : FaceP σ l v σ') (h0 : Lh σ0 σ) : FaceP σ0 l v σ' := by
  obtain ⟨R, h1, h2, h3, h4⟩ := h
  exact ⟨R, h1, h2, fun j hj => Nat.le_trans h0.len (h3 j hj), h0.trans h4⟩
theorem nm_len {l : List El} {m : List FaceSig} (h : nm l = m) : l.length = m.length := by
  have := congrArg List.length h
  unfold nm at this
  rw [List.length_map] at this
  exact this
/-- The end of both: what was read is right, and is written as the text. -/
theorem faceEnd {ι : Type} {Next : Cmp ι → Prop} {t : ByteArray} {σ σi : Heap} {v : V} {l : List FaceSig} (hF : FaceP σ l v σi) (hu : ∀ x, RdT t.data.toList x → l = x) {f g : Nat} {c : Cmp ι}
    (c1 : Gives G f [v] σi (.bool (decide (FaceIs l)))) (c2 : ∀ σ', Lh σi σ' → Gives G g [v] σ' (.str (if FaceIs l then ba (faceL l l.length) else ⟨#[]⟩)))
    (e : ∀ k u, c k u = ((hcall G k f [v] σi).bind fun q5 => castBool q5.1 fun b6 => bif !b6 then (some (.tuple [.nils, .bool false], q5.2)) else ((hcall G k g [v] q5.2).bind fun q7 => castStr q7.1 fun s8 => bif !decide (s8 = t) then (some (.tuple [.nils, .bool false], q7.2)) else (some (.tuple [v, .bool true], q7.2))))) :
    W (ι := ι) (RdP σ t.data.toList) Next c := by
  refine W.to e ?_
  have hlh : Lh σ σi := hF.choose_spec.2.2.2
  refine W.give c1 fun σ1 l1 => ?_
  by_cases hok : FaceIs l
  rotate_left
  · try simp only [q_bind_some, castInt_int, q_castBool, q_castStr, q_castPtr, q_castFn, q_castAgg, q_castTuple, q_uncons, q_isNil, q_sl, q_nils, q_emp, q_ptr, q_nilp, q_fn, q_cond_true, q_cond_false, Bool.not_true, Bool.not_false, decide_true, decide_false, List.cons_append, List.nil_append, decide_eq_false hok]
    refine W.ret (.inr ⟨fun x hx => hok ?_, rfl, hlh.trans l1⟩)
    rw [hu x hx]
    exact hx.1
  try simp only [q_bind_some, castInt_int, q_castBool, q_castStr, q_castPtr, q_castFn, q_castAgg, q_castTuple, q_uncons, q_isNil, q_sl, q_nils, q_emp, q_ptr, q_nilp, q_fn, q_cond_true, q_cond_false, Bool.not_true, Bool.not_false, decide_true, decide_false, List.cons_append, List.nil_append, decide_eq_true hok]
  refine W.give (c2 σ1 l1) fun σ2 l2 => ?_
  rw [if_pos hok]
  by_cases ht : ba (faceL l l.length) = t
  · try simp only [q_bind_some, castInt_int, q_castBool, q_castStr, q_castPtr, q_castFn, q_castAgg, q_castTuple, q_uncons, q_isNil, q_sl, q_nils, q_emp, q_ptr, q_nilp, q_fn, q_cond_true, q_cond_false, Bool.not_true, Bool.not_false, decide_true, decide_false, List.cons_append, List.nil_append, decide_eq_true ht]
    have : faceL l l.length = t.data.toList := by rw [← ht]; rfl
    exact W.ret (.inl ⟨l, v, ⟨hok, this⟩, rfl, hF.after (l1.trans l2)⟩)
  · try simp only [q_bind_some, castInt_int, q_castBool, q_castStr, q_castPtr, q_castFn, q_castAgg, q_castTuple, q_uncons, q_isNil, q_sl, q_nils, q_emp, q_ptr, q_nilp, q_fn, q_cond_true, q_cond_false, Bool.not_true, Bool.not_false, decide_true, decide_false, List.cons_append, List.nil_append, decide_eq_false ht]
    refine W.ret (.inr ⟨fun x hx => ht ?_, rfl, hlh.trans (l1.trans l2)⟩)
    have e1 := hu x hx
    subst e1
    rw [hx.2, ← ba_self]
theorem FaceP.shown {σ σ' : Heap} {l : List FaceSig} {v : V} (h : FaceP σ l v σ') : RepS 3 (FaceSig.Rep σ') σ' v l := by
  obtain ⟨R, h1, _⟩ := h
  exact h1.rep fun cs x R _ hq => RSig.rep cs x R hq
theorem implFaceRead_ends {σ : Heap} (ht : TypeW σ) (hm : MaxV σ) (s : ByteArray) (hs : s.size ≤ 1048576) : HM.Ends G n_impl_FaceRead [.str s] σ (RdP σ s.data.toList) := by
  refine HM.Ends.mk (W.to (fun k _ => impl_FaceRead.eq k _ _) ?_)
  have hsz := ba_list s
  have lN : Lh σ (hnew σ 3 []) := Lh.new _ _ _
  have htl := trim_le 10 s.data.toList
  refine W.run (trim_runs s 10 hs) ?_
  try simp only [q_bind_some, castInt_int, q_castBool, q_castStr, q_castPtr, q_castFn, q_castAgg, q_castTuple, q_uncons, q_isNil, q_sl, q_nils, q_emp, q_ptr, q_nilp, q_fn, q_cond_true, q_cond_false, Bool.not_true, Bool.not_false, decide_true, decide_false, List.cons_append, List.nil_append]
  have hts : (ba (trimL 10 s.data.toList)).size ≤ 1048576 := by rw [ba_size]; omega
  obtain ⟨σ0, c1, lS, hrow, hlen⟩ := split_runs (σ := hnew σ 3 []) (let ⟨m, e⟩ := hm; ⟨m, lN.row _ _ e⟩) (ba (trimL 10 s.data.toList)) 10 hts
  refine W.run c1 ?_
  try simp only [q_bind_some, castInt_int, q_castBool, q_castStr, q_castPtr, q_castFn, q_castAgg, q_castTuple, q_uncons, q_isNil, q_sl, q_nils, q_emp, q_ptr, q_nilp, q_fn, q_cond_true, q_cond_false, Bool.not_true, Bool.not_false, decide_true, decide_false, List.cons_append, List.nil_append]
  have hn := split_len 10 (trimL 10 s.data.toList)
  have hel := split_le 10 (trimL 10 s.data.toList)
  have hq : (hnew σ 3 []).length = σ.length + 1 := by simp [hnew]
  have hba : (ba (trimL 10 s.data.toList)).data.toList = trimL 10 s.data.toList := rfl
  rw [hba] at hrow c1 ⊢
  have hres : faceP s.data.toList = if s.data.toList = [] then [] else (splitL 10 (trimL 10 s.data.toList)).map lineP := rfl
  generalize splitL 10 (trimL 10 s.data.toList) = ls at hrow hn hel hres
  rw [hq] at hrow hlen ⊢
  refine W.loop (S := Nat × V × Heap × List El) (fun x => x.1 ≤ ls.length ∧ Fs σ x.2.2.1 x.2.1 x.2.2.2 ∧ nm x.2.2.2 = (if s.data.toList = [] then [] else (ls.take x.1).map lineP) ∧ StrRow x.2.2.1 (σ.length + 1) (ls.map ba) ∧ ∀ q n lim, x.2.1 = .sl q 0 n lim → σ.length + 1 ≠ q)
    (fun x => [.v (.str s), .v x.2.1, .v (.sl (σ.length + 1) 0 ls.length false), .v (.int .i64 (ls.length : Int)), .v (.int .i64 (x.1 : Int))]) (fun x => x.2.2.1) (fun x => ls.length - x.1) (fun ⟨i, vi, σi, li⟩ ⟨hi, hFs, hnm, hr, hq'⟩ => ?_)
    (0, .sl σ.length 0 0 true, σ0, []) ⟨Nat.zero_le _, (Fs.start σ).up lS, by simp [nm], hrow, fun q n lim h => by injection h with h; omega⟩
  simp only at hi hFs hnm hr hq' ⊢
  refine W.to (fun k _ => by rw [impl_FaceRead.L0_step]) ?_
  refine B.ite (fun hlt => ?_) fun hlt => ?_
  · have hil : i < ls.length := by omega
    have hx : ls[i]? = some ls[i] := List.getElem?_eq_getElem hil
    have hxl := hel ls[i] (List.getElem_mem hil)
    generalize ls[i] = x at hx hxl
    obtain ⟨r, o, hv, hrd⟩ := row_at (lim := false) hr hx
    have hxs : (ba x).size ≤ 1048576 := by rw [ba_size]; omega
    obtain ⟨b1, d1⟩ := cut_runs (σ := σi) (ba x) 40 hxs
    have hbx : (ba x).data.toList = x := rfl
    rw [hbx] at d1
    obtain ⟨m1, m2⟩ := cutAt_le 40 x
    have hxs2 : (ba (cutAt 40 x).2).size ≤ 1048576 := by rw [ba_size]; omega
    obtain ⟨b2, d2⟩ := cut_runs (σ := σi) (ba (cutAt 40 x).2) 41 hxs2
    have hbx2 : (ba (cutAt 40 x).2).data.toList = (cutAt 40 x).2 := rfl
    rw [hbx2] at d2
    obtain ⟨m3, m4⟩ := cutAt_le 41 (cutAt 40 x).2
    try simp only [q_bind_some, castInt_int, q_castBool, q_castStr, q_castPtr, q_castFn, q_castAgg, q_castTuple, q_uncons, q_isNil, q_sl, q_nils, q_emp, q_ptr, q_nilp, q_fn, q_cond_true, q_cond_false, Bool.not_true, Bool.not_false, decide_true, decide_false, List.cons_append, List.nil_append, hv, hrd]
    refine B.run d1 ?_
    try simp only [q_bind_some, castInt_int, q_castBool, q_castStr, q_castPtr, q_castFn, q_castAgg, q_castTuple, q_uncons, q_isNil, q_sl, q_nils, q_emp, q_ptr, q_nilp, q_fn, q_cond_true, q_cond_false, Bool.not_true, Bool.not_false, decide_true, decide_false, List.cons_append, List.nil_append]
    refine B.run d2 ?_
    try simp only [q_bind_some, castInt_int, q_castBool, q_castStr, q_castPtr, q_castFn, q_castAgg, q_castTuple, q_uncons, q_isNil, q_sl, q_nils, q_emp, q_ptr, q_nilp, q_fn, q_cond_true, q_cond_false, Bool.not_true, Bool.not_false, decide_true, decide_false, List.cons_append, List.nil_append]
    by_cases h0 : s.data.toList = []
    · rw [if_pos h0] at hnm
      try simp only [q_bind_some, castInt_int, q_castBool, q_castStr, q_castPtr, q_castFn, q_castAgg, q_castTuple, q_uncons, q_isNil, q_sl, q_nils, q_emp, q_ptr, q_nilp, q_fn, q_cond_true, q_cond_false, Bool.not_true, Bool.not_false, decide_true, decide_false, List.cons_append, List.nil_append, decide_eq_true ((ba_none s).2 h0), wrap_next hil (by omega)]
      exact W.again (i + 1, vi, σi, li) ⟨by show i + 1 ≤ ls.length; omega, hFs, by rw [if_pos h0]; exact hnm, hr, hq'⟩ (by simp only; omega) rfl rfl
    · rw [if_neg h0] at hnm
      try simp only [q_bind_some, castInt_int, q_castBool, q_castStr, q_castPtr, q_castFn, q_castAgg, q_castTuple, q_uncons, q_isNil, q_sl, q_nils, q_emp, q_ptr, q_nilp, q_fn, q_cond_true, q_cond_false, Bool.not_true, Bool.not_false, decide_true, decide_false, List.cons_append, List.nil_append, decide_eq_false (fun h => h0 ((ba_none s).1 h))]
      refine B.call (readTypes_ends (hFs.le.row _ _ ht) (let ⟨m, e⟩ := hm; ⟨m, hFs.le.row _ _ e⟩) (ba (cutAt 41 (cutAt 40 x).2).1) (by rw [ba_size]; omega)) ?_
      rintro av σ1 ⟨R, hO⟩
      try simp only [q_bind_some, castInt_int, q_castBool, q_castStr, q_castPtr, q_castFn, q_castAgg, q_castTuple, q_uncons, q_isNil, q_sl, q_nils, q_emp, q_ptr, q_nilp, q_fn, q_cond_true, q_cond_false, Bool.not_true, Bool.not_false, decide_true, decide_false, List.cons_append, List.nil_append]
      refine B.run (typeOf_runs ((hFs.le.trans hO.le).row _ _ ht) (ba (cutAt 41 (cutAt 40 x).2).2)) ?_
      have hll := nm_len hnm
      rw [List.length_map, List.length_take] at hll
      obtain ⟨v', σ2, e1, e2, ⟨n', rfl⟩, e4⟩ := hFs.add' (s := lineP x) hO (by omega)
      have e1' : vappend 3 48 σ1 vi 1 [.str (ba (cutAt 40 x).1), av, .int .i64 (typeNo (ba (cutAt 41 (cutAt 40 x).2).2))] = some (.sl σ1.length 0 n' false, σ2) := e1
      try simp only [q_bind_some, castInt_int, q_castBool, q_castStr, q_castPtr, q_castFn, q_castAgg, q_castTuple, q_uncons, q_isNil, q_sl, q_nils, q_emp, q_ptr, q_nilp, q_fn, q_cond_true, q_cond_false, Bool.not_true, Bool.not_false, decide_true, decide_false, List.cons_append, List.nil_append, one_sl' hO.r.isSl, e1', wrap_next hil (by omega)]
      have hql := hr.lt
      have hl1 := hO.le.len
      have hr1 : StrRow σ1 (σ.length + 1) (ls.map ba) := by
        obtain ⟨ty, hr⟩ := hr
        exact ⟨ty, hO.le.row _ _ hr⟩
      refine W.again (i + 1, _, σ2, li ++ [⟨lineP x, av, R⟩]) ⟨by show i + 1 ≤ ls.length; omega, e2, ?_, hr1.keep (e4 _ (by omega) fun q n lim h => hq' q n lim h), fun q n lim h => by injection h with h; omega⟩ (by simp only; omega) rfl rfl
      rw [if_neg h0]
      show nm (li ++ [⟨lineP x, av, R⟩]) = _
      rw [take_next' hx, List.map_append, ← hnm]
      unfold nm
      rw [List.map_append]
      rfl
  · obtain rfl : i = ls.length := by omega
    rw [List.take_length, ← hres] at hnm
    have hF := hFs.face
    rw [hnm] at hF
    obtain ⟨p1, p2⟩ := faceP_le s.data.toList
    refine faceEnd hF (fun x hx => rdT_P hx) (implFaceOk_gives (by omega) (fun x hx => by have := p2 x hx; omega) hF.shown) (fun σ' hl => implFaceText_gives ((hFs.le.trans hl).row _ _ ht) (by omega) (fun x hx => by have := p2 x hx; omega) (hF.after hl).shown) ?_
    intro k u
    exact impl_FaceRead.A0_x0 k _ _ _ _ _
theorem specFaceRead_ends {σ : Heap} (s : ByteArray) : HM.Ends G n_spec_FaceRead [.str s] σ (RdP σ s.data.toList) := by
  refine HM.Ends.mk (W.to (fun k _ => spec_FaceRead.eq k _ _) ?_)
  have hsz := ba_list s
  refine W.ite (fun hbig => W.ret (.inr ⟨fun l hl => ?_, rfl, Lh.refl _⟩)) fun hsm => ?_
  · have := face_len hl.1
    rw [hl.2] at this
    omega
  have hs : s.size ≤ 400 := by omega
  have hn := split_len 10 s.data.toList
  have hel := split_le 10 s.data.toList
  have c0 := l23Cut_ends (σ := σ) s 10 (by omega)
  have hres : faceQ s.data.toList = ((splitL 10 s.data.toList).take ((splitL 10 s.data.toList).length - 1)).map lineQ := rfl
  have hpos : 1 ≤ (splitL 10 s.data.toList).length := by unfold splitL; simp
  generalize splitL 10 s.data.toList = ls at c0 hn hel hres hpos
  refine W.call c0 ?_
  rintro _ σ0 ⟨⟨q, lim, hq0, rfl, hrow⟩, lS⟩
  rw [List.length_map]
  have lN : Lh σ0 (hnew σ0 3 []) := Lh.new _ _ _
  refine W.loop (S := Nat × V × Heap × List El) (fun x => x.1 ≤ ls.length - 1 ∧ Fs σ0 x.2.2.1 x.2.1 x.2.2.2 ∧ nm x.2.2.2 = (ls.take x.1).map lineQ)
    (fun x => [.v (.str s), .v (.sl q 0 ls.length lim), .v x.2.1, .v (.int .i64 (x.1 : Int))]) (fun x => x.2.2.1) (fun x => ls.length - x.1) (fun ⟨i, vi, σi, li⟩ ⟨hi, hFs, hnm⟩ => ?_)
    (0, .sl σ0.length 0 0 true, hnew σ0 3 [], []) ⟨Nat.zero_le _, Fs.start σ0, rfl⟩
  simp only at hi hFs hnm ⊢
  refine W.to (fun k _ => by rw [spec_FaceRead.L0_step]) ?_
  have hw : IntKind.wrap .i64 ((i : Int) + 1) = ((i + 1 : Nat) : Int) := by rw [wrap_id (by omega) (by omega)]; omega
  try simp only [q_bind_some, castInt_int, q_castBool, q_castStr, q_castPtr, q_castFn, q_castAgg, q_castTuple, q_uncons, q_isNil, q_sl, q_nils, q_emp, q_ptr, q_nilp, q_fn, q_cond_true, q_cond_false, Bool.not_true, Bool.not_false, decide_true, decide_false, List.cons_append, List.nil_append, hw]
  refine B.ite (fun hlt => ?_) fun hlt => ?_
  · have hil : i < ls.length := by omega
    have hx : ls[i]? = some ls[i] := List.getElem?_eq_getElem hil
    have hxl := hel ls[i] (List.getElem_mem hil)
    generalize ls[i] = x at hx hxl
    have hr : StrRow σi q (ls.map ba) := by
      obtain ⟨ty, hr⟩ := hrow
      exact ⟨ty, hFs.le.row _ _ hr⟩
    obtain ⟨r, o, hv, hrd⟩ := row_at (lim := lim) hr hx
    have c1 := l3Line_ends (σ := σi) (ba x) (by rw [ba_size]; omega)
    have hbx : (ba x).data.toList = x := rfl
    rw [hbx] at c1
    try simp only [q_bind_some, castInt_int, q_castBool, q_castStr, q_castPtr, q_castFn, q_castAgg, q_castTuple, q_uncons, q_isNil, q_sl, q_nils, q_emp, q_ptr, q_nilp, q_fn, q_cond_true, q_cond_false, Bool.not_true, Bool.not_false, decide_true, decide_false, List.cons_append, List.nil_append, hv, hrd]
    refine B.call c1 ?_
    rintro _ σ1 ⟨av, R, rfl, hO⟩
    have hll := nm_len hnm
    rw [List.length_map, List.length_take] at hll
    obtain ⟨v', σ2, e1, e2⟩ := hFs.add (s := lineQ x) hO (by omega)
    try simp only [q_bind_some, castInt_int, q_castBool, q_castStr, q_castPtr, q_castFn, q_castAgg, q_castTuple, q_uncons, q_isNil, q_sl, q_nils, q_emp, q_ptr, q_nilp, q_fn, q_cond_true, q_cond_false, Bool.not_true, Bool.not_false, decide_true, decide_false, List.cons_append, List.nil_append, one_sl' hO.r.isSl, e1, hw]
    refine W.again (i + 1, v', σ2, li ++ [⟨lineQ x, av, R⟩]) ⟨by show i + 1 ≤ ls.length - 1; omega, e2, ?_⟩ (by simp only; omega) rfl rfl
    show nm (li ++ [⟨lineQ x, av, R⟩]) = _
    rw [take_next' hx, List.map_append, ← hnm]
    unfold nm
    rw [List.map_append]
    rfl
  · obtain rfl : i = ls.length - 1 := by omega
    rw [← hres] at hnm
    have hF := hFs.face
    rw [hnm] at hF
    obtain ⟨p1, p2⟩ := faceQ_le s.data.toList
    have hF' := hF.down lS
    refine faceEnd hF' (fun x hx => rdT_Q hx) (specFaceOk_gives (fun x hx => by have := p2 x hx; omega) hF.shown) (fun σ' hl => specFaceText_gives (fun x hx => by have := p2 x hx; omega) (hF.after hl).shown) ?_
    intro k u
    exact spec_FaceRead.A0_x0 k _ _ _ _ _
end Go.R

/- What the law on FaceRead computes. -/
set_option linter.unusedVariables false
set_option linter.unusedSimpArgs false
namespace Go.R
open Go.HM Go.Proofs
theorem rdT_one {t : List UInt8} {a b : List FaceSig} (h : RdT t a) (g : RdT t b) : a = b := (rdT_P h).symm.trans (rdT_P g)
theorem rdT_fit {t : List UInt8} {l : List FaceSig} (h : RdT t l) : l.length ≤ 8 ∧ (∀ x, x ∈ l → x.args.length ≤ 4) ∧ ∀ x, x ∈ l → x.Fit := by
  have hs := sigs_all h.1
  refine ⟨h.1.1, fun x hx => (hs x hx).2.1.1, fun x hx => ?_⟩
  obtain ⟨h1, h2, h3⟩ := hs x hx
  refine .mk (by have := h1.2.1; omega) (by have := h2.1; omega) (fun n hn => ?_) ?_
  · have := h2.2 n hn
    unfold IsT at this
    omega
  · unfold IsT at h3
    omega
/-- What was handed back once is what is handed back again, and they are one. -/
theorem FnExactFaceRead_law {σ : Heap} (hv : VarsFnExactFaceRead σ) {y0 : ByteArray} (f0 : fitT y0) : ∃ σ', Runs G n_laws_FnExactFaceRead [.str y0] σ (.bool true) σ' := by
  refine Ends.true (Ends.mk ?_)
  refine W.to (fun k _ => laws_FnExactFaceRead.eq k _ _) ?_
  refine W.ite (fun _ => W.ret rfl) fun hs => ?_
  have hsz : y0.size ≤ 1048576 := by omega
  refine W.call (specFaceRead_ends y0) ?_
  rintro w1 σ1 H1
  have l1 : Lh σ σ1 := by
    rcases H1 with ⟨l, v, _, _, hF⟩ | ⟨_, _, hl⟩
    · exact hF.choose_spec.2.2.2
    · exact hl
  have c2 := implFaceRead_ends (l1.row _ _ hv.v0) (let ⟨m, e⟩ := hv.v1; ⟨m, l1.row _ _ e⟩) y0 hsz
  rcases H1 with ⟨l, v1, hR, rfl, F1⟩ | ⟨hno, rfl, _⟩
  · have again : ∀ {σ2 σ3 : Heap} {w : V}, RdP σ2 y0.data.toList w σ3 → ∃ v, w = .tuple [v, .bool true] ∧ FaceP σ2 l v σ3 := fun H => by
      rcases H with ⟨l', v, hR', rfl, hF⟩ | ⟨hno, _, _⟩
      · have := rdT_one hR hR'
        subst this
        exact ⟨v, rfl, hF⟩
      · exact absurd hR (hno l)
    obtain ⟨hl8, hl4, hfit⟩ := rdT_fit hR
    have eqS : ∀ {σ' : Heap} {a b : V}, RepS 3 (FaceSig.Rep σ') σ' a l → RepS 3 (FaceSig.Rep σ') σ' b l → Runs G n_laws_eqFaceSigS [a, b] σ' (.bool true) σ' := fun h h' => by
      obtain ⟨b, c, hb⟩ := eqFaceSigS_runs (by omega) h h' (fun x hx y cs cs' hr hr' => eqFaceSig_runs x y (hfit x hx) hr hr')
      obtain rfl := hb.2 rfl
      exact c
    have upR : ∀ {a b : Heap} {v : V}, Lh a b → RepS 3 (FaceSig.Rep a) a v l → RepS 3 (FaceSig.Rep b) b v l := fun hl h => h.mono hl fun cs x _ h => FaceSig.Rep.le hl h
    have S1 := F1.shown
    try simp only [q_bind_some, castInt_int, q_castBool, q_castStr, q_castPtr, q_castFn, q_castAgg, q_castTuple, q_uncons, q_isNil, q_sl, q_nils, q_emp, q_ptr, q_nilp, q_fn, q_cond_true, q_cond_false, Bool.not_true, Bool.not_false, decide_true, decide_false, List.cons_append, List.nil_append]
    refine W.call c2 ?_
    rintro w2 σ2 H2
    obtain ⟨v2, rfl, F2⟩ := again H2
    obtain ⟨R, O2, nd, lo, l2⟩ := F2
    try simp only [q_bind_some, castInt_int, q_castBool, q_castStr, q_castPtr, q_castFn, q_castAgg, q_castTuple, q_uncons, q_isNil, q_sl, q_nils, q_emp, q_ptr, q_nilp, q_fn, q_cond_true, q_cond_false, Bool.not_true, Bool.not_false, decide_true, decide_false, List.cons_append, List.nil_append]
    refine W.run (eqS (FaceP.rep O2) (upR l2 S1)) ?_
    try simp only [q_bind_some, castInt_int, q_castBool, q_castStr, q_castPtr, q_castFn, q_castAgg, q_castTuple, q_uncons, q_isNil, q_sl, q_nils, q_emp, q_ptr, q_nilp, q_fn, q_cond_true, q_cond_false, Bool.not_true, Bool.not_false, decide_true, decide_false, List.cons_append, List.nil_append, show (true == true) = true from rfl]
    obtain ⟨L, c3, o3, held⟩ := face_marks O2 nd hl8 hl4
    refine W.run c3 ?_
    try simp only [q_bind_some, castInt_int, q_castBool, q_castStr, q_castPtr, q_castFn, q_castAgg, q_castTuple, q_uncons, q_isNil, q_sl, q_nils, q_emp, q_ptr, q_nilp, q_fn, q_cond_true, q_cond_false, Bool.not_true, Bool.not_false, decide_true, decide_false, List.cons_append, List.nil_append]
    refine W.run (held _ (Lh.refl _)) ?_
    have hp : ¬ (((1 + L.length : Nat) : Int) < 0) := by omega
    try simp only [q_bind_some, castInt_int, q_castBool, q_castStr, q_castPtr, q_castFn, q_castAgg, q_castTuple, q_uncons, q_isNil, q_sl, q_nils, q_emp, q_ptr, q_nilp, q_fn, q_cond_true, q_cond_false, Bool.not_true, Bool.not_false, decide_true, decide_false, List.cons_append, List.nil_append, decide_eq_false hp, decide_true]
    have l3 : Lh σ1 (wrs σ2 1 L) := ⟨by rw [wrs_len]; exact l2.len, fun j row hj => by
      rw [o3 j fun hc => by have := lo j hc; have := get_lt hj; omega]
      exact l2.row j row hj⟩
    generalize wrs σ2 1 L = σ3 at held l3 o3
    have l03 := l1.trans l3
    refine W.call (implFaceRead_ends (l03.row _ _ hv.v0) (let ⟨m, e⟩ := hv.v1; ⟨m, l03.row _ _ e⟩) y0 hsz) ?_
    rintro w4 σ4 H4
    obtain ⟨v4, rfl, F4⟩ := again H4
    have l4 : Lh σ3 σ4 := F4.choose_spec.2.2.2
    try simp only [q_bind_some, castInt_int, q_castBool, q_castStr, q_castPtr, q_castFn, q_castAgg, q_castTuple, q_uncons, q_isNil, q_sl, q_nils, q_emp, q_ptr, q_nilp, q_fn, q_cond_true, q_cond_false, Bool.not_true, Bool.not_false, decide_true, decide_false, List.cons_append, List.nil_append]
    refine W.run (eqS F4.shown (upR (l3.trans l4) S1)) ?_
    try simp only [q_bind_some, castInt_int, q_castBool, q_castStr, q_castPtr, q_castFn, q_castAgg, q_castTuple, q_uncons, q_isNil, q_sl, q_nils, q_emp, q_ptr, q_nilp, q_fn, q_cond_true, q_cond_false, Bool.not_true, Bool.not_false, decide_true, decide_false, List.cons_append, List.nil_append, show (true == true) = true from rfl]
    refine W.run (held _ l4) ?_
    try simp only [q_bind_some, castInt_int, q_castBool, q_castStr, q_castPtr, q_castFn, q_castAgg, q_castTuple, q_uncons, q_isNil, q_sl, q_nils, q_emp, q_ptr, q_nilp, q_fn, q_cond_true, q_cond_false, Bool.not_true, Bool.not_false, decide_true, decide_false, List.cons_append, List.nil_append, decide_eq_false hp, decide_true]
    exact W.ret rfl
  · have again : ∀ {σ2 σ3 : Heap} {w : V}, RdP σ2 y0.data.toList w σ3 → w = .tuple [.nils, .bool false] ∧ Lh σ2 σ3 := fun H => by
      rcases H with ⟨l', v, hR', rfl, hF⟩ | ⟨_, h, hl⟩
      · exact absurd hR' (hno l')
      · exact ⟨h, hl⟩
    have eqN : ∀ {σ' : Heap}, Runs G n_laws_eqFaceSigS [.nils, .nils] σ' (.bool true) σ' := fun {σ'} => by
      obtain ⟨b, c, hb⟩ := eqFaceSigS_runs (σ := σ') (l := []) (l' := []) (by simp) .nils .nils (fun x hx => (List.not_mem_nil hx).elim)
      obtain rfl := hb.2 rfl
      exact c
    try simp only [q_bind_some, castInt_int, q_castBool, q_castStr, q_castPtr, q_castFn, q_castAgg, q_castTuple, q_uncons, q_isNil, q_sl, q_nils, q_emp, q_ptr, q_nilp, q_fn, q_cond_true, q_cond_false, Bool.not_true, Bool.not_false, decide_true, decide_false, List.cons_append, List.nil_append]
    refine W.call c2 ?_
    rintro w2 σ2 H2
    obtain ⟨rfl, l2⟩ := again H2
    try simp only [q_bind_some, castInt_int, q_castBool, q_castStr, q_castPtr, q_castFn, q_castAgg, q_castTuple, q_uncons, q_isNil, q_sl, q_nils, q_emp, q_ptr, q_nilp, q_fn, q_cond_true, q_cond_false, Bool.not_true, Bool.not_false, decide_true, decide_false, List.cons_append, List.nil_append]
    refine W.run eqN ?_
    try simp only [q_bind_some, castInt_int, q_castBool, q_castStr, q_castPtr, q_castFn, q_castAgg, q_castTuple, q_uncons, q_isNil, q_sl, q_nils, q_emp, q_ptr, q_nilp, q_fn, q_cond_true, q_cond_false, Bool.not_true, Bool.not_false, decide_true, decide_false, List.cons_append, List.nil_append, show (false == false) = true from rfl]
    obtain ⟨L, c3, o3, held⟩ := face_marks (σi := σ2) (v := .nils) (l := []) (R := []) .nils List.nodup_nil (by simp) (fun x hx => (List.not_mem_nil hx).elim)
    refine W.run c3 ?_
    try simp only [q_bind_some, castInt_int, q_castBool, q_castStr, q_castPtr, q_castFn, q_castAgg, q_castTuple, q_uncons, q_isNil, q_sl, q_nils, q_emp, q_ptr, q_nilp, q_fn, q_cond_true, q_cond_false, Bool.not_true, Bool.not_false, decide_true, decide_false, List.cons_append, List.nil_append]
    refine W.run (held _ (Lh.refl _)) ?_
    have hp : ¬ (((1 + L.length : Nat) : Int) < 0) := by omega
    try simp only [q_bind_some, castInt_int, q_castBool, q_castStr, q_castPtr, q_castFn, q_castAgg, q_castTuple, q_uncons, q_isNil, q_sl, q_nils, q_emp, q_ptr, q_nilp, q_fn, q_cond_true, q_cond_false, Bool.not_true, Bool.not_false, decide_true, decide_false, List.cons_append, List.nil_append, decide_eq_false hp, decide_true]
    have l3 : Lh σ1 (wrs σ2 1 L) := ⟨by rw [wrs_len]; exact l2.len, fun j row hj => by
      rw [o3 j (List.not_mem_nil)]
      exact l2.row j row hj⟩
    generalize wrs σ2 1 L = σ3 at held l3 o3
    have l03 := l1.trans l3
    refine W.call (implFaceRead_ends (l03.row _ _ hv.v0) (let ⟨m, e⟩ := hv.v1; ⟨m, l03.row _ _ e⟩) y0 hsz) ?_
    rintro w4 σ4 H4
    obtain ⟨rfl, l4⟩ := again H4
    try simp only [q_bind_some, castInt_int, q_castBool, q_castStr, q_castPtr, q_castFn, q_castAgg, q_castTuple, q_uncons, q_isNil, q_sl, q_nils, q_emp, q_ptr, q_nilp, q_fn, q_cond_true, q_cond_false, Bool.not_true, Bool.not_false, decide_true, decide_false, List.cons_append, List.nil_append]
    refine W.run eqN ?_
    try simp only [q_bind_some, castInt_int, q_castBool, q_castStr, q_castPtr, q_castFn, q_castAgg, q_castTuple, q_uncons, q_isNil, q_sl, q_nils, q_emp, q_ptr, q_nilp, q_fn, q_cond_true, q_cond_false, Bool.not_true, Bool.not_false, decide_true, decide_false, List.cons_append, List.nil_append, show (false == false) = true from rfl]
    refine W.run (held _ l4) ?_
    try simp only [q_bind_some, castInt_int, q_castBool, q_castStr, q_castPtr, q_castFn, q_castAgg, q_castTuple, q_uncons, q_isNil, q_sl, q_nils, q_emp, q_ptr, q_nilp, q_fn, q_cond_true, q_cond_false, Bool.not_true, Bool.not_false, decide_true, decide_false, List.cons_append, List.nil_append, decide_eq_false hp, decide_true]
    exact W.ret rfl
end Go.R
