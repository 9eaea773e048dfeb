/- What the law on LinkMake computes. -/
import Derived.Test.YtghkdjfgbaoplaaImage
import Derived.Test.YtghkdjfgbaoplaaHMOpen
set_option linter.unusedVariables false
set_option linter.unusedSimpArgs false
namespace Go.B
open Go.HM Go.Proofs
theorem linkFind_bound {l : List LinkPart} (ht : l.length + totS LinkPart.total l ≤ 1048576) (md nm : ByteArray) : 0 ≤ (linkFind l md nm).1 ∧ (linkFind l md nm).1 ≤ 4194304 := by
  unfold linkFind
  split
  · exact ⟨by simp, by simp⟩
  split
  · exact ⟨by simp, by simp⟩
  split
  · exact ⟨by simp, by simp⟩
  rename_i q hq
  split
  · exact ⟨by simp, by simp⟩
  · have h1 := base_le l (partIdx l md).toNat
    have h2 : funIdx q.obj nm < (q.obj.funs.length : Int) := fidx_lt _
    have h3 := totS_mem LinkPart.total (List.mem_of_getElem? hq)
    have h4 : q.total = q.name.size + q.obj.total := rfl
    have h5 := CodeObj.total_eq q.obj
    simp only
    omega
theorem img_fit {l : List LinkPart} (ht : l.length + totS LinkPart.total l ≤ 1048576) (hF : ∀ x, x ∈ l → x.Fit) : (img l).Fit := by
  obtain ⟨b1, b2⟩ := img_wt ht
  refine .mk (by omega) (fun x hx => ?_) (by omega) fun x hx => ?_
  · unfold img at hx
    split at hx
    rotate_left
    · cases hx
    obtain ⟨p, hp, hx⟩ := List.mem_flatMap.1 hx
    obtain ⟨f, hf, rfl⟩ := List.mem_map.1 hx
    cases hF p (List.mem_of_mem_take hp) with
    | mk g0 g1 =>
    cases g1 with
    | mk g1 g2 g3 g4 =>
    cases g4 f hf with
    | mk f0 f1 f2 f3 f4 f5 f6 =>
    refine .mk g0 f0 f1 f2 f3 f4 (by simpa [moveFun] using f5) fun y hy => ?_
    obtain ⟨z, hz, rfl⟩ := List.mem_map.1 hy
    cases f6 z hz with
    | mk z0 z1 =>
    unfold moveIns
    split
    · split
      · rename_i r _
        have := linkFind_bound ht (if r.mod = ⟨#[]⟩ then p.name else r.mod) r.name
        exact .mk z0 (by simp only; omega)
      · exact .mk z0 z1
    · exact .mk z0 z1
  · unfold img at hx
    split at hx
    rotate_left
    · cases hx
    have hm : ∀ (fs : List LinkFun) (n : Nat) (x : Int), x ∈ mIdx n fs → 0 ≤ x ∧ x ≤ ((n + fs.length : Nat) : Int) := by
      intro fs
      induction fs with
      | nil => intro n x hx; cases hx
      | cons f fs ih =>
        intro n x hx
        rw [mIdx] at hx
        rcases List.mem_append.1 hx with hx | hx
        · split at hx
          · simp at hx; subst hx; simp; omega
          · cases hx
        · have := ih _ _ hx
          simp only [List.length_cons]
          omega
    have := hm _ _ _ hx
    have := dn_wt l l.length
    omega
theorem FnExactLinkMake_law {σ : Heap} {y0 : List LinkPart} (f0 : fitL LinkPart.Fit y0) {w0 : V} (r0 : RepS 3 (LinkPart.Rep σ) σ w0 y0) : ∃ σ', Runs G n_laws_FnExactLinkMake [w0] σ (.bool true) σ' := by
  refine Ends.true (Ends.mk ?_)
  refine W.to (fun k _ => laws_FnExactLinkMake.eq k _ _) ?_
  refine W.run (szLinkPartS_runs f0.1 r0 (fun x hx cs b hr h0 h1 => szLinkPart_runs x (f0.2 x hx) hr h0 h1) (b := 1048576) (by omega) (by omega)) ?_
  try simp only [q_bind_some, castInt_int, q_castBool, q_castStr, q_castPtr, q_castFn, q_castAgg, q_castTuple, q_uncons, q_isNil, q_sl, q_nils, q_emp, q_ptr, q_nilp, q_fn, q_cond_true, q_cond_false, Bool.not_true, Bool.not_false, decide_true, decide_false, List.cons_append, List.nil_append]
  refine W.ite (fun _ => W.ret rfl) fun hs => ?_
  have ht : y0.length + totS LinkPart.total y0 ≤ 1048576 := by have := sub_cases 1048576 (y0.length + totS LinkPart.total y0); omega
  obtain ⟨b1, b2⟩ := img_wt ht
  have hfit := img_fit ht f0.2
  have to : ∀ {σ' : Heap}, Lh σ σ' → _ := fun {σ'} hl => toLinkPartS_runs (σ := σ') ht (r0.mono hl fun cs x _ h => LinkPart.Rep.le hl h) (fun x hx ht σ cs hr => toLinkPart_runs x ht hr)
  have eqI : ∀ {σ' : Heap} {a b c d : V}, LinkImage.Rep σ' [a, b] (img y0) → LinkImage.Rep σ' [c, d] (img y0) → Runs G n_laws_eqLinkImage [.agg [a, b], .agg [c, d]] σ' (.bool true) σ' := fun h h' => by
    obtain ⟨b, c, hb⟩ := eqLinkImage_runs _ _ hfit h h'
    obtain rfl := hb.2 rfl
    exact c
  have eqF : ∀ (a b c : Int) (σ : Heap), Runs G n_laws_eqLinkFault [.agg [.int .i64 a, .int .i64 b, .int .i64 c], .agg [.int .i64 a, .int .i64 b, .int .i64 c]] σ (.bool true) σ := fun a b c σ => by
    refine Runs.of (W.to (fun k _ => laws_eqLinkFault.eq k _ _ _ _ _ _ _) ?_)
    try simp only [q_bind_some, castInt_int, q_castBool, q_castStr, q_castPtr, q_castFn, q_castAgg, q_castTuple, q_uncons, q_isNil, q_sl, q_nils, q_emp, q_ptr, q_nilp, q_fn, q_cond_true, q_cond_false, Bool.not_true, Bool.not_false, decide_true, decide_false, List.cons_append, List.nil_append]
    exact W.ret ⟨rfl, rfl⟩
  have hFV : FV (linkFault y0) = .agg [.int .i64 (linkFault y0).1, .int .i64 (linkFault y0).2.1, .int .i64 (linkFault y0).2.2] := rfl
  generalize linkFault y0 = F at hFV
  obtain ⟨F1, F2, F3⟩ := F
  obtain ⟨v1, σ1, c1, l1, r1⟩ := to (Lh.refl σ)
  replace r1 := r1.mono (Lh.wipe _ _) fun cs x _ h => LinkPart.Rep.le (Lh.wipe _ _) h
  refine W.run c1 ?_
  obtain ⟨fv, mv, σ5, R5, S5, c5, j5⟩ := specLinkMake_ends ht f0.2 r1
  refine W.run c5 ?_
  try simp only [q_bind_some, castInt_int, q_castBool, q_castStr, q_castPtr, q_castFn, q_castAgg, q_castTuple, q_uncons, q_isNil, q_sl, q_nils, q_emp, q_ptr, q_nilp, q_fn, q_cond_true, q_cond_false, Bool.not_true, Bool.not_false, decide_true, decide_false, List.cons_append, List.nil_append, hFV]
  have l5 := j5.le
  obtain ⟨v6, σ6, c6, l6, rw6⟩ := to (l1.trans l5)
  have r6 := rw6.mono (Lh.wipe _ _) fun cs x _ h => LinkPart.Rep.le (Lh.wipe _ _) h
  refine W.run c6 ?_
  obtain ⟨gv, nv, σ7, R7, S7, c7, j7⟩ := implLinkMake_ends ht f0.2 r6
  have l7 := j7.le
  refine W.run c7 ?_
  try simp only [q_bind_some, castInt_int, q_castBool, q_castStr, q_castPtr, q_castFn, q_castAgg, q_castTuple, q_uncons, q_isNil, q_sl, q_nils, q_emp, q_ptr, q_nilp, q_fn, q_cond_true, q_cond_false, Bool.not_true, Bool.not_false, decide_true, decide_false, List.cons_append, List.nil_append, hFV]
  have u5 := l6.trans l7
  refine W.run (eqI j7.rep (j5.up u5).rep) ?_
  try simp only [q_bind_some, castInt_int, q_castBool, q_castStr, q_castPtr, q_castFn, q_castAgg, q_castTuple, q_uncons, q_isNil, q_sl, q_nils, q_emp, q_ptr, q_nilp, q_fn, q_cond_true, q_cond_false, Bool.not_true, Bool.not_false, decide_true, decide_false, List.cons_append, List.nil_append]
  refine W.run (eqF _ _ _ _) ?_
  try simp only [q_bind_some, castInt_int, q_castBool, q_castStr, q_castPtr, q_castFn, q_castAgg, q_castTuple, q_uncons, q_isNil, q_sl, q_nils, q_emp, q_ptr, q_nilp, q_fn, q_cond_true, q_cond_false, Bool.not_true, Bool.not_false, decide_true, decide_false, List.cons_append, List.nil_append]
  obtain ⟨v10, σ10, c10, l10, r10⟩ := to (l1.trans (l5.trans (l6.trans l7)))
  replace r10 := r10.mono (Lh.wipe _ _) fun cs x _ h => LinkPart.Rep.le (Lh.wipe _ _) h
  refine W.run c10 ?_
  have l610 := l7.trans l10
  obtain ⟨be, ce, hbe⟩ := eqLinkPartS_runs f0.1 (r6.mono l610 fun cs x _ h => LinkPart.Rep.le l610 h) r10 (fun x hx y cs cs' hr hr' => eqLinkPart_runs x y (f0.2 x hx) hr hr')
  obtain rfl := hbe.2 rfl
  refine W.run ce ?_
  try simp only [q_bind_some, castInt_int, q_castBool, q_castStr, q_castPtr, q_castFn, q_castAgg, q_castTuple, q_uncons, q_isNil, q_sl, q_nils, q_emp, q_ptr, q_nilp, q_fn, q_cond_true, q_cond_false, Bool.not_true, Bool.not_false, decide_true, decide_false, List.cons_append, List.nil_append]
  have lw := Lh.ofWipe (lo := σ5.length) (hi := σ6.length) l610 (Nat.le_refl _)
  obtain ⟨M, c13, o13⟩ := parts_marks (rw6.mono lw fun cs x _ h => LinkPart.Rep.le lw h) ht
  refine W.run c13 ?_
  have h13 : ¬ (((1 + M.length : Nat) : Int) < 0) := by omega
  try simp only [q_bind_some, castInt_int, q_castBool, q_castStr, q_castPtr, q_castFn, q_castAgg, q_castTuple, q_uncons, q_isNil, q_sl, q_nils, q_emp, q_ptr, q_nilp, q_fn, q_cond_true, q_cond_false, Bool.not_true, Bool.not_false, decide_true, decide_false, List.cons_append, List.nil_append, h13]
  have n5 := l5.len
  have n6 := l6.len
  have n1 := l1.len
  have n7 := l7.len
  have hl13 : (wrs σ10 1 M).length = σ10.length := wrs_len _ _ _
  have l5_10 := l6.trans l610
  have l5_13 : Lh σ5 (wrs σ10 1 M) := ⟨by rw [hl13]; exact l5_10.len, fun j row hj => by rw [o13 j (.inl (get_lt hj))]; exact l5_10.row j row hj⟩
  have j5b := j5.up l5_13
  have l1_13 := l5.trans l5_13
  have lo7 := j7.lo
  have j7b := (j7.up l10).keep (σ0 := σ1) (fun j hj => o13 j (.inr (lo7 j hj))) l1_13 (by omega)
  refine W.run (eqI j7b.rep j5b.rep) ?_
  try simp only [q_bind_some, castInt_int, q_castBool, q_castStr, q_castPtr, q_castFn, q_castAgg, q_castTuple, q_uncons, q_isNil, q_sl, q_nils, q_emp, q_ptr, q_nilp, q_fn, q_cond_true, q_cond_false, Bool.not_true, Bool.not_false, decide_true, decide_false, List.cons_append, List.nil_append]
  refine W.run (eqF _ _ _ _) ?_
  try simp only [q_bind_some, castInt_int, q_castBool, q_castStr, q_castPtr, q_castFn, q_castAgg, q_castTuple, q_uncons, q_isNil, q_sl, q_nils, q_emp, q_ptr, q_nilp, q_fn, q_cond_true, q_cond_false, Bool.not_true, Bool.not_false, decide_true, decide_false, List.cons_append, List.nil_append]
  obtain ⟨L, c17, bL, o17, held⟩ := image_marks j7b b1 b2
  refine W.run c17 ?_
  try simp only [q_bind_some, castInt_int, q_castBool, q_castStr, q_castPtr, q_castFn, q_castAgg, q_castTuple, q_uncons, q_isNil, q_sl, q_nils, q_emp, q_ptr, q_nilp, q_fn, q_cond_true, q_cond_false, Bool.not_true, Bool.not_false, decide_true, decide_false, List.cons_append, List.nil_append]
  refine W.run (held _ (Lh.refl _)) ?_
  have h17 : ¬ (((1 + L.length : Nat) : Int) < 0) := by omega
  try simp only [q_bind_some, castInt_int, q_castBool, q_castStr, q_castPtr, q_castFn, q_castAgg, q_castTuple, q_uncons, q_isNil, q_sl, q_nils, q_emp, q_ptr, q_nilp, q_fn, q_cond_true, q_cond_false, Bool.not_true, Bool.not_false, decide_true, decide_false, List.cons_append, List.nil_append, h17]
  generalize hσg : wrs (wrs σ10 1 M) 1 L = σ17 at o17 held
  have hl17 : σ17.length = σ10.length := by rw [← hσg, wrs_len, hl13]
  have l5_17 : Lh σ5 σ17 := ⟨by rw [hl17]; exact l5_10.len, fun j row hj => by
    rw [o17 j fun hc => by have := lo7 j hc; have := get_lt hj; omega]
    exact l5_13.row j row hj⟩
  obtain ⟨v21, σ21, c21, l21, r21⟩ := to (l1.trans (l5.trans l5_17))
  replace r21 := r21.mono (Lh.wipe _ _) fun cs x _ h => LinkPart.Rep.le (Lh.wipe _ _) h
  refine W.run c21 ?_
  obtain ⟨hv, pv, σ22, R22, S22, c22, j22⟩ := implLinkMake_ends ht f0.2 r21
  have l22 := j22.le
  refine W.run c22 ?_
  try simp only [q_bind_some, castInt_int, q_castBool, q_castStr, q_castPtr, q_castFn, q_castAgg, q_castTuple, q_uncons, q_isNil, q_sl, q_nils, q_emp, q_ptr, q_nilp, q_fn, q_cond_true, q_cond_false, Bool.not_true, Bool.not_false, decide_true, decide_false, List.cons_append, List.nil_append, hFV]
  refine W.run (eqI j22.rep (j5.up (l5_17.trans (l21.trans l22))).rep) ?_
  try simp only [q_bind_some, castInt_int, q_castBool, q_castStr, q_castPtr, q_castFn, q_castAgg, q_castTuple, q_uncons, q_isNil, q_sl, q_nils, q_emp, q_ptr, q_nilp, q_fn, q_cond_true, q_cond_false, Bool.not_true, Bool.not_false, decide_true, decide_false, List.cons_append, List.nil_append]
  refine W.run (eqF _ _ _ _) ?_
  try simp only [q_bind_some, castInt_int, q_castBool, q_castStr, q_castPtr, q_castFn, q_castAgg, q_castTuple, q_uncons, q_isNil, q_sl, q_nils, q_emp, q_ptr, q_nilp, q_fn, q_cond_true, q_cond_false, Bool.not_true, Bool.not_false, decide_true, decide_false, List.cons_append, List.nil_append]
  refine W.run (held _ (l21.trans l22)) ?_
  try simp only [q_bind_some, castInt_int, q_castBool, q_castStr, q_castPtr, q_castFn, q_castAgg, q_castTuple, q_uncons, q_isNil, q_sl, q_nils, q_emp, q_ptr, q_nilp, q_fn, q_cond_true, q_cond_false, Bool.not_true, Bool.not_false, decide_true, decide_false, List.cons_append, List.nil_append, h17]
  exact W.ret rfl
end Go.B
