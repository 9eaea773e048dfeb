/- The marks of an image, and of the parts handed over. -/
import Derived.Test.YtghkdjfgbaoplaaLink6
import Derived.Test.YtghkdjfgbaoplaaC
set_option linter.unusedVariables false
set_option linter.unusedSimpArgs false
namespace Go.B
open Go.HM Go.Proofs
/-- Rows that hold none of the places stay. -/
theorem marked_out {τ σ : Heap} {n : Nat} {L : List Leaf} (hc : ∀ k r o, (k, r, o) ∈ L → cellAt τ r o ≠ none) {j : Nat} (hj : ∀ row, τ[j]? ≠ some (some row)) : (wrs σ n L)[j]? = σ[j]? := wrs_out L fun l hl he => by
  obtain ⟨k, r, o⟩ := l
  cases hx : cellAt τ r o with
  | none => exact hc k r o hl hx
  | some x =>
    obtain ⟨row, h1, _⟩ := cellAt_some hx
    simp only at he
    subst he
    exact hj row h1
theorem LinkFun.wt_eq (x : LinkFun) : x.wt = x.args.length + x.code.length := by
  have : totS CodeIns.wt x.code = 0 := totS_zero _ (fun x => rfl) _
  unfold LinkFun.wt
  omega
theorem dn_wt (l : List LinkPart) : ∀ i, (dn l i).length + totS LinkFun.wt (dn l i) ≤ totS LinkPart.total l := by
  have h1 : ∀ (p : LinkPart) (fs : List CodeFun), totS LinkFun.wt (fs.map (moveFun l p)) ≤ totS CodeFun.total fs := by
    intro p fs
    induction fs with
    | nil => exact Nat.le_refl _
    | cons f fs ih =>
      show LinkFun.wt _ + totS LinkFun.wt (fs.map (moveFun l p)) ≤ CodeFun.total f + totS CodeFun.total fs
      have h2 := CodeFun.total_eq f
      have h3 : (moveFun l p f).wt = f.args.length + f.code.length := by rw [LinkFun.wt_eq]; simp [moveFun]
      rw [h3]
      omega
  have h2 : ∀ (k : List LinkPart), (k.flatMap fun p => p.obj.funs.map (moveFun l p)).length + totS LinkFun.wt (k.flatMap fun p => p.obj.funs.map (moveFun l p)) ≤ totS LinkPart.total k := by
    intro k
    induction k with
    | nil => exact Nat.le_refl _
    | cons p k ih =>
      rw [List.flatMap_cons, List.length_append, totS_append, List.length_map]
      show _ ≤ LinkPart.total p + totS LinkPart.total k
      have := h1 p p.obj.funs
      have h3 : p.total = p.name.size + p.obj.total := rfl
      have h4 := CodeObj.total_eq p.obj
      omega
  intro i
  exact Nat.le_trans (h2 (l.take i)) (totS_take_le _ _ _)
theorem img_wt {l : List LinkPart} (ht : l.length + totS LinkPart.total l ≤ 1048576) : (img l).funs.length + totS LinkFun.wt (img l).funs ≤ 1048576 ∧ (img l).mains.length ≤ 1048576 := by
  unfold img
  split
  · have := dn_wt l l.length
    have := mIdx_len (dn l l.length) 0
    exact ⟨by show (dn l l.length).length + totS LinkFun.wt (dn l l.length) ≤ _; omega, by show (mIdx 0 (dn l l.length)).length ≤ _; omega⟩
  · exact ⟨by simp [totS], by simp⟩
theorem Jn.rep {σ : Heap} {fs : List LinkFun} {ms : List Int} {a7 a8 : V} {σi : Heap} {R7 R8 : List Nat} (h : Jn σ fs ms a7 a8 σi R7 R8) : LinkImage.Rep σi [a7, a8] ⟨fs, ms⟩ :=
  .mk (h.f.rep fun cs x R _ h => RLinkFun.rep cs x R h) (h.m.rep fun cs x R _ h => RInt.rep cs x R h)
theorem Jn.keep {σ σ0 : Heap} {fs : List LinkFun} {ms : List Int} {a7 a8 : V} {σi σ' : Heap} {R7 R8 : List Nat} (h : Jn σ fs ms a7 a8 σi R7 R8) (hk : ∀ j, j ∈ R7 ++ R8 → σ'[j]? = σi[j]?) (hl : Lh σ0 σ') (h0 : σ0.length ≤ σ.length) : Jn σ0 fs ms a7 a8 σ' R7 R8 :=
  ⟨h.f.keep (fun j hj => hk j (List.mem_append_left _ hj)) (fun cs x R h k => RLinkFun.keep cs x R h k), h.f0, h.m.keep (fun j hj => hk j (List.mem_append_right _ hj)) (fun cs x R h k => RInt.keep cs x R h k), h.m0, h.nd, fun j hj => by have := h.lo j hj; omega, hl⟩
/-- Marks, and what holds them. -/
theorem image_marks {σ : Heap} {fs : List LinkFun} {ms : List Int} {a7 a8 : V} {σi : Heap} {R7 R8 : List Nat} (h : Jn σ fs ms a7 a8 σi R7 R8) (hb : fs.length + totS LinkFun.wt fs ≤ 1048576) (hb2 : ms.length ≤ 1048576) :
    ∃ L : List Leaf, Runs G n_laws_markLinkImage [.agg [a7, a8], .int .i64 1] σi (.int .i64 ((1 + L.length : Nat) : Int)) (wrs σi 1 L) ∧ L.length ≤ 33554432 ∧ (∀ j, j ∉ R7 ++ R8 → (wrs σi 1 L)[j]? = σi[j]?) ∧
      ∀ σ', Lh (wrs σi 1 L) σ' → Runs G n_laws_heldLinkImage [.agg [a7, a8], .int .i64 1] σ' (.int .i64 ((1 + L.length : Nat) : Int)) σ' := by
  obtain ⟨n1, n2, n3⟩ := nodup_sub (c := []) h.nd
  obtain ⟨l7, v7, o7, b7⟩ := h.f.lv (P := PLinkFun σi) (c := fun y => 8 + 8 * LinkFun.wt y) n1 (fun r o cs x R hw hr hq hn hrn => RLinkFun.lv r o cs x R hw hr hq hn hrn)
  rw [totS_lin] at b7
  obtain ⟨l8, v8, o8, b8⟩ := h.m.lv (P := PInt σi) (c := fun _ => 8) n2 (fun r o cs x R hw hr hq hn hrn => RInt.lv r o cs x R hw hr hq hn hrn)
  rw [totS_eight] at b8
  have hcells : ∀ k r o, (k, r, o) ∈ l7.flatten ++ l8.flatten → cellAt σi r o ≠ none := fun k r o hm => by
    rcases List.mem_append.1 hm with hm | hm
    · exact v7.cells (fun r o ls h => PLinkFun.cells h) k r o hm
    · exact v8.cells (fun r o ls h => PInt.cells h) k r o hm
  have hnd : ((l7.flatten ++ l8.flatten).map fun l => l.2).Nodup := by
    rw [List.map_append, List.nodup_append]
    refine ⟨o7.1, o8.1, fun a ha b hb hab => ?_⟩
    subst hab
    obtain ⟨x, hx, e1⟩ := List.mem_map.1 ha
    obtain ⟨y, hy, e2⟩ := List.mem_map.1 hb
    have h1 := o7.2 x hx
    have h2 := o8.2 y hy
    rw [e1] at h1
    rw [e2] at h2
    exact n3 _ h1 h2
  have hheld := held_wrs (l7.flatten ++ l8.flatten) (σ := σi) (n := 1) hcells hnd
  obtain ⟨m7, s7⟩ := markLinkFunS_lv (σ0 := σi) (σ := σi) (n := 1) (A := []) (Shp.refl _) v7 (Nat.le_refl _) (by simp only [List.length_nil]; omega)
  obtain ⟨m8, s8⟩ := markIntS_lv (σ0 := σi) (σ := σi) (n := 1) s7 v8 (Nat.le_refl _) (by simp only [List.length_append, List.length_nil]; omega)
  simp only [List.nil_append] at m7 m8 s7 s8
  refine ⟨l7.flatten ++ l8.flatten, ?_, by rw [List.length_append]; omega, fun j hj => wrs_out _ fun l hl he => ?_, fun σ' hl => ?_⟩
  · refine Runs.of (W.to (fun k _ => laws_markLinkImage.eq k _ _ _ _) ?_)
    refine W.run m7 ?_
    try simp only [q_bind_some, castInt_int, q_castBool, q_castStr, q_castPtr, q_castFn, q_castAgg, q_castTuple, q_uncons, q_isNil, q_sl, q_nils, q_emp, q_ptr, q_nilp, q_fn, q_cond_true, q_cond_false, Bool.not_true, Bool.not_false, decide_true, decide_false, List.cons_append, List.nil_append]
    refine W.run m8 ?_
    try simp only [q_bind_some, castInt_int, q_castBool, q_castStr, q_castPtr, q_castFn, q_castAgg, q_castTuple, q_uncons, q_isNil, q_sl, q_nils, q_emp, q_ptr, q_nilp, q_fn, q_cond_true, q_cond_false, Bool.not_true, Bool.not_false, decide_true, decide_false, List.cons_append, List.nil_append]
    exact W.ret ⟨rfl, rfl⟩
  · rcases List.mem_append.1 hl with hl | hl
    · exact hj (List.mem_append_left _ (he ▸ o7.2 l hl))
    · exact hj (List.mem_append_right _ (he ▸ o8.2 l hl))
  · obtain ⟨t7, t8⟩ := (hheld.le hl).app
    have hs := s8.le hl
    have c7 := heldLinkFunS_lv hs v7 t7 (Nat.le_refl _) (by omega)
    have c8 := heldIntS_lv hs v8 t8 (by omega) (by omega)
    refine Runs.of (W.to (fun k _ => laws_heldLinkImage.eq k _ _ _ _) ?_)
    refine W.run c7 ?_
    have p1 : ¬ (((1 + l7.flatten.length : Nat) : Int) < 0) := by omega
    try simp only [q_bind_some, castInt_int, q_castBool, q_castStr, q_castPtr, q_castFn, q_castAgg, q_castTuple, q_uncons, q_isNil, q_sl, q_nils, q_emp, q_ptr, q_nilp, q_fn, q_cond_true, q_cond_false, Bool.not_true, Bool.not_false, decide_true, decide_false, List.cons_append, List.nil_append, p1]
    refine W.run c8 ?_
    have p2 : ¬ (((1 + l7.flatten.length + l8.flatten.length : Nat) : Int) < 0) := by omega
    try simp only [q_bind_some, castInt_int, q_castBool, q_castStr, q_castPtr, q_castFn, q_castAgg, q_castTuple, q_uncons, q_isNil, q_sl, q_nils, q_emp, q_ptr, q_nilp, q_fn, q_cond_true, q_cond_false, Bool.not_true, Bool.not_false, decide_true, decide_false, List.cons_append, List.nil_append, p2]
    exact W.ret ⟨by rw [List.length_append, Nat.add_assoc], rfl⟩
/-- The marks of parts in a window of the heap. -/
theorem parts_marks {lo hi : Nat} {σ : Heap} {v : V} {l : List LinkPart} (h : RepS 3 (LinkPart.Rep (win lo hi σ)) (win lo hi σ) v l) (ht : l.length + totS LinkPart.total l ≤ 1048576) :
    ∃ L : List Leaf, Runs G n_laws_markLinkPartS [v, .int .i64 1] σ (.int .i64 ((1 + L.length : Nat) : Int)) (wrs σ 1 L) ∧ ∀ j, (j < lo ∨ hi ≤ j) → (wrs σ 1 L)[j]? = σ[j]? := by
  obtain ⟨ls, hlv, hb⟩ := h.lv (P := PLinkPart (win lo hi σ)) (c := fun y => 8 + 8 * LinkPart.total y) (fun r row hr => (win_get.1 hr).2.2) (fun r o cs x _ _ hr hq => PLinkPart.of r o cs x (fun r row hr => (win_get.1 hr).2.2) hr hq)
  rw [totS_lin] at hb
  obtain ⟨m, _⟩ := markLinkPartS_lv (σ0 := win lo hi σ) (σ := σ) (n := 1) (A := []) (Shp.lh (Lh.win lo hi σ)) hlv (Nat.le_refl _) (by simp only [List.length_nil]; omega)
  simp only [List.nil_append] at m
  refine ⟨ls.flatten, m, fun j hj => marked_out (hlv.cells fun r o ls h => PLinkPart.cells h) fun row hrow => ?_⟩
  obtain ⟨⟨h1, h2⟩, _⟩ := win_get.1 hrow
  omega
end Go.B
