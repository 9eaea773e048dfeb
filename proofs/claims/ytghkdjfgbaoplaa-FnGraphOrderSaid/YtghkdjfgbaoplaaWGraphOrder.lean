/- The law on the order of drawn nodes. -/
import Derived.Test.YtghkdjfgbaoplaaOrderT
set_option linter.unusedVariables false
set_option linter.unusedSimpArgs false
namespace Go.B
open Go.HM Go.Proofs
def missU (l : List GraphNode) (u : ByteArray) : Bool := !(l.any fun m => decide (m.name = u))
def missP (l : List GraphNode) (n : GraphNode) : Bool := n.uses.any (missU l)
theorem missP_iff {l : List GraphNode} {n : GraphNode} : missP l n = true ↔ Miss l n := by
  unfold missP missU Miss
  rw [List.any_eq_true]
  constructor
  · rintro ⟨u, hu, h⟩
    refine ⟨u, hu, fun m hm he => ?_⟩
    have : (l.any fun m => decide (m.name = u)) = true := List.any_eq_true.2 ⟨m, hm, by simp [he]⟩
    rw [this] at h
    cases h
  · rintro ⟨u, hu, h⟩
    refine ⟨u, hu, ?_⟩
    have : (l.any fun m => decide (m.name = u)) = false := List.any_eq_false.2 fun m hm => by simp [h m hm]
    rw [this]
    rfl
theorem rndP_iff {l : List GraphNode} {n : GraphNode} : rndP l n = true ↔ Beh l [n.name] n.name := by
  unfold rndP
  exact @decide_eq_true_iff _ (Classical.propDecidable _)
theorem wrong_is {l : List GraphNode} (hG : GrOk l) : Wrong l (rndOf l ++ pick (missP l) l) := by
  intro x
  rw [rndOf, if_pos hG, List.mem_append, mem_pick, mem_pick]
  constructor
  · rintro (⟨n, h1, h2, rfl⟩ | ⟨n, h1, h2, rfl⟩)
    · exact ⟨n, h1, rfl, .inl (rndP_iff.1 h2)⟩
    · exact ⟨n, h1, rfl, .inr (missP_iff.1 h2)⟩
  · rintro ⟨n, h1, rfl, h2 | h2⟩
    · exact .inl ⟨n, h1, rndP_iff.2 h2, rfl⟩
    · exact .inr ⟨n, h1, missP_iff.2 h2, rfl⟩
theorem place_lt {l : List GraphNode} {out : List ByteArray} (hI : OInv l out) {n : GraphNode} (hn : n ∈ l) {u : ByteArray} (hu : u ∈ n.uses) (h : 0 ≤ fidx (fun x => decide (x = n.name)) out) :
    0 ≤ fidx (fun x => decide (x = u)) out ∧ fidx (fun x => decide (x = u)) out < fidx (fun x => decide (x = n.name)) out := by
  rcases fidx_cases (p := fun x => decide (x = n.name)) out with ⟨h1, _⟩ | ⟨i, x, h1, h2, h3, h4⟩
  · omega
  · simp at h3
    subst h3
    obtain ⟨j, hj, e⟩ := hI.uses i n h2 hn u hu
    have hg : 0 ≤ fidx (fun x => decide (x = u)) out := place_ge.2 (List.mem_of_getElem? e)
    refine ⟨hg, ?_⟩
    rcases fidx_cases (p := fun x => decide (x = u)) out with ⟨g1, _⟩ | ⟨i', x', g1, g2, g3, g4⟩
    · omega
    · have : ¬ j < i' := fun hc => by
        have := g4 j u hc e
        simp at this
      omega
theorem chunks_str {cs : List V} {l : List ByteArray} (h : Chunks 1 StrRep cs l) : cs = l.map .str := by
  apply List.ext_getElem?
  intro i
  have hl := h.1
  rcases Nat.lt_or_ge i l.length with hi | hi
  · have hx := h.2 i l[i] (List.getElem?_eq_getElem hi)
    unfold StrRep at hx
    have e : ((cs.drop (i * 1)).take 1)[0]? = some (V.str l[i]) := by rw [hx]; rfl
    rw [chunk_get, if_pos (by omega)] at e
    simp only [Nat.mul_one, Nat.add_zero] at e
    rw [e, List.getElem?_map, List.getElem?_eq_getElem hi]
    rfl
  · rw [List.getElem?_eq_none (by omega), List.getElem?_eq_none (by simp; omega)]
theorem rdc_le {σ σ' : Heap} (hl : Lh σ σ') {r o n : Nat} {cs : List V} (h : rdc σ r o n = some cs) : rdc σ' r o n = some cs := by
  obtain ⟨row, g1, g2, g3⟩ := rdc_some h
  unfold rdc
  rw [hl.row _ _ g1]
  simp only
  rw [if_pos g2, g3]
theorem FnGraphOrder_law {σ : Heap} {y0 : List Int} (f0 : fitL fitU8 y0) {w0 : V} (r0 : RepS 1 (U8R σ) σ w0 y0) :
    ∃ σ', Runs G n_laws_FnGraphOrder [w0] σ (.bool true) σ' := by
  refine Ends.true (Ends.mk ?_)
  refine W.to (fun k _ => laws_FnGraphOrder.eq k _ _) ?_
  refine W.len r0 (W.ite (fun _ => W.ret rfl) fun hl0 => ?_)
  have r0' : RepS 1 U8P σ w0 y0 := r0.mono (Lh.refl _) fun cs x _ hc => hc
  obtain ⟨w, σ1, l, c1, rn, hn10, hsm, hne1⟩ := drawOrder_ends r0' f0.2
  refine W.run c1 ?_
  have ht := small_tot hn10 hsm
  have up : ∀ {τ τ' : Heap}, Lh τ τ' → RepS 2 (GraphNode.Rep τ) τ w l → RepS 2 (GraphNode.Rep τ') τ' w l := fun hl h => h.mono hl fun cs x _ h => GraphNode.Rep.le hl h
  have hol := orderOf_len l
  have hrl := rndOf_len l
  obtain ⟨vo, σ2, c2, l2, o2⟩ := implGraphOrder_own ht rn
  refine W.run c2 ?_
  have rn2 := up l2 rn
  obtain ⟨vr, σ3, c3, l3, o3⟩ := implGraphRound_own ht rn2
  refine W.run c3 ?_
  have rn3 := up l3 rn2
  obtain ⟨v4, σ4, c4, l4, o4⟩ := specGraphOrder_own ht rn3
  refine W.run c4 ?_
  refine W.run (wlSame_runs (by omega) (o2.le (l3.trans l4)).rep o4.rep) ?_
  try simp only [q_bind_some, Option.bind_assoc, castInt_int, q_castBool, q_castStr, q_castPtr, q_castFn, q_castAgg, q_castTuple, q_uncons, q_isNil, q_sl, q_nils, q_emp, q_ptr, q_nilp, q_fn, q_cond_true, q_cond_false, Bool.not_true, Bool.not_false, decide_true, decide_false, castInt_bind, castBool_bind, castStr_bind, castPtr_bind, castFn_bind, castAgg_bind, castTuple_bind, uncons_bind, isNil_bind, one_bind, cond_bind, ite_bind_, List.cons_append, List.nil_append]
  have rn4 := up l4 rn3
  obtain ⟨v5, σ5, c5, l5, o5⟩ := specGraphRound_own ht rn4
  refine W.run c5 ?_
  refine W.run (wlSame_runs (by omega) (o3.le (l4.trans l5)).rep o5.rep) ?_
  try simp only [q_bind_some, Option.bind_assoc, castInt_int, q_castBool, q_castStr, q_castPtr, q_castFn, q_castAgg, q_castTuple, q_uncons, q_isNil, q_sl, q_nils, q_emp, q_ptr, q_nilp, q_fn, q_cond_true, q_cond_false, Bool.not_true, Bool.not_false, decide_true, decide_false, castInt_bind, castBool_bind, castStr_bind, castPtr_bind, castFn_bind, castAgg_bind, castTuple_bind, uncons_bind, isNil_bind, one_bind, cond_bind, ite_bind_, List.cons_append, List.nil_append]
  have rn5 := up l5 rn4
  refine W.give (implGraphOk_gives (by omega) rn5) fun σ6 l6 => ?_
  try simp only [q_bind_some, Option.bind_assoc, castInt_int, q_castBool, q_castStr, q_castPtr, q_castFn, q_castAgg, q_castTuple, q_uncons, q_isNil, q_sl, q_nils, q_emp, q_ptr, q_nilp, q_fn, q_cond_true, q_cond_false, Bool.not_true, Bool.not_false, decide_true, decide_false, castInt_bind, castBool_bind, castStr_bind, castPtr_bind, castFn_bind, castAgg_bind, castTuple_bind, uncons_bind, isNil_bind, one_bind, cond_bind, ite_bind_, List.cons_append, List.nil_append]
  have rn6 := up l6 rn5
  refine W.run (specGraphOk_runs (by omega) rn6) ?_
  try simp only [q_bind_some, Option.bind_assoc, castInt_int, q_castBool, q_castStr, q_castPtr, q_castFn, q_castAgg, q_castTuple, q_uncons, q_isNil, q_sl, q_nils, q_emp, q_ptr, q_nilp, q_fn, q_cond_true, q_cond_false, Bool.not_true, Bool.not_false, decide_true, decide_false, castInt_bind, castBool_bind, castStr_bind, castPtr_bind, castFn_bind, castAgg_bind, castTuple_bind, uncons_bind, isNil_bind, one_bind, cond_bind, ite_bind_, List.cons_append, List.nil_append, beq_self_eq_true]
  refine W.run (specGraphOk_runs (by omega) rn6) ?_
  try simp only [q_bind_some, Option.bind_assoc, castInt_int, q_castBool, q_castStr, q_castPtr, q_castFn, q_castAgg, q_castTuple, q_uncons, q_isNil, q_sl, q_nils, q_emp, q_ptr, q_nilp, q_fn, q_cond_true, q_cond_false, Bool.not_true, Bool.not_false, decide_true, decide_false, castInt_bind, castBool_bind, castStr_bind, castPtr_bind, castFn_bind, castAgg_bind, castTuple_bind, uncons_bind, isNil_bind, one_bind, cond_bind, ite_bind_, List.cons_append, List.nil_append]
  have ro6 := (o2.le (l3.trans (l4.trans (l5.trans l6)))).rep
  have rr6 := (o3.le (l4.trans (l5.trans l6))).rep
  by_cases hG : GrOk l
  rotate_left
  · try simp only [q_bind_some, Option.bind_assoc, castInt_int, q_castBool, q_castStr, q_castPtr, q_castFn, q_castAgg, q_castTuple, q_uncons, q_isNil, q_sl, q_nils, q_emp, q_ptr, q_nilp, q_fn, q_cond_true, q_cond_false, Bool.not_true, Bool.not_false, decide_true, decide_false, castInt_bind, castBool_bind, castStr_bind, castPtr_bind, castFn_bind, castAgg_bind, castTuple_bind, uncons_bind, isNil_bind, one_bind, cond_bind, ite_bind_, List.cons_append, List.nil_append, decide_eq_false hG]
    have e1 : orderOf l = [] := by rw [orderOf, if_neg hG]
    have e2 : rndOf l = [] := by rw [rndOf, if_neg hG]
    rw [e1] at ro6
    rw [e2] at rr6
    refine W.len ro6 (W.ite (fun _ => ?_) fun h => absurd rfl h)
    refine W.len rr6 ?_
    exact W.ret rfl
  try simp only [q_bind_some, Option.bind_assoc, castInt_int, q_castBool, q_castStr, q_castPtr, q_castFn, q_castAgg, q_castTuple, q_uncons, q_isNil, q_sl, q_nils, q_emp, q_ptr, q_nilp, q_fn, q_cond_true, q_cond_false, Bool.not_true, Bool.not_false, decide_true, decide_false, castInt_bind, castBool_bind, castStr_bind, castPtr_bind, castFn_bind, castAgg_bind, castTuple_bind, uncons_bind, isNil_bind, one_bind, cond_bind, ite_bind_, List.cons_append, List.nil_append, decide_eq_true hG]
  have eo : orderOf l = order l [] := by rw [orderOf, if_pos hG]
  obtain ⟨hI, _⟩ := order_inv hG.apart _ [] (Nat.le_refl _) OInv.start
  rw [← eo] at hI
  have lN : Lh σ6 (hnew σ6 1 []) := Lh.new _ _ _
  refine W.cells (σ' := σ6) (rr6.le lN) fun cs hcs => ?_
  obtain ⟨vw0, σ8, ha, hGr, hk8⟩ := (Grown.start σ6 1 StrRep true).app (bytes := 16) hcs (by simp; omega) (by simp; omega)
  have l8 : Lh σ6 σ8 := hk8 σ6 (Nat.le_refl _) lN
  refine W.bind ha ?_
  rw [List.nil_append] at hGr
  have l88 : Lh σ8 (hnew σ8 2 []) := Lh.new _ _ _
  have hlen8 := l8.len
  have hW0 : ∃ qw lim, σ6.length ≤ qw ∧ vw0 = .sl qw 0 (rndOf l ++ pick (missP l) (l.take 0)).length lim ∧ StrRow (hnew σ8 2 []) qw (rndOf l ++ pick (missP l) (l.take 0)) ∧ NdM (hnew σ8 2 []) qw σ6.length (.sl σ8.length 0 0 true) ((l.take 0).map turn) := by
    obtain ⟨qw, lim, row, h1, h2, h3, h4, h5, h6⟩ := hGr
    have ec := chunks_str h6
    have hp : pick (missP l) (l.take 0) = [] := rfl
    rw [hp, List.append_nil]
    refine ⟨qw, lim, h2, h1, ⟨row.ty, ?_⟩, σ8.length, true, ⟨[], 2, false, 0⟩, rfl, hlen8, by simp [hnew], rfl, rfl, by simp, fun i x hx => by simp at hx⟩
    rw [l88.row _ _ h3]
    cases row
    simp_all
  refine W.loop (S := Nat × V × V × Heap) (fun s => s.1 ≤ l.length ∧ (∃ qw lim, σ6.length ≤ qw ∧ s.2.1 = .sl qw 0 (rndOf l ++ pick (missP l) (l.take s.1)).length lim ∧ StrRow s.2.2.2 qw (rndOf l ++ pick (missP l) (l.take s.1)) ∧ NdM s.2.2.2 qw σ6.length s.2.2.1 ((l.take s.1).map turn)) ∧ Lh σ6 s.2.2.2)
    (fun s => [.v w, .v vo, .v s.2.1, .v s.2.2.1, .v (.int .i64 (s.1 : Int))]) (fun s => s.2.2.2) (fun s => l.length - s.1) (fun ⟨i, vw, vt, σi⟩ hInv => ?_)
    (0, vw0, .sl σ8.length 0 0 true, hnew σ8 2 []) ⟨Nat.zero_le _, hW0, l8.trans l88⟩
  obtain ⟨hi, ⟨qw, lim, hqw, hvw, hS, hNd⟩, hL⟩ := hInv
  simp only at hi hvw hS hNd hL ⊢
  have rni := up hL rn6
  have roi := ro6.le hL
  have hll := hL.len
  have hpl := pick_len (missP l) (l.take i)
  have htk : (l.take i).length ≤ l.length := by simp; omega
  have hwl : (rndOf l ++ pick (missP l) (l.take i)).length ≤ 20 := by rw [List.length_append]; omega
  refine W.to (fun k _ => by rw [laws_FnGraphOrder.L0_step]) ?_
  refine B.len rni (B.ite (fun hlt => ?_) fun hlt => ?_)
  rotate_left
  · -- the end
    try simp only [q_bind_some, castInt_int, q_castBool, q_castStr, q_castPtr, q_castFn, q_castAgg, q_castTuple, q_uncons, q_isNil, q_sl, q_nils, q_emp, q_ptr, q_nilp, q_fn, q_cond_true, q_cond_false, Bool.not_true, Bool.not_false, decide_true, decide_false, List.cons_append, List.nil_append, laws_FnGraphOrder.A0_x0]
    rw [List.take_of_length_le (by omega)] at hS hNd hvw
    have hRw : RepS 1 StrRep σi vw (rndOf l ++ pick (missP l) l) := by rw [hvw]; exact hS.rep (fun _ => rfl) lim
    have hRt := hNd.rep
    rw [List.take_of_length_le (by omega)] at hwl
    obtain ⟨vb, σ9, c9, l9, o9⟩ := implGraphBehind_own ht (by omega) rni hRw
    refine W.run c9 ?_
    have rn9 := up l9 rni
    have ro9 := roi.le l9
    have hbl := behOf_len l (rndOf l ++ pick (missP l) l)
    have eb : behOf l (rndOf l ++ pick (missP l) l) = pick (behP l (rndOf l ++ pick (missP l) l)) l := by rw [behOf, if_pos hG]
    refine W.loop (S := Nat) (fun j => j ≤ l.length) (fun j => [.v w, .v vo, .v vt, .v vb, .v (.int .i64 (j : Int))]) (fun _ => σ9) (fun j => l.length - j) (fun j hj => ?_) 0 (Nat.zero_le _)
    refine W.to (fun k _ => by rw [laws_FnGraphOrder.L4_step]) ?_
    refine B.len rn9 (B.ite (fun hlt => ?_) fun hlt => ?_)
    · have hjl : j < l.length := by omega
      obtain ⟨r', o', hv, cs', hr, hP⟩ := rn9.at hjl
      have hmem := List.getElem_mem hjl
      generalize l[j] = x at hP hmem
      cases hP with
      | mk q0 =>
      have e0 : rdc σ9 r' (o' + 0) 1 = some [.str x.name] := rdc_sub hr 0 1 (by omega)
      try simp only [q_bind_some, castInt_int, q_castBool, q_castStr, q_castPtr, q_castFn, q_castAgg, q_castTuple, q_uncons, q_isNil, q_sl, q_nils, q_emp, q_ptr, q_nilp, q_fn, q_cond_true, q_cond_false, Bool.not_true, Bool.not_false, decide_true, decide_false, List.cons_append, List.nil_append, hv, e0]
      refine B.run (wgPlace_runs (by omega) (ro9.prot1 r') x.name) ?_
      try simp only [q_bind_some, castInt_int, q_castBool, q_castStr, q_castPtr, q_castFn, q_castAgg, q_castTuple, q_uncons, q_isNil, q_sl, q_nils, q_emp, q_ptr, q_nilp, q_fn, q_cond_true, q_cond_false, Bool.not_true, Bool.not_false, decide_true, decide_false, List.cons_append, List.nil_append, unprot0]
      refine B.run (wgPlace_runs (by omega) o9.rep x.name) ?_
      try simp only [q_bind_some, castInt_int, q_castBool, q_castStr, q_castPtr, q_castFn, q_castAgg, q_castTuple, q_uncons, q_isNil, q_sl, q_nils, q_emp, q_ptr, q_nilp, q_fn, q_cond_true, q_cond_false, Bool.not_true, Bool.not_false, decide_true, decide_false, List.cons_append, List.nil_append]
      have hiff := order_iff hG (wrong_is hG) hmem
      rw [← eo, ← eb] at hiff
      have hne : (decide (0 ≤ fidx (fun y => decide (y = x.name)) (orderOf l)) == decide (0 ≤ fidx (fun y => decide (y = x.name)) (behOf l (rndOf l ++ pick (missP l) l)))) = false := by
        by_cases h1 : x.name ∈ orderOf l
        · have h2 := hiff.1 h1
          rw [decide_eq_true (place_ge.2 h1), decide_eq_false (fun hc => h2 (place_ge.1 hc))]
          rfl
        · have h2 : x.name ∈ behOf l (rndOf l ++ pick (missP l) l) := Classical.byContradiction fun hc => h1 (hiff.2 hc)
          rw [decide_eq_false (fun hc => h1 (place_ge.1 hc)), decide_eq_true (place_ge.2 h2)]
          rfl
      try simp only [q_bind_some, castInt_int, q_castBool, q_castStr, q_castPtr, q_castFn, q_castAgg, q_castTuple, q_uncons, q_isNil, q_sl, q_nils, q_emp, q_ptr, q_nilp, q_fn, q_cond_true, q_cond_false, Bool.not_true, Bool.not_false, decide_true, decide_false, List.cons_append, List.nil_append, hne, wrap_next hjl (by omega)]
      exact W.again (j + 1) (by show j + 1 ≤ _; omega) (by omega) rfl rfl
    · try simp only [q_bind_some, castInt_int, q_castBool, q_castStr, q_castPtr, q_castFn, q_castAgg, q_castTuple, q_uncons, q_isNil, q_sl, q_nils, q_emp, q_ptr, q_nilp, q_fn, q_cond_true, q_cond_false, Bool.not_true, Bool.not_false, decide_true, decide_false, List.cons_append, List.nil_append, laws_FnGraphOrder.A4_x8]
      have htl : ((l.map turn).length + totS GraphNode.total (l.map turn)) ≤ 1048576 := small_tot (by simpa using hn10) fun x hx => by
        obtain ⟨n, hn, rfl⟩ := List.mem_map.1 hx
        have := hsm n hn
        exact ⟨this.1, by simpa [turn] using this.2.1, fun s hs => this.2.2 s (by simpa [turn] using hs)⟩
      obtain ⟨vq, σ10, c10, l10, o10⟩ := implGraphOrder_own htl (hRt.mono l9 fun cs x _ h => GraphNode.Rep.le l9 h)
      refine W.run c10 ?_
      rw [orderOf_turn hG] at o10
      refine W.run (wlSame_runs (by omega) o10.rep (ro9.le l10)) ?_
      try simp only [q_bind_some, castInt_int, q_castBool, q_castStr, q_castPtr, q_castFn, q_castAgg, q_castTuple, q_uncons, q_isNil, q_sl, q_nils, q_emp, q_ptr, q_nilp, q_fn, q_cond_true, q_cond_false, Bool.not_true, Bool.not_false, decide_true, decide_false, List.cons_append, List.nil_append]
      refine W.len ro9 (W.len o9.rep (W.len rn9 ?_))
      have hcount := order_count hG (wrong_is hG)
      rw [← eo, ← eb] at hcount
      refine W.ret ?_
      rw [wrap_id (by omega) (by omega)]
      have : ((orderOf l).length : Int) + ((behOf l (rndOf l ++ pick (missP l) l)).length : Int) = (l.length : Int) := by omega
      simp [this]
  -- a node
  have hil : i < l.length := by omega
  have hx : l[i]? = some l[i] := List.getElem?_eq_getElem hil
  obtain ⟨r, o, hv, cs', hr, hP⟩ := rni.at hil
  have hmem := List.getElem_mem hil
  generalize l[i] = x at hx hP hmem
  have hsx := hsm x hmem
  have hul := hsx.2.1
  cases hP with
  | mk q0 =>
  rename_i a0
  have e0 : rdc σi r (o + 0) 1 = some [.str x.name] := rdc_sub hr 0 1 (by omega)
  have e1 : rdc σi r (o + 1) 1 = some [a0] := rdc_sub hr 1 1 (by omega)
  obtain ⟨rowr, gr, _⟩ := rdc_some hr
  have hrlt := get_lt gr
  try simp only [q_bind_some, castInt_int, q_castBool, q_castStr, q_castPtr, q_castFn, q_castAgg, q_castTuple, q_uncons, q_isNil, q_sl, q_nils, q_emp, q_ptr, q_nilp, q_fn, q_cond_true, q_cond_false, Bool.not_true, Bool.not_false, decide_true, decide_false, List.cons_append, List.nil_append, hv, e0, e1]
  refine B.len q0 ?_
  have ek : IntKind.wrap .i64 ((x.uses.length : Int) - 1) = (x.uses.length : Int) - 1 - ((0 : Nat) : Int) := by rw [wrap_id (by omega) (by omega)]; omega
  rw [ek]
  refine B.assoc ?_
  refine W.loop (S := Nat × V × Heap) (fun s => s.1 ≤ x.uses.length ∧ Own σi.length s.2.2 s.2.1 (x.uses.reverse.take s.1) ∧ σi.length ≤ s.2.2.length ∧ ∀ j, j < σi.length → s.2.2[j]? = σi[j]?)
    (fun s => [.v w, .v vo, .v vw, .v vt, .v (.int .i64 (i : Int)), .box [.str x.name, s.2.1], .v (.int .i64 ((x.uses.length : Int) - 1 - (s.1 : Int)))]) (fun s => s.2.2) (fun s => x.uses.length - s.1) (fun ⟨t, u, σj⟩ hJ => ?_)
    (0, .nils, σi) ⟨Nat.zero_le _, .inl ⟨rfl, rfl⟩, Nat.le_refl _, fun _ _ => rfl⟩
  obtain ⟨ht', hO, hlj, hkj⟩ := hJ
  simp only at ht' hO hlj hkj ⊢
  have lj : Lh σi σj := ⟨hlj, fun j row hj => by rw [hkj j (get_lt hj)]; exact hj⟩
  refine W.to (fun k _ => by rw [laws_FnGraphOrder.L1_step]) ?_
  refine B.ite (fun hlt2 => ?_) fun hlt2 => ?_
  · have htl : t < x.uses.length := by omega
    have ei : (x.uses.length : Int) - 1 - (t : Int) = ((x.uses.length - 1 - t : Nat) : Int) := by omega
    have hxu : x.uses[x.uses.length - 1 - t]? = some x.uses[x.uses.length - 1 - t] := List.getElem?_eq_getElem (by omega)
    have hrev : x.uses.reverse[t]? = some x.uses[x.uses.length - 1 - t] := by rw [List.getElem?_reverse htl]; exact hxu
    obtain ⟨r2, o2', hv2, cs2, hr2, hP2⟩ := (q0.le lj).at' hxu
    unfold StrRep at hP2
    subst hP2
    generalize x.uses[x.uses.length - 1 - t] = s at hxu hrev hr2
    have e1j := rdc_le lj e1
    have em : IntKind.wrap .i64 (((x.uses.length - 1 - t : Nat) : Int) - 1) = (x.uses.length : Int) - 1 - ((t + 1 : Nat) : Int) := by rw [wrap_id (by omega) (by omega)]; omega
    obtain ⟨u', σ', ha, hO', hl', hk', h1'⟩ := hO.appProt hlj hrlt (lj.row _ _ gr) s (by simp; omega)
    try simp only [q_bind_some, castInt_int, q_castBool, q_castStr, q_castPtr, q_castFn, q_castAgg, q_castTuple, q_uncons, q_isNil, q_sl, q_nils, q_emp, q_ptr, q_nilp, q_fn, q_cond_true, q_cond_false, Bool.not_true, Bool.not_false, decide_true, decide_false, List.cons_append, List.nil_append, hv, e1j, ei, hv2, hr2, unprot0, ha, h1']
    refine W.again (t + 1, u', unprot [r] σj σ') ⟨by show t + 1 ≤ _; omega, by simp only; rw [take_next' hrev]; exact hO', by simp only; omega, fun j hj => by simp only; rw [hk' j hj, hkj j hj]⟩ (by simp only; omega) (by rw [em]) rfl
  have hte : t = x.uses.length := by omega
  subst hte
  rw [List.take_of_length_le (by simp)] at hO
  try simp only [q_bind_some, castInt_int, q_castBool, q_castStr, q_castPtr, q_castFn, q_castAgg, q_castTuple, q_uncons, q_isNil, q_sl, q_nils, q_emp, q_ptr, q_nilp, q_fn, q_cond_true, q_cond_false, Bool.not_true, Bool.not_false, decide_true, decide_false, List.cons_append, List.nil_append, laws_FnGraphOrder.A1_x2]
  refine W.out' _ ?_ fun k j m => by first | rfl | dsimp only
  have hqwl := hS.lt
  have hSj : StrRow σj qw (rndOf l ++ pick (missP l) (l.take i)) := hS.keep (hkj qw hqwl)
  have rowOf : ∀ {τ : Heap}, StrRow τ qw (rndOf l ++ pick (missP l) (l.take i)) → ∃ ty, ∃ cs, τ[qw]? = some (some ⟨cs, 1, false, ty⟩) := fun h => by
    obtain ⟨ty, h⟩ := h
    exact ⟨ty, _, h⟩
  have hNdj : NdM σj qw σ6.length vt ((l.take i).map turn) := hNd.keep (rowOf hS) (fun j hne hj => ⟨hne, hkj j hj⟩) hlj
  have hel : GraphNode.Rep (σj.set qw none) [.str x.name, u] (turn x) := .mk (e := turn x) (Own.rep (hO.keep fun j hj => by rw [List.getElem?_set, if_neg (by omega)]))
  obtain ⟨vt', σ9, ha, hNd9, hq9, hl9, hk9⟩ := hNdj.app (by omega) (rowOf hSj) hel rfl (by simp; omega)
  refine B.bind ha ?_
  have hS9 : StrRow σ9 qw (rndOf l ++ pick (missP l) (l.take i)) := hSj.keep hq9
  have l69 : Lh σ6 σ9 := ⟨by omega, fun j row hj => by
    have := get_lt hj
    rw [hk9 j this, hkj j (by omega)]
    exact hL.row _ _ hj⟩
  have rn9 := up l69 rn6
  have ro9 := ro6.le l69
  obtain ⟨r9, o9', hv9, cs9, hr9, hP9⟩ := rn9.at' hx
  rw [hv] at hv9
  injection hv9 with hv9
  injection hv9 with hv9 hv9'
  subst hv9 hv9'
  cases hP9 with
  | mk p0 =>
  rename_i a9
  have e09 : rdc σ9 r (o + 0) 1 = some [.str x.name] := rdc_sub hr9 0 1 (by omega)
  have e19 : rdc σ9 r (o + 1) 1 = some [a9] := rdc_sub hr9 1 1 (by omega)
  try simp only [q_bind_some, castInt_int, q_castBool, q_castStr, q_castPtr, q_castFn, q_castAgg, q_castTuple, q_uncons, q_isNil, q_sl, q_nils, q_emp, q_ptr, q_nilp, q_fn, q_cond_true, q_cond_false, Bool.not_true, Bool.not_false, decide_true, decide_false, List.cons_append, List.nil_append, hv, e09]
  refine B.run (wgPlace_runs (by omega) ro9 x.name) ?_
  try simp only [q_bind_some, castInt_int, q_castBool, q_castStr, q_castPtr, q_castFn, q_castAgg, q_castTuple, q_uncons, q_isNil, q_sl, q_nils, q_emp, q_ptr, q_nilp, q_fn, q_cond_true, q_cond_false, Bool.not_true, Bool.not_false, decide_true, decide_false, List.cons_append, List.nil_append]
  have hpu : ∀ (j : Nat) uj, x.uses[j]? = some uj → 0 ≤ fidx (fun y => decide (y = x.name)) (orderOf l) → 0 ≤ fidx (fun y => decide (y = uj)) (orderOf l) ∧ fidx (fun y => decide (y = uj)) (orderOf l) < fidx (fun y => decide (y = x.name)) (orderOf l) := fun j uj hj h => place_lt hI hmem (List.mem_of_getElem? hj) h
  generalize fidx (fun y => decide (y = x.name)) (orderOf l) = at0 at hpu ⊢
  refine B.assoc ?_
  refine W.loop (S := Nat × Bool) (fun s => s.1 ≤ x.uses.length ∧ s.2 = (x.uses.take s.1).any (missU l)) (fun s => [.v w, .v vo, .v vw, .v vt', .v (.int .i64 (i : Int)), .v (.int .i64 at0), .v (.bool s.2), .v (.int .i64 (s.1 : Int))]) (fun _ => σ9) (fun s => x.uses.length - s.1) (fun ⟨j, miss⟩ hJ => ?_)
    (0, false) ⟨Nat.zero_le _, rfl⟩
  obtain ⟨hj, hmiss⟩ := hJ
  simp only at hj hmiss ⊢
  refine W.to (fun k _ => by rw [laws_FnGraphOrder.L2_step]) ?_
  try simp only [q_bind_some, castInt_int, q_castBool, q_castStr, q_castPtr, q_castFn, q_castAgg, q_castTuple, q_uncons, q_isNil, q_sl, q_nils, q_emp, q_ptr, q_nilp, q_fn, q_cond_true, q_cond_false, Bool.not_true, Bool.not_false, decide_true, decide_false, List.cons_append, List.nil_append, hv, e19]
  refine B.len p0 (B.ite (fun hlt3 => ?_) fun hlt3 => ?_)
  rotate_left
  · try simp only [q_bind_some, castInt_int, q_castBool, q_castStr, q_castPtr, q_castFn, q_castAgg, q_castTuple, q_uncons, q_isNil, q_sl, q_nils, q_emp, q_ptr, q_nilp, q_fn, q_cond_true, q_cond_false, Bool.not_true, Bool.not_false, decide_true, decide_false, List.cons_append, List.nil_append, laws_FnGraphOrder.A2_x4]
    refine W.out' _ ?_ fun k j m => by first | rfl | dsimp only
    rw [List.take_of_length_le (by omega)] at hmiss
    have hmp : missP l x = miss := hmiss.symm
    have emap : (l.take (i + 1)).map turn = (l.take i).map turn ++ [turn x] := by rw [take_next' hx, List.map_append]; rfl
    cases miss with
    | true =>
      try simp only [q_bind_some, castInt_int, q_castBool, q_castStr, q_castPtr, q_castFn, q_castAgg, q_castTuple, q_uncons, q_isNil, q_sl, q_nils, q_emp, q_ptr, q_nilp, q_fn, q_cond_true, q_cond_false, Bool.not_true, Bool.not_false, decide_true, decide_false, List.cons_append, List.nil_append, hv, e09]
      rw [hvw]
      obtain ⟨σA, hA, hSA, hlA, hkA⟩ := GrS.app (lim := lim) hS9 x.name (by omega)
      try simp only [q_bind_some, castInt_int, q_castBool, q_castStr, q_castPtr, q_castFn, q_castAgg, q_castTuple, q_uncons, q_isNil, q_sl, q_nils, q_emp, q_ptr, q_nilp, q_fn, q_cond_true, q_cond_false, Bool.not_true, Bool.not_false, decide_true, decide_false, List.cons_append, List.nil_append, hA, wrap_next hil (by omega)]
      have ew : rndOf l ++ pick (missP l) (l.take (i + 1)) = rndOf l ++ pick (missP l) (l.take i) ++ [x.name] := by rw [pick_yes hx hmp, List.append_assoc]
      refine W.again (i + 1, .sl σ9.length 0 (rndOf l ++ pick (missP l) (l.take i) ++ [x.name]).length false, vt', σA) ⟨by show i + 1 ≤ _; omega, ⟨σ9.length, false, by omega, by simp only; rw [ew], by simp only; rw [ew]; exact hSA, ?_⟩, ⟨by simp only; omega, fun j row hj => ?_⟩⟩ (by simp only; omega) rfl rfl
      · simp only
        rw [emap]
        exact hNd9.keep (rowOf hS9) (fun j hne hj => ⟨by omega, hkA j hne hj⟩) (by omega)
      · have h1 := get_lt hj
        have h2 := l69.len
        simp only
        rw [hkA j (by omega) (by omega)]
        exact l69.row _ _ hj
    | false =>
      try simp only [q_bind_some, castInt_int, q_castBool, q_castStr, q_castPtr, q_castFn, q_castAgg, q_castTuple, q_uncons, q_isNil, q_sl, q_nils, q_emp, q_ptr, q_nilp, q_fn, q_cond_true, q_cond_false, Bool.not_true, Bool.not_false, decide_true, decide_false, List.cons_append, List.nil_append, wrap_next hil (by omega)]
      have ew : pick (missP l) (l.take (i + 1)) = pick (missP l) (l.take i) := pick_no hx hmp
      exact W.again (i + 1, vw, vt', σ9) ⟨by show i + 1 ≤ _; omega, ⟨qw, lim, hqw, by simp only; rw [ew]; exact hvw, by simp only; rw [ew]; exact hS9, by simp only; rw [emap]; exact hNd9⟩, l69⟩ (by simp only; omega) rfl rfl
  have hjl : j < x.uses.length := by omega
  have hju : x.uses[j]? = some x.uses[j] := List.getElem?_eq_getElem hjl
  obtain ⟨r3, o3', hv3, cs3, hr3, hP3⟩ := p0.at' hju
  unfold StrRep at hP3
  subst hP3
  generalize x.uses[j] = uj at hju hr3
  try simp only [q_bind_some, castInt_int, q_castBool, q_castStr, q_castPtr, q_castFn, q_castAgg, q_castTuple, q_uncons, q_isNil, q_sl, q_nils, q_emp, q_ptr, q_nilp, q_fn, q_cond_true, q_cond_false, Bool.not_true, Bool.not_false, decide_true, decide_false, List.cons_append, List.nil_append, hv, e19, hv3, hr3]
  refine B.run (wgPlace_runs (by omega) ro9 uj) ?_
  try simp only [q_bind_some, castInt_int, q_castBool, q_castStr, q_castPtr, q_castFn, q_castAgg, q_castTuple, q_uncons, q_isNil, q_sl, q_nils, q_emp, q_ptr, q_nilp, q_fn, q_cond_true, q_cond_false, Bool.not_true, Bool.not_false, decide_true, decide_false, List.cons_append, List.nil_append]
  refine B.ite (fun hat => ?_) fun hat => ?_
  · obtain ⟨g1, g2⟩ := hpu j uj hju hat
    refine B.ite (fun hc => absurd hc (by omega)) fun _ => B.ite (fun hc => absurd hc (by omega)) fun _ => ?_
    refine B.assoc ?_
    refine W.loop (S := Nat × Bool) (fun s => s.1 ≤ l.length ∧ s.2 = (l.take s.1).any (fun m => decide (m.name = uj))) (fun s => [.v w, .v vo, .v vw, .v vt', .v (.int .i64 (i : Int)), .v (.int .i64 at0), .v (.bool miss), .v (.int .i64 (j : Int)), .v (.bool s.2), .v (.int .i64 (s.1 : Int))]) (fun _ => σ9) (fun s => l.length - s.1) (fun ⟨t2, th⟩ hK => ?_)
      (0, false) ⟨Nat.zero_le _, rfl⟩
    obtain ⟨ht2, hth⟩ := hK
    simp only at ht2 hth ⊢
    refine W.to (fun k _ => by rw [laws_FnGraphOrder.L3_step]) ?_
    refine B.len rn9 (B.ite (fun hlt4 => ?_) fun hlt4 => ?_)
    · have htl : t2 < l.length := by omega
      have hy : l[t2]? = some l[t2] := List.getElem?_eq_getElem htl
      have eany : (l.take (t2 + 1)).any (fun m => decide (m.name = uj)) = ((l.take t2).any (fun m => decide (m.name = uj)) || decide (l[t2].name = uj)) := by
        rw [take_next' hy, List.any_append]
        simp
      obtain ⟨r4, o4', hv4, cs4, hr4, hP4⟩ := rn9.at' hy
      generalize l[t2] = y at hy eany hP4
      cases hP4 with
      | mk z0 =>
      have e4 : rdc σ9 r4 (o4' + 0) 1 = some [.str y.name] := rdc_sub hr4 0 1 (by omega)
      cases th with
      | true =>
        try simp only [q_bind_some, castInt_int, q_castBool, q_castStr, q_castPtr, q_castFn, q_castAgg, q_castTuple, q_uncons, q_isNil, q_sl, q_nils, q_emp, q_ptr, q_nilp, q_fn, q_cond_true, q_cond_false, Bool.not_true, Bool.not_false, decide_true, decide_false, List.cons_append, List.nil_append, wrap_next htl (by omega)]
        exact W.again (t2 + 1, true) ⟨by show t2 + 1 ≤ _; omega, by simp only; rw [eany, ← hth]; rfl⟩ (by simp only; omega) rfl rfl
      | false =>
        try simp only [q_bind_some, castInt_int, q_castBool, q_castStr, q_castPtr, q_castFn, q_castAgg, q_castTuple, q_uncons, q_isNil, q_sl, q_nils, q_emp, q_ptr, q_nilp, q_fn, q_cond_true, q_cond_false, Bool.not_true, Bool.not_false, decide_true, decide_false, List.cons_append, List.nil_append, hv4, e4, hv, e19, hv3, hr3, wrap_next htl (by omega)]
        exact W.again (t2 + 1, decide (y.name = uj)) ⟨by show t2 + 1 ≤ _; omega, by simp only; rw [eany, ← hth]; rfl⟩ (by simp only; omega) rfl rfl
    · rw [List.take_of_length_le (by omega)] at hth
      try simp only [q_bind_some, castInt_int, q_castBool, q_castStr, q_castPtr, q_castFn, q_castAgg, q_castTuple, q_uncons, q_isNil, q_sl, q_nils, q_emp, q_ptr, q_nilp, q_fn, q_cond_true, q_cond_false, Bool.not_true, Bool.not_false, decide_true, decide_false, List.cons_append, List.nil_append, laws_FnGraphOrder.A3_x6]
      refine W.out' _ ?_ fun k j m => by first | rfl | dsimp only
      have eany : (x.uses.take (j + 1)).any (missU l) = ((x.uses.take j).any (missU l) || !th) := by
        rw [take_next' hju, List.any_append, hth]
        simp [missU]
      cases miss with
      | true =>
        try simp only [q_bind_some, castInt_int, q_castBool, q_castStr, q_castPtr, q_castFn, q_castAgg, q_castTuple, q_uncons, q_isNil, q_sl, q_nils, q_emp, q_ptr, q_nilp, q_fn, q_cond_true, q_cond_false, Bool.not_true, Bool.not_false, decide_true, decide_false, List.cons_append, List.nil_append, wrap_next hjl (by omega)]
        exact W.again (j + 1, true) ⟨by show j + 1 ≤ _; omega, by simp only; rw [eany, ← hmiss]; rfl⟩ (by simp only; omega) rfl rfl
      | false =>
        try simp only [q_bind_some, castInt_int, q_castBool, q_castStr, q_castPtr, q_castFn, q_castAgg, q_castTuple, q_uncons, q_isNil, q_sl, q_nils, q_emp, q_ptr, q_nilp, q_fn, q_cond_true, q_cond_false, Bool.not_true, Bool.not_false, decide_true, decide_false, List.cons_append, List.nil_append, wrap_next hjl (by omega)]
        exact W.again (j + 1, !th) ⟨by show j + 1 ≤ _; omega, by simp only; rw [eany, ← hmiss]; rfl⟩ (by simp only; omega) rfl rfl
  · refine B.assoc ?_
    refine W.loop (S := Nat × Bool) (fun s => s.1 ≤ l.length ∧ s.2 = (l.take s.1).any (fun m => decide (m.name = uj))) (fun s => [.v w, .v vo, .v vw, .v vt', .v (.int .i64 (i : Int)), .v (.int .i64 at0), .v (.bool miss), .v (.int .i64 (j : Int)), .v (.bool s.2), .v (.int .i64 (s.1 : Int))]) (fun _ => σ9) (fun s => l.length - s.1) (fun ⟨t2, th⟩ hK => ?_)
      (0, false) ⟨Nat.zero_le _, rfl⟩
    obtain ⟨ht2, hth⟩ := hK
    simp only at ht2 hth ⊢
    refine W.to (fun k _ => by rw [laws_FnGraphOrder.L3_step]) ?_
    refine B.len rn9 (B.ite (fun hlt4 => ?_) fun hlt4 => ?_)
    · have htl : t2 < l.length := by omega
      have hy : l[t2]? = some l[t2] := List.getElem?_eq_getElem htl
      have eany : (l.take (t2 + 1)).any (fun m => decide (m.name = uj)) = ((l.take t2).any (fun m => decide (m.name = uj)) || decide (l[t2].name = uj)) := by
        rw [take_next' hy, List.any_append]
        simp
      obtain ⟨r4, o4', hv4, cs4, hr4, hP4⟩ := rn9.at' hy
      generalize l[t2] = y at hy eany hP4
      cases hP4 with
      | mk z0 =>
      have e4 : rdc σ9 r4 (o4' + 0) 1 = some [.str y.name] := rdc_sub hr4 0 1 (by omega)
      cases th with
      | true =>
        try simp only [q_bind_some, castInt_int, q_castBool, q_castStr, q_castPtr, q_castFn, q_castAgg, q_castTuple, q_uncons, q_isNil, q_sl, q_nils, q_emp, q_ptr, q_nilp, q_fn, q_cond_true, q_cond_false, Bool.not_true, Bool.not_false, decide_true, decide_false, List.cons_append, List.nil_append, wrap_next htl (by omega)]
        exact W.again (t2 + 1, true) ⟨by show t2 + 1 ≤ _; omega, by simp only; rw [eany, ← hth]; rfl⟩ (by simp only; omega) rfl rfl
      | false =>
        try simp only [q_bind_some, castInt_int, q_castBool, q_castStr, q_castPtr, q_castFn, q_castAgg, q_castTuple, q_uncons, q_isNil, q_sl, q_nils, q_emp, q_ptr, q_nilp, q_fn, q_cond_true, q_cond_false, Bool.not_true, Bool.not_false, decide_true, decide_false, List.cons_append, List.nil_append, hv4, e4, hv, e19, hv3, hr3, wrap_next htl (by omega)]
        exact W.again (t2 + 1, decide (y.name = uj)) ⟨by show t2 + 1 ≤ _; omega, by simp only; rw [eany, ← hth]; rfl⟩ (by simp only; omega) rfl rfl
    · rw [List.take_of_length_le (by omega)] at hth
      try simp only [q_bind_some, castInt_int, q_castBool, q_castStr, q_castPtr, q_castFn, q_castAgg, q_castTuple, q_uncons, q_isNil, q_sl, q_nils, q_emp, q_ptr, q_nilp, q_fn, q_cond_true, q_cond_false, Bool.not_true, Bool.not_false, decide_true, decide_false, List.cons_append, List.nil_append, laws_FnGraphOrder.A3_x6]
      refine W.out' _ ?_ fun k j m => by first | rfl | dsimp only
      have eany : (x.uses.take (j + 1)).any (missU l) = ((x.uses.take j).any (missU l) || !th) := by
        rw [take_next' hju, List.any_append, hth]
        simp [missU]
      cases miss with
      | true =>
        try simp only [q_bind_some, castInt_int, q_castBool, q_castStr, q_castPtr, q_castFn, q_castAgg, q_castTuple, q_uncons, q_isNil, q_sl, q_nils, q_emp, q_ptr, q_nilp, q_fn, q_cond_true, q_cond_false, Bool.not_true, Bool.not_false, decide_true, decide_false, List.cons_append, List.nil_append, wrap_next hjl (by omega)]
        exact W.again (j + 1, true) ⟨by show j + 1 ≤ _; omega, by simp only; rw [eany, ← hmiss]; rfl⟩ (by simp only; omega) rfl rfl
      | false =>
        try simp only [q_bind_some, castInt_int, q_castBool, q_castStr, q_castPtr, q_castFn, q_castAgg, q_castTuple, q_uncons, q_isNil, q_sl, q_nils, q_emp, q_ptr, q_nilp, q_fn, q_cond_true, q_cond_false, Bool.not_true, Bool.not_false, decide_true, decide_false, List.cons_append, List.nil_append, wrap_next hjl (by omega)]
        exact W.again (j + 1, !th) ⟨by show j + 1 ≤ _; omega, by simp only; rw [eany, ← hmiss]; rfl⟩ (by simp only; omega) rfl rfl
end Go.B
