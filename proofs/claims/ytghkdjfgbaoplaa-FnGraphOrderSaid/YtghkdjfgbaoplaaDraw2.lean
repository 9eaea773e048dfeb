/- Drawn nodes. -/
import Derived.Test.YtghkdjfgbaoplaaRound
import Derived.Test.YtghkdjfgbaoplaaDraw
set_option linter.unusedVariables false
set_option linter.unusedSimpArgs false
namespace Go.B
open Go.HM Go.Proofs
theorem GraphNode.Rep.k1 {σ σ' : Heap} (k : K1 σ σ') {cs : List V} {x : GraphNode} (h : GraphNode.Rep σ cs x) : GraphNode.Rep σ' cs x := by
  cases h with
  | mk h0 => exact .mk (RepS.k1 h0 k)
theorem Chunks.imp {α : Type} {esz : Nat} {P Q : List V → α → Prop} {cs : List V} {l : List α} (h : Chunks esz P cs l) (f : ∀ cs x, P cs x → Q cs x) : Chunks esz Q cs l := ⟨h.1, fun i x hx => f _ _ (h.2 i x hx)⟩
/-- Nodes that grow, in a row of their own behind row r; their uses lie in φ. -/
def Nd (φ σ : Heap) (r : Nat) (v : V) (l : List GraphNode) : Prop :=
  ∃ q lim row, v = .sl q 0 l.length lim ∧ r < q ∧ q < φ.length ∧ σ[q]? = some (some row) ∧ row.ro = false ∧ row.esz = 2 ∧ Chunks 2 (GraphNode.Rep φ) row.cells l
theorem Nd.rep {φ σ : Heap} {r : Nat} {v : V} {l : List GraphNode} (h : Nd φ σ r v l) (k : K1 φ σ) : RepS 2 (GraphNode.Rep σ) σ v l := by
  obtain ⟨q, lim, row, rfl, h1, h2, h3, h4, h5, h6, h7⟩ := h
  exact .sl q 0 l.length lim row l rfl h3 h5 (by omega) fun i x hx => by rw [Nat.zero_add]; exact GraphNode.Rep.k1 k (h7 i x hx)
theorem Nd.off {u : V} {k : List Int} {p : Nat} {σ σ' : Heap} {r : Nat} {v : V} {l : List GraphNode} (h : Nd σ σ r v l) (d : Dr u k σ r p) (o : Off r σ σ') : Nd σ' σ' r v l := by
  obtain ⟨q, lim, row, h0, h1, h2, h3, h4, h5, h6⟩ := h
  exact ⟨q, lim, row, h0, h1, by rw [o.1]; exact h2, by rw [o.2 q (by omega)]; exact h3, h4, h5, Chunks.imp h6 fun _ _ h => GraphNode.Rep.k1 (K1.off d o) h⟩
theorem Nd.app {φ σ : Heap} {r : Nat} {v : V} {l ys : List GraphNode} {cs : List V} (h : Nd φ σ r v l) (k : K1 φ σ) (hc : Chunks 2 (GraphNode.Rep σ) cs ys) (hy : 1 ≤ ys.length) (hb : l.length + ys.length ≤ 1000) :
    ∃ v' σ', vappend 2 40 σ v ys.length cs = some (v', σ') ∧ Nd σ' σ' r v' (l ++ ys) ∧ K1 σ σ' ∧ ∀ j, j ≤ r → σ'[j]? = σ[j]? := by
  obtain ⟨q, lim, row, rfl, h1, h2, h3, h4, h5, h6⟩ := h
  have hlt := get_lt h3
  have hcond : row.esz = 2 ∧ 0 + l.length * 2 ≤ row.cells.length ∧ (l.length + ys.length) * 40 ≤ 2 ^ 46 ∧ l.length + ys.length ≤ 2 ^ 46 := ⟨h5, by have := h6.1; omega, by omega, by omega⟩
  have hcells : row.cells.take (l.length * 2) = row.cells := by rw [← h6.1]; exact List.take_length
  have h6' := Chunks.imp h6 fun _ _ h => GraphNode.Rep.k1 k h
  unfold vappend
  simp only [h3]
  rw [if_pos hcond]
  cases lim with
  | true =>
    rw [if_pos rfl, if_neg (by omega), List.drop_zero, hcells]
    have kk : K1 σ (hnew σ 2 (row.cells ++ cs)) := K1.lh (Lh.new _ _ _)
    refine ⟨_, _, rfl, ⟨σ.length, false, ⟨row.cells ++ cs, 2, false, 0⟩, by rw [List.length_append], by omega, by simp [hnew], by simp [hnew], rfl, rfl, Chunks.imp (h6'.append hc) fun _ _ h => GraphNode.Rep.k1 kk h⟩, kk, fun j hj => ?_⟩
    rw [hnew, List.getElem?_append_left (by omega)]
  | false =>
    rw [if_neg (by simp), if_pos ⟨h4, trivial⟩, hcells]
    have kk : K1 σ (hnew (σ.set q none) 2 (row.cells ++ cs)) := ⟨by simp [hnew], fun j row' hj he => by
      have := get_lt hj
      rw [hnew, List.getElem?_append_left (by simpa using this), List.getElem?_set, if_neg (fun hc => by
        subst hc
        rw [h3] at hj
        injection hj with hj; injection hj with hj
        subst hj
        omega)]
      exact hj⟩
    refine ⟨_, _, rfl, ⟨σ.length, false, ⟨row.cells ++ cs, 2, false, 0⟩, by rw [List.length_append], by omega, by simp [hnew], by simp [hnew], rfl, rfl, Chunks.imp (h6'.append hc) fun _ _ h => GraphNode.Rep.k1 kk h⟩, kk, fun j hj => ?_⟩
    rw [hnew, List.getElem?_append_left (by simp; omega), List.getElem?_set, if_neg (by omega)]
theorem Own.app {b : Nat} {σ : Heap} {u : V} {l : List ByteArray} (h : Own b σ u l) (hb : b ≤ σ.length) (s : ByteArray) (hl : l.length + 1 ≤ 1000) :
    ∃ u' σ', vappend 1 16 σ u 1 [.str s] = some (u', σ') ∧ Own b σ' u' (l ++ [s]) ∧ σ.length ≤ σ'.length ∧ (∀ j, j < b → σ'[j]? = σ[j]?) ∧ ∀ {β : Type} (K : Option β), one u' K = K := by
  rcases h with ⟨rfl, rfl⟩ | ⟨q, lim, hq, rfl, hS⟩
  · refine ⟨.sl σ.length 0 1 false, hnew σ 1 [.str s], by simp [vappend], .inr ⟨σ.length, false, hb, rfl, 0, by simp [hnew]⟩, by simp [hnew], fun j hj => ?_, fun K => rfl⟩
    rw [hnew, List.getElem?_append_left (by omega)]
  · obtain ⟨σ', ha, hS', hlen, hk⟩ := GrS.app (lim := lim) hS s (by omega)
    exact ⟨_, σ', ha, .inr ⟨σ.length, false, hb, rfl, hS'⟩, by omega, fun j hj => hk j (by omega) (by omega), fun K => rfl⟩
/-- While the uses of one node are drawn. -/
structure St (φ : Heap) (r : Nat) (v : V) (l : List GraphNode) (ub : V) (lb : List Int) (uses : List ByteArray) (u : V) (σ : Heap) (p : Nat) : Prop where
  own : Own φ.length σ u uses
  nd : Nd φ σ r v l
  k : K1 φ σ
  d : Dr ub lb σ r p
  hr : r < φ.length
  hb : RepS 1 U8P φ ub lb
theorem St.pick {φ : Heap} {r : Nat} {v : V} {l : List GraphNode} {ub : V} {lb : List Int} {uses : List ByteArray} {u : V} {σ : Heap} {p n : Nat} (s : St φ r v l ub lb uses u σ p) (hp : p ≤ 1000000) (hn : 1 ≤ n) (hn2 : n ≤ 1000000) :
    ∃ (i : Nat) (σ' : Heap), Runs G n_pspec_l23Rd_pick [.ptr r 0, .int .i64 (n : Int)] σ (.int .i64 (i : Int)) σ' ∧ i < n ∧ St φ r v l ub lb uses u σ' (p + 1) := by
  obtain ⟨i, σ', c, hi, d', o⟩ := pick_ends s.d hp hn hn2
  have hr := s.hr
  refine ⟨i, σ', c, hi, s.own.keep fun j hj => o.2 j (by omega), ?_, s.k.trans (K1.off s.d o), d', s.hr, s.hb⟩
  obtain ⟨q, lim, row, h0, h1, h2, h3, h4⟩ := s.nd
  exact ⟨q, lim, row, h0, h1, h2, by rw [o.2 q (by omega)]; exact h3, h4⟩
theorem St.app {φ : Heap} {r : Nat} {v : V} {l : List GraphNode} {ub : V} {lb : List Int} {uses : List ByteArray} {u : V} {σ : Heap} {p : Nat} (h : St φ r v l ub lb uses u σ p) (s : ByteArray) (hl : uses.length + 1 ≤ 1000) :
    ∃ u' σ', vappend 1 16 σ u 1 [.str s] = some (u', σ') ∧ St φ r v l ub lb (uses ++ [s]) u' σ' p ∧ ∀ {β : Type} (K : Option β), one u' K = K := by
  obtain ⟨u', σ', ha, ho, hlen, hk, h1⟩ := h.own.app h.k.1 s hl
  have kk : K1 φ σ' := ⟨Nat.le_trans h.k.1 hlen, fun j row hj he => by rw [hk j (get_lt hj)]; exact h.k.2 j row hj he⟩
  refine ⟨u', σ', ha, ⟨ho, ?_, kk, ?_, h.hr, h.hb⟩, h1⟩
  · obtain ⟨q, lim, row, h0, h1, h2, h3, h4⟩ := h.nd
    exact ⟨q, lim, row, h0, h1, h2, by rw [hk q h2]; exact h3, h4⟩
  · obtain ⟨ty, g1, g2, g3⟩ := h.d
    exact ⟨ty, by rw [hk r h.hr]; exact g1, RepS.k1 h.hb kk, g3⟩
def Small (x : GraphNode) : Prop := x.name.size ≤ 4 ∧ x.uses.length ≤ 5 ∧ ∀ s, s ∈ x.uses → s.size ≤ 4
theorem totS_small {α : Type} (f : α → Nat) (b : Nat) : ∀ (l : List α), (∀ x, x ∈ l → f x ≤ b) → totS f l ≤ l.length * b
  | [], _ => Nat.zero_le _
  | x :: l, h => by
    have h1 := h x (List.mem_cons_self ..)
    have h2 := totS_small f b l fun y hy => h y (List.mem_cons_of_mem _ hy)
    rw [totS, List.length_cons, Nat.succ_mul]
    omega
theorem Small.total {x : GraphNode} (h : Small x) : x.total ≤ 40 := by
  have h1 := totS_small ByteArray.size 4 x.uses h.2.2
  have h2 := h.1
  have h3 := h.2.1
  rw [GraphNode.total_eq]
  omega
theorem small_tot {l : List GraphNode} (hl : l.length ≤ 10) (h : ∀ x, x ∈ l → Small x) : l.length + totS GraphNode.total l ≤ 1048576 := by
  have := totS_small GraphNode.total 40 l fun x hx => (h x hx).total
  omega
def names9 : List ByteArray := [⟨#[97]⟩, ⟨#[98]⟩, ⟨#[99]⟩, ⟨#[100]⟩, ⟨#[101]⟩, ⟨#[102]⟩, ⟨#[103]⟩, ⟨#[104]⟩, ⟨#[105]⟩]
def names5 : List ByteArray := [⟨#[98]⟩, ⟨#[99]⟩, ⟨#[100]⟩, ⟨#[101]⟩, ⟨#[102]⟩]
theorem names9_size : ∀ s, s ∈ names9 → s.size ≤ 4 := by
  intro s hs
  simp only [names9, List.mem_cons, List.not_mem_nil, or_false] at hs
  rcases hs with rfl | rfl | rfl | rfl | rfl | rfl | rfl | rfl | rfl <;> decide
theorem nodes_eq (k : Nat) (a1 : V) (σ : Heap) : hcall G (k + 1) n_spec_l22Nodes [a1] σ = ((hcall G k n_pspec_l23Rd_pick [a1, .int .i64 8] (hnew (hnew σ 1 (names9.map .str)) 2 [])).bind fun q2 => castInt .i64 q2.1 fun n3 => (spec_l22Nodes.L0 k k [.v a1, .v (.sl σ.length 0 9 true), .v (.sl (hnew σ 1 (names9.map .str)).length 0 0 true), .v (.int .i64 (IntKind.wrap .i64 (1 + n3))), .v (.int .i64 0)] q2.2).bind (spec_l22Nodes.A0 k)) := by
  rw [spec_l22Nodes.eq]
  rfl
theorem nodes_ends {ub : V} {lb : List Int} {σ : Heap} {r p : Nat} (d : Dr ub lb σ r p) (hp : p ≤ 1000) :
    ∃ v σ' l, Runs G n_spec_l22Nodes [.ptr r 0] σ v σ' ∧ RepS 2 (GraphNode.Rep σ') σ' v l ∧ K1 σ σ' ∧ l.length ≤ 10 ∧ ∀ x, x ∈ l → Small x := by
  suffices hE : HM.Ends G n_spec_l22Nodes [.ptr r 0] σ (fun v σ' => ∃ l, RepS 2 (GraphNode.Rep σ') σ' v l ∧ K1 σ σ' ∧ l.length ≤ 10 ∧ ∀ x, x ∈ l → Small x) by
    obtain ⟨v, σ', ⟨l, hp⟩, hr⟩ := hE
    exact ⟨v, σ', l, hr, hp⟩
  obtain ⟨rowr, hrow, _⟩ := d.row
  have hrl := get_lt hrow
  refine HM.Ends.mk (W.to (fun k _ => nodes_eq k _ _) ?_)
  have l1 : Lh σ (hnew σ 1 (names9.map .str)) := Lh.new _ _ _
  have l2 : Lh (hnew σ 1 (names9.map .str)) (hnew (hnew σ 1 (names9.map .str)) 2 []) := Lh.new _ _ _
  have n1 : (hnew σ 1 (names9.map .str)).length = σ.length + 1 := by simp [hnew]
  have hN1 : RepS 1 StrRep (hnew σ 1 (names9.map .str)) (.sl σ.length 0 9 true) names9 := RepS.lit (P := StrRep) σ names9 .str (fun _ => rfl) true 9 rfl
  have hq2 : (hnew (hnew σ 1 (names9.map .str)) 2 [])[σ.length + 1]? = some (some ⟨[], 2, false, 0⟩) := by rw [← n1]; simp [hnew]
  have n2 : (hnew (hnew σ 1 (names9.map .str)) 2 []).length = σ.length + 2 := by simp [hnew]
  have d2 := d.le (l1.trans l2)
  have hN2 := hN1.le l2
  rw [n1]
  have k2 : K1 σ (hnew (hnew σ 1 (names9.map .str)) 2 []) := K1.lh (l1.trans l2)
  generalize hnew (hnew σ 1 (names9.map .str)) 2 [] = σ2 at d2 hN2 hq2 n2 k2 ⊢
  obtain ⟨i0, σ3, c3, hi0, d3, o3⟩ := pick_ends (n := 8) d2 (by omega) (by omega) (by omega)
  refine W.run c3 ?_
  have hN3 := d2.off hN2 o3
  have k3 := k2.trans (K1.off d2 o3)
  have e1 : IntKind.wrap .i64 (1 + (i0 : Int)) = ((1 + i0 : Nat) : Int) := by rw [wrap_id (by omega) (by omega)]; omega
  try simp only [q_bind_some, castInt_int, q_castBool, q_castStr, q_castPtr, q_castFn, q_castAgg, q_castTuple, q_uncons, q_isNil, q_sl, q_nils, q_emp, q_ptr, q_nilp, q_fn, q_cond_true, q_cond_false, Bool.not_true, Bool.not_false, decide_true, decide_false, List.cons_append, List.nil_append, e1]
  have hNd3 : Nd σ3 σ3 r (.sl (σ.length + 1) 0 0 true) [] := ⟨σ.length + 1, true, ⟨[], 2, false, 0⟩, rfl, by omega, by rw [o3.1]; omega, by rw [o3.2 _ (by omega)]; exact hq2, rfl, rfl, by simp, fun i x hx => by simp at hx⟩
  generalize hnn : 1 + i0 = n
  have hn1 : 1 ≤ n := by omega
  have hn8 : n ≤ 8 := by omega
  refine W.loop (S := Nat × List GraphNode × V × Heap × Nat) (fun s => s.1 ≤ n ∧ s.2.1.length = s.1 ∧ Nd s.2.2.2.1 s.2.2.2.1 r s.2.2.1 s.2.1 ∧ K1 σ3 s.2.2.2.1 ∧ Dr ub lb s.2.2.2.1 r s.2.2.2.2 ∧ s.2.2.2.2 ≤ 2000 + 50 * s.1 ∧ ∀ x, x ∈ s.2.1 → Small x)
    (fun s => [.v (.ptr r 0), .v (.sl σ.length 0 9 true), .v s.2.2.1, .v (.int .i64 (n : Int)), .v (.int .i64 (s.1 : Int))]) (fun s => s.2.2.2.1) (fun s => n - s.1) (fun ⟨i, l, v, σi, pi⟩ hI => ?_)
    (0, [], .sl (σ.length + 1) 0 0 true, σ3, p + 1) ⟨Nat.zero_le _, rfl, hNd3, K1.refl _, d3, by simp only; omega, fun x hx => by cases hx⟩
  obtain ⟨hi, hli, hNd, hk, hd, hpi, hsm⟩ := hI
  simp only at hi hli hNd hk hd hpi hsm ⊢
  refine W.to (fun k _ => by rw [spec_l22Nodes.L0_step]) ?_
  refine B.ite (fun hlt => ?_) fun hlt => ?_
  rotate_left
  · try simp only [q_bind_some, castInt_int, q_castBool, q_castStr, q_castPtr, q_castFn, q_castAgg, q_castTuple, q_uncons, q_isNil, q_sl, q_nils, q_emp, q_ptr, q_nilp, q_fn, q_cond_true, q_cond_false, Bool.not_true, Bool.not_false, decide_true, decide_false, List.cons_append, List.nil_append, spec_l22Nodes.A0_x0]
    obtain ⟨i5, σ5, c5, hi5, d5, o5⟩ := pick_ends (n := 24) hd (by omega) (by omega) (by omega)
    refine W.run c5 ?_
    try simp only [q_bind_some, castInt_int, q_castBool, q_castStr, q_castPtr, q_castFn, q_castAgg, q_castTuple, q_uncons, q_isNil, q_sl, q_nils, q_emp, q_ptr, q_nilp, q_fn, q_cond_true, q_cond_false, Bool.not_true, Bool.not_false, decide_true, decide_false, List.cons_append, List.nil_append]
    have hNd5 := hNd.off hd o5
    have k5 := (k3.trans hk).trans (K1.off hd o5)
    have hR5 := hNd5.rep (K1.refl _)
    have hl1 : 0 < l.length := by omega
    obtain ⟨r', o', hv, cs, hr, hP⟩ := hR5.at' (List.getElem?_eq_getElem hl1)
    have hs0 := hsm _ (List.getElem_mem hl1)
    have hx0 : l[0]? = some l[0] := List.getElem?_eq_getElem hl1
    generalize l[0] = x0 at hP hs0 hx0
    refine W.ite (fun h0 => ?_) fun h0 => W.ite (fun h1 => ?_) fun h1 => W.ite (fun h2 => ?_) fun h2 => W.ret ⟨l, hR5, k5, by omega, hsm⟩
    · cases hP with
      | mk q0 =>
      obtain ⟨v', σ', ha, hNd', kk, _⟩ := hNd5.app (ys := [x0]) (K1.refl _) (Chunks.one (P := GraphNode.Rep σ5) (.mk q0)) (by simp) (by simp; omega)
      have hv' : vidx 2 v 0 = some (r', o') := hv
      have ha' : vappend 2 40 σ5 v 1 [.str x0.name, _] = some (v', σ') := ha
      try simp only [q_bind_some, castInt_int, q_castBool, q_castStr, q_castPtr, q_castFn, q_castAgg, q_castTuple, q_uncons, q_isNil, q_sl, q_nils, q_emp, q_ptr, q_nilp, q_fn, q_cond_true, q_cond_false, Bool.not_true, Bool.not_false, decide_true, decide_false, List.cons_append, List.nil_append, hv', hr, ha']
      exact W.ret ⟨l ++ [x0], hNd'.rep (K1.refl _), k5.trans kk, by simp; omega, fun x hx => by
        rcases List.mem_append.1 hx with hx | hx
        · exact hsm x hx
        · simp at hx; subst hx; exact hs0⟩
    · obtain ⟨q, lim, row, hv0, g1, g2, g3, g4, g5, g6⟩ := hNd5
      subst hv0
      have hv' : vidx 2 (.sl q 0 l.length lim) 0 = some (q, 0) := by simp [vidx, hl1]
      have hgN : (hnew σ5 1 (names5.map .str))[q]? = some (some row) := by rw [hnew, List.getElem?_append_left g2]; exact g3
      have hw : wrc (hnew σ5 1 (names5.map .str)) q (0 + 1) [.sl σ5.length 0 5 true] = some ((hnew σ5 1 (names5.map .str)).set q (some { row with cells := setCells row.cells (0 + 1) [.sl σ5.length 0 5 true] })) := by
        have := g6.1
        simp only [wrc, hgN]
        rw [if_pos ⟨g4, by simp; omega⟩]
      have hw' : wrc (hnew σ5 1 [.str (⟨#[98]⟩ : ByteArray), .str (⟨#[99]⟩ : ByteArray), .str (⟨#[100]⟩ : ByteArray), .str (⟨#[101]⟩ : ByteArray), .str (⟨#[102]⟩ : ByteArray)]) q (0 + 1) [.sl σ5.length 0 5 true] = _ := hw
      try simp only [q_bind_some, castInt_int, q_castBool, q_castStr, q_castPtr, q_castFn, q_castAgg, q_castTuple, q_uncons, q_isNil, q_sl, q_nils, q_emp, q_ptr, q_nilp, q_fn, q_cond_true, q_cond_false, Bool.not_true, Bool.not_false, decide_true, decide_false, List.cons_append, List.nil_append, hv', hw']
      have kk : K1 (hnew σ5 1 (names5.map .str)) ((hnew σ5 1 (names5.map .str)).set q (some { row with cells := setCells row.cells (0 + 1) [.sl σ5.length 0 5 true] })) := ⟨by simp, fun j row' hj he => by
        rw [List.getElem?_set, if_neg (fun hc => by
          subst hc
          rw [hgN] at hj
          injection hj with hj; injection hj with hj
          subst hj
          omega)]
        exact hj⟩
      have k6 : K1 σ5 (hnew σ5 1 (names5.map .str)) := K1.lh (Lh.new _ _ _)
      have hN5 : RepS 1 StrRep (hnew σ5 1 (names5.map .str)) (.sl σ5.length 0 5 true) names5 := RepS.lit (P := StrRep) σ5 names5 .str (fun _ => rfl) true 5 rfl
      have hqs : q < (hnew σ5 1 (names5.map .str)).length := get_lt hgN
      refine W.ret ⟨l.set 0 ⟨x0.name, names5⟩, ?_, k5.trans (k6.trans kk), by simp; omega, fun x hx => ?_⟩
      · have hlen : (l.set 0 ⟨x0.name, names5⟩).length = l.length := by simp
        refine .sl q 0 l.length lim { row with cells := setCells row.cells (0 + 1) [.sl σ5.length 0 5 true] } _ hlen.symm (by rw [List.getElem?_set, if_pos rfl, if_pos hqs]) g5 (by
          show _ ≤ (setCells row.cells (0 + 1) [.sl σ5.length 0 5 true]).length
          rw [setCells_len, hlen]
          have := g6.1
          omega) fun i x hx => ?_
        have hk := k6.trans kk
        have hF := RepS.k1 hN5 kk
        show GraphNode.Rep _ (((setCells row.cells (0 + 1) [.sl σ5.length 0 5 true]).drop (0 + i * 2)).take 2) x
        generalize (hnew σ5 1 (names5.map .str)).set q (some { row with cells := setCells row.cells (0 + 1) [.sl σ5.length 0 5 true] }) = σF at hk hF ⊢
        obtain ⟨t1, t2⟩ := g6
        generalize row.cells = cl at t1 t2 ⊢
        have h0 := t2 0 x0 hx0
        rcases cl with _ | ⟨c0, _ | ⟨c1, rest⟩⟩
        · simp at t1; omega
        · simp at t1; omega
        have es : setCells (c0 :: c1 :: rest) (0 + 1) [.sl σ5.length 0 5 true] = c0 :: .sl σ5.length 0 5 true :: rest := rfl
        rw [es]
        cases i with
        | zero =>
          have e0 : x = ⟨x0.name, names5⟩ := by
            rw [List.getElem?_set, if_pos rfl, if_pos hl1] at hx
            injection hx with hx
            exact hx.symm
          subst e0
          have h0' : GraphNode.Rep σ5 [c0, c1] x0 := h0
          cases h0' with
          | mk q0 => exact GraphNode.Rep.mk (e := ⟨x0.name, names5⟩) hF
        | succ i =>
          have hx' : l[i + 1]? = some x := by
            rw [List.getElem?_set, if_neg (by omega)] at hx
            exact hx
          have h1 := GraphNode.Rep.k1 hk (t2 (i + 1) x hx')
          have e2 : (i + 1) * 2 = i * 2 + 1 + 1 := by omega
          rw [e2] at h1 ⊢
          rw [Nat.zero_add]
          exact h1
      · rcases List.mem_or_eq_of_mem_set hx with hx | hx
        · exact hsm x hx
        · subst hx
          exact ⟨hs0.1, by simp only [names5, List.length_cons, List.length_nil]; omega, fun s hs => names9_size s (by
            simp only [names5, List.mem_cons, List.not_mem_nil, or_false] at hs
            simp only [names9, List.mem_cons, List.not_mem_nil, or_false]
            rcases hs with rfl | rfl | rfl | rfl | rfl <;> simp)⟩
    · have hc : Chunks 2 (GraphNode.Rep σ5) [.str (⟨#[121]⟩ : ByteArray), .nils, .str (⟨#[122]⟩ : ByteArray), .nils] [⟨⟨#[121]⟩, []⟩, ⟨⟨#[122]⟩, []⟩] := ⟨rfl, fun i x hx => by
        match i, hx with
        | 0, hx => simp at hx; subst hx; exact .mk (e := ⟨⟨#[121]⟩, []⟩) .nils
        | 1, hx => simp at hx; subst hx; exact .mk (e := ⟨⟨#[122]⟩, []⟩) .nils
        | i + 2, hx => simp at hx⟩
      obtain ⟨v', σ', ha, hNd', kk, _⟩ := hNd5.app (K1.refl _) hc (by simp) (by simp; omega)
      have ha' : vappend 2 40 σ5 v 2 [.str (⟨#[121]⟩ : ByteArray), .nils, .str (⟨#[122]⟩ : ByteArray), .nils] = some (v', σ') := ha
      try simp only [q_bind_some, castInt_int, q_castBool, q_castStr, q_castPtr, q_castFn, q_castAgg, q_castTuple, q_uncons, q_isNil, q_sl, q_nils, q_emp, q_ptr, q_nilp, q_fn, q_cond_true, q_cond_false, Bool.not_true, Bool.not_false, decide_true, decide_false, List.cons_append, List.nil_append, ha']
      exact W.ret ⟨_, hNd'.rep (K1.refl _), k5.trans kk, by simp; omega, fun x hx => by
        rcases List.mem_append.1 hx with hx | hx
        · exact hsm x hx
        · simp at hx; rcases hx with rfl | rfl <;> exact ⟨by decide, by simp, fun s hs => by cases hs⟩⟩
  have hin : i < n := by omega
  have hNi := RepS.k1 hN3 hk
  have name : ∀ {σx : Heap} (t : Nat), K1 σi σx → t < 9 → ∃ r' o' s, vidx 1 (.sl σ.length 0 9 true) (t : Int) = some (r', o') ∧ rdc σx r' o' 1 = some [.str s] ∧ s.size ≤ 4 := fun {σx} t kx ht => by
    have ht9 : t < names9.length := ht
    obtain ⟨r', o', h1, cs, h2, h3⟩ := (RepS.k1 hNi kx).at' (List.getElem?_eq_getElem ht9)
    unfold StrRep at h3
    subst h3
    exact ⟨r', o', _, h1, h2, names9_size _ (List.getElem_mem ht9)⟩
  obtain ⟨r1, o1, s1, hv1, hr1, hz1⟩ := name i (K1.refl _) (by omega)
  try simp only [q_bind_some, castInt_int, q_castBool, q_castStr, q_castPtr, q_castFn, q_castAgg, q_castTuple, q_uncons, q_isNil, q_sl, q_nils, q_emp, q_ptr, q_nilp, q_fn, q_cond_true, q_cond_false, Bool.not_true, Bool.not_false, decide_true, decide_false, List.cons_append, List.nil_append, hv1, hr1]
  obtain ⟨i4, σ4, c4, hi4, d4, o4⟩ := pick_ends (n := 3) hd (by omega) (by omega) (by omega)
  refine B.run c4 ?_
  try simp only [q_bind_some, castInt_int, q_castBool, q_castStr, q_castPtr, q_castFn, q_castAgg, q_castTuple, q_uncons, q_isNil, q_sl, q_nils, q_emp, q_ptr, q_nilp, q_fn, q_cond_true, q_cond_false, Bool.not_true, Bool.not_false, decide_true, decide_false, List.cons_append, List.nil_append]
  have hNd4 := hNd.off hd o4
  have k4 := K1.off hd o4
  have hst : St σ4 r v l ub lb [] .nils σ4 (pi + 1) := ⟨.inl ⟨rfl, rfl⟩, hNd4, K1.refl _, d4, by
    obtain ⟨row, hr, _⟩ := d4.row
    exact get_lt hr, by obtain ⟨ty, _, hb, _⟩ := d4; exact hb⟩
  refine B.assoc ?_
  refine W.loop (S := Nat × List ByteArray × V × Heap × Nat) (fun s => s.1 + s.2.1.length ≤ 2 ∧ (∀ x, x ∈ s.2.1 → x.size ≤ 4) ∧ St σ4 r v l ub lb s.2.1 s.2.2.1 s.2.2.2.1 s.2.2.2.2 ∧ s.2.2.2.2 + 5 * s.1 ≤ pi + 11)
    (fun s => [.v (.ptr r 0), .v (.sl σ.length 0 9 true), .v v, .v (.int .i64 (n : Int)), .v (.int .i64 (i : Int)), .box [.str s1, s.2.2.1], .v (.int .i64 (s.1 : Int))]) (fun s => s.2.2.2.1) (fun s => s.1) (fun ⟨m, uses, u, σj, pj⟩ hJ => ?_)
    (i4, [], .nils, σ4, pi + 1) ⟨by simp only [List.length_nil]; omega, (fun x hx => by cases hx), hst, by simp only; omega⟩
  obtain ⟨hm, hus, hS, hpj⟩ := hJ
  simp only at hm hus hS hpj ⊢
  refine W.to (fun k _ => by rw [spec_l22Nodes.L1_step]) ?_
  refine B.ite (fun hm0 => ?_) fun hm0 => ?_
  rotate_left
  · try simp only [q_bind_some, castInt_int, q_castBool, q_castStr, q_castPtr, q_castFn, q_castAgg, q_castTuple, q_uncons, q_isNil, q_sl, q_nils, q_emp, q_ptr, q_nilp, q_fn, q_cond_true, q_cond_false, Bool.not_true, Bool.not_false, decide_true, decide_false, List.cons_append, List.nil_append, spec_l22Nodes.A1_x2]
    have hel : GraphNode.Rep σj [.str s1, u] ⟨s1, uses⟩ := .mk (e := ⟨s1, uses⟩) hS.own.rep
    obtain ⟨v', σ', ha, hNd', kk, hkk⟩ := hS.nd.app (ys := [⟨s1, uses⟩]) hS.k (Chunks.one (P := GraphNode.Rep σj) hel) (by simp) (by simp; omega)
    have ha' : vappend 2 40 σj v 1 [.str s1, u] = some (v', σ') := ha
    try simp only [q_bind_some, castInt_int, q_castBool, q_castStr, q_castPtr, q_castFn, q_castAgg, q_castTuple, q_uncons, q_isNil, q_sl, q_nils, q_emp, q_ptr, q_nilp, q_fn, q_cond_true, q_cond_false, Bool.not_true, Bool.not_false, decide_true, decide_false, List.cons_append, List.nil_append, ha', wrap_next hin (by omega)]
    refine W.out' _ (W.again (i + 1, l ++ [⟨s1, uses⟩], v', σ', pj) ⟨by show i + 1 ≤ n; omega, by simp [hli], hNd', hk.trans (k4.trans (hS.k.trans kk)), ?_, by simp only; omega, fun x hx => ?_⟩ (by simp only; omega) rfl rfl) fun k j m => rfl
    · obtain ⟨ty, g1, g2, g3⟩ := hS.d
      exact ⟨ty, by rw [hkk r (Nat.le_refl _)]; exact g1, RepS.k1 g2 kk, g3⟩
    · simp only at hx
      rcases List.mem_append.1 hx with hx | hx
      · exact hsm x hx
      · simp at hx
        subst hx
        exact ⟨hz1, by simp only; omega, hus⟩
  have hm1 : 1 ≤ m := by omega
  obtain ⟨j2, σa, ca, hj2, sa⟩ := hS.pick (n := n) (by omega) hn1 (by omega)
  refine B.run ca ?_
  have kk : ∀ {σx : Heap} {us : List ByteArray} {ux : V} {px : Nat}, St σ4 r v l ub lb us ux σx px → K1 σi σx := fun s => k4.trans s.k
  obtain ⟨r2, o2, s2, hv2, hr2, hz2⟩ := name j2 (kk sa) (by omega)
  try simp only [q_bind_some, castInt_int, q_castBool, q_castStr, q_castPtr, q_castFn, q_castAgg, q_castTuple, q_uncons, q_isNil, q_sl, q_nils, q_emp, q_ptr, q_nilp, q_fn, q_cond_true, q_cond_false, Bool.not_true, Bool.not_false, decide_true, decide_false, List.cons_append, List.nil_append, hv2, hr2]
  obtain ⟨j3, σb, cb, hj3, sb⟩ := sa.pick (n := 3) (by omega) (by omega) (by omega)
  refine B.run cb ?_
  try simp only [q_bind_some, castInt_int, q_castBool, q_castStr, q_castPtr, q_castFn, q_castAgg, q_castTuple, q_uncons, q_isNil, q_sl, q_nils, q_emp, q_ptr, q_nilp, q_fn, q_cond_true, q_cond_false, Bool.not_true, Bool.not_false, decide_true, decide_false, List.cons_append, List.nil_append]
  have em : IntKind.wrap .i64 ((m : Int) - 1) = ((m - 1 : Nat) : Int) := by rw [wrap_id (by omega) (by omega)]; omega
  have none4 : (⟨#[110, 111, 110, 101]⟩ : ByteArray).size ≤ 4 := by decide
  have more : ∀ {s : ByteArray} {u' : V} {σ' : Heap} {px : Nat}, s.size ≤ 4 → St σ4 r v l ub lb (uses ++ [s]) u' σ' px → px ≤ pj + 5 → (m - 1) + (uses ++ [s]).length ≤ 2 ∧ (∀ x, x ∈ uses ++ [s] → x.size ≤ 4) ∧ St σ4 r v l ub lb (uses ++ [s]) u' σ' px ∧ px + 5 * (m - 1) ≤ pi + 11 := fun hz hs hpx => ⟨by simp; omega, fun x hx => by
    rcases List.mem_append.1 hx with hx | hx
    · exact hus x hx
    · simp at hx; subst hx; exact hz, hs, by omega⟩
  have ul : uses.length + 1 ≤ 1000 := by omega
  refine B.ite (fun hc => ?_) fun hc => ?_
  · refine B.ite (fun hc2 => ?_) fun hc2 => ?_
    · obtain ⟨j4, σc, cc, hj4, sc⟩ := sb.pick (n := i) (by omega) (by omega) (by omega)
      refine B.run cc ?_
      obtain ⟨r3, o3', s3, hv3, hr3, hz3⟩ := name j4 (kk sc) (by omega)
      try simp only [q_bind_some, castInt_int, q_castBool, q_castStr, q_castPtr, q_castFn, q_castAgg, q_castTuple, q_uncons, q_isNil, q_sl, q_nils, q_emp, q_ptr, q_nilp, q_fn, q_cond_true, q_cond_false, Bool.not_true, Bool.not_false, decide_true, decide_false, List.cons_append, List.nil_append, hv3, hr3]
      obtain ⟨j5, σd, cd, hj5, sd⟩ := sc.pick (n := 16) (by omega) (by omega) (by omega)
      refine B.run cd ?_
      try simp only [q_bind_some, castInt_int, q_castBool, q_castStr, q_castPtr, q_castFn, q_castAgg, q_castTuple, q_uncons, q_isNil, q_sl, q_nils, q_emp, q_ptr, q_nilp, q_fn, q_cond_true, q_cond_false, Bool.not_true, Bool.not_false, decide_true, decide_false, List.cons_append, List.nil_append]
      refine B.ite (fun _ => ?_) fun _ => ?_
      · obtain ⟨u', σ', ha, hs, h1⟩ := sd.app ⟨#[110, 111, 110, 101]⟩ ul
        try simp only [q_bind_some, castInt_int, q_castBool, q_castStr, q_castPtr, q_castFn, q_castAgg, q_castTuple, q_uncons, q_isNil, q_sl, q_nils, q_emp, q_ptr, q_nilp, q_fn, q_cond_true, q_cond_false, Bool.not_true, Bool.not_false, decide_true, decide_false, List.cons_append, List.nil_append, ha, h1, em]
        exact W.again (m - 1, _, u', σ', _) (more none4 hs (by show pj + 1 + 1 + 1 + 1 ≤ pj + 5; omega)) (by simp only; omega) rfl rfl
      · obtain ⟨u', σ', ha, hs, h1⟩ := sd.app s3 ul
        try simp only [q_bind_some, castInt_int, q_castBool, q_castStr, q_castPtr, q_castFn, q_castAgg, q_castTuple, q_uncons, q_isNil, q_sl, q_nils, q_emp, q_ptr, q_nilp, q_fn, q_cond_true, q_cond_false, Bool.not_true, Bool.not_false, decide_true, decide_false, List.cons_append, List.nil_append, ha, h1, em]
        exact W.again (m - 1, _, u', σ', _) (more hz3 hs (by show pj + 1 + 1 + 1 + 1 ≤ pj + 5; omega)) (by simp only; omega) rfl rfl
    · obtain ⟨j5, σd, cd, hj5, sd⟩ := sb.pick (n := 16) (by omega) (by omega) (by omega)
      refine B.run cd ?_
      try simp only [q_bind_some, castInt_int, q_castBool, q_castStr, q_castPtr, q_castFn, q_castAgg, q_castTuple, q_uncons, q_isNil, q_sl, q_nils, q_emp, q_ptr, q_nilp, q_fn, q_cond_true, q_cond_false, Bool.not_true, Bool.not_false, decide_true, decide_false, List.cons_append, List.nil_append]
      refine B.ite (fun _ => ?_) fun _ => ?_
      · obtain ⟨u', σ', ha, hs, h1⟩ := sd.app ⟨#[110, 111, 110, 101]⟩ ul
        try simp only [q_bind_some, castInt_int, q_castBool, q_castStr, q_castPtr, q_castFn, q_castAgg, q_castTuple, q_uncons, q_isNil, q_sl, q_nils, q_emp, q_ptr, q_nilp, q_fn, q_cond_true, q_cond_false, Bool.not_true, Bool.not_false, decide_true, decide_false, List.cons_append, List.nil_append, ha, h1, em]
        exact W.again (m - 1, _, u', σ', _) (more none4 hs (by show pj + 1 + 1 + 1 ≤ pj + 5; omega)) (by simp only; omega) rfl rfl
      · obtain ⟨u', σ', ha, hs, h1⟩ := sd.app s2 ul
        try simp only [q_bind_some, castInt_int, q_castBool, q_castStr, q_castPtr, q_castFn, q_castAgg, q_castTuple, q_uncons, q_isNil, q_sl, q_nils, q_emp, q_ptr, q_nilp, q_fn, q_cond_true, q_cond_false, Bool.not_true, Bool.not_false, decide_true, decide_false, List.cons_append, List.nil_append, ha, h1, em]
        exact W.again (m - 1, _, u', σ', _) (more hz2 hs (by show pj + 1 + 1 + 1 ≤ pj + 5; omega)) (by simp only; omega) rfl rfl
  · obtain ⟨j5, σd, cd, hj5, sd⟩ := sb.pick (n := 16) (by omega) (by omega) (by omega)
    refine B.run cd ?_
    try simp only [q_bind_some, castInt_int, q_castBool, q_castStr, q_castPtr, q_castFn, q_castAgg, q_castTuple, q_uncons, q_isNil, q_sl, q_nils, q_emp, q_ptr, q_nilp, q_fn, q_cond_true, q_cond_false, Bool.not_true, Bool.not_false, decide_true, decide_false, List.cons_append, List.nil_append]
    refine B.ite (fun _ => ?_) fun _ => ?_
    · obtain ⟨u', σ', ha, hs, h1⟩ := sd.app ⟨#[110, 111, 110, 101]⟩ ul
      try simp only [q_bind_some, castInt_int, q_castBool, q_castStr, q_castPtr, q_castFn, q_castAgg, q_castTuple, q_uncons, q_isNil, q_sl, q_nils, q_emp, q_ptr, q_nilp, q_fn, q_cond_true, q_cond_false, Bool.not_true, Bool.not_false, decide_true, decide_false, List.cons_append, List.nil_append, ha, h1, em]
      exact W.again (m - 1, _, u', σ', _) (more none4 hs (by show pj + 1 + 1 + 1 ≤ pj + 5; omega)) (by simp only; omega) rfl rfl
    · obtain ⟨u', σ', ha, hs, h1⟩ := sd.app s2 ul
      try simp only [q_bind_some, castInt_int, q_castBool, q_castStr, q_castPtr, q_castFn, q_castAgg, q_castTuple, q_uncons, q_isNil, q_sl, q_nils, q_emp, q_ptr, q_nilp, q_fn, q_cond_true, q_cond_false, Bool.not_true, Bool.not_false, decide_true, decide_false, List.cons_append, List.nil_append, ha, h1, em]
      exact W.again (m - 1, _, u', σ', _) (more hz2 hs (by show pj + 1 + 1 + 1 ≤ pj + 5; omega)) (by simp only; omega) rfl rfl
end Go.B
