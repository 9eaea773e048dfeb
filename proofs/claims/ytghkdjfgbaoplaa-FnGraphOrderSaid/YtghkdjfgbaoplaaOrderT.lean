/- Nodes turned round; nodes that grow beside a list of texts that grows. -/
import Derived.Test.YtghkdjfgbaoplaaOrderM
set_option linter.unusedVariables false
set_option linter.unusedSimpArgs false
namespace Go.B
open Go.HM Go.Proofs
def turn (n : GraphNode) : GraphNode := ⟨n.name, n.uses.reverse⟩
theorem ready_turn (out : List ByteArray) (n : GraphNode) : ready out (turn n) = ready out n := by
  unfold ready turn
  congr 1
  rw [Bool.eq_iff_iff]
  simp
theorem find_turn (l : List GraphNode) (out : List ByteArray) : (l.map turn).find? (ready out) = (l.find? (ready out)).map turn := by
  induction l with
  | nil => rfl
  | cons x l ih =>
    rw [List.map_cons, List.find?_cons, List.find?_cons, ready_turn]
    cases ready out x with
    | true => rfl
    | false => exact ih
theorem order_turn (l : List GraphNode) : ∀ (k : Nat) (out : List ByteArray), cnt l out ≤ k → order (l.map turn) out = order l out := by
  intro k
  induction k with
  | zero =>
    intro out h
    cases hf : l.find? (ready out) with
    | none => rw [order_none hf, order_none (by rw [find_turn, hf]; rfl)]
    | some x =>
      have := cnt_lt (List.mem_of_find?_eq_some hf) (ready_not (List.find?_some hf))
      omega
  | succ k ih =>
    intro out h
    cases hf : l.find? (ready out) with
    | none => rw [order_none hf, order_none (by rw [find_turn, hf]; rfl)]
    | some x =>
      have h1 := cnt_lt (List.mem_of_find?_eq_some hf) (ready_not (List.find?_some hf))
      have e : (l.map turn).find? (ready out) = some (turn x) := by rw [find_turn, hf]; rfl
      rw [order_some hf, order_some e]
      exact ih _ (by show cnt l (out ++ [x.name]) ≤ k; omega)
theorem grOk_turn {l : List GraphNode} (h : GrOk l) : GrOk (l.map turn) := by
  refine ⟨by simpa using h.1, fun i x hx => ?_⟩
  rw [List.getElem?_map] at hx
  obtain ⟨y, hy, rfl⟩ := Option.map_eq_some_iff.1 hx
  obtain ⟨h1, h2⟩ := h.2 i y hy
  refine ⟨by simpa [turn] using h1, fun z hi hz => ?_⟩
  rw [List.getElem?_map] at hz
  obtain ⟨w, hw, rfl⟩ := Option.map_eq_some_iff.1 hz
  exact h2 w hi hw
theorem orderOf_turn {l : List GraphNode} (h : GrOk l) : orderOf (l.map turn) = orderOf l := by
  unfold orderOf
  rw [if_pos h, if_pos (grOk_turn h)]
  exact order_turn l _ [] (Nat.le_refl _)
/-- Nodes that grow in a row from b on; their uses don't lie in row qw. -/
def NdM (σ : Heap) (qw b : Nat) (v : V) (l : List GraphNode) : Prop :=
  ∃ q lim row, v = .sl q 0 l.length lim ∧ b ≤ q ∧ σ[q]? = some (some row) ∧ row.ro = false ∧ row.esz = 2 ∧ Chunks 2 (GraphNode.Rep (σ.set qw none)) row.cells l
theorem k1_mask (σ : Heap) (qw : Nat) : K1 (σ.set qw none) σ := ⟨by simp, fun j row hj _ => by
  rw [List.getElem?_set] at hj
  split at hj
  · first | cases hj | (split at hj <;> cases hj)
  · exact hj⟩
theorem NdM.rep {σ : Heap} {qw b : Nat} {v : V} {l : List GraphNode} (h : NdM σ qw b v l) : RepS 2 (GraphNode.Rep σ) σ v l := by
  obtain ⟨q, lim, row, rfl, h1, h3, h4, h5, h6, h7⟩ := h
  exact .sl q 0 l.length lim row l rfl h3 h5 (by omega) fun i x hx => by rw [Nat.zero_add]; exact GraphNode.Rep.k1 (k1_mask σ qw) (h7 i x hx)
/-- Rows but one stay, and there the masks differ. -/
theorem NdM.keep {σ σ' : Heap} {qw qw' b : Nat} {v : V} {l : List GraphNode} (h : NdM σ qw b v l) (hrow : ∃ ty, ∃ cs, σ[qw]? = some (some ⟨cs, 1, false, ty⟩)) (hk : ∀ j, j ≠ qw → j < σ.length → j ≠ qw' ∧ σ'[j]? = σ[j]?) (hl : σ.length ≤ σ'.length) : NdM σ' qw' b v l := by
  obtain ⟨q, lim, row, h0, h1, h3, h4, h5, h6⟩ := h
  have hq : q ≠ qw := fun hc => by
    obtain ⟨ty, cs, hr⟩ := hrow
    subst hc
    rw [hr] at h3
    injection h3 with h3; injection h3 with h3
    subst h3
    simp at h5
  refine ⟨q, lim, row, h0, h1, by rw [(hk q hq (get_lt h3)).2]; exact h3, h4, h5, Chunks.imp h6 fun cs x hx => GraphNode.Rep.k1 ⟨by simpa using hl, fun j row hj he => ?_⟩ hx⟩
  rw [List.getElem?_set] at hj
  split at hj
  · first | cases hj | (split at hj <;> cases hj)
  · rename_i hne
    obtain ⟨k1, k2⟩ := hk j (Ne.symm hne) (get_lt hj)
    rw [List.getElem?_set, if_neg (Ne.symm k1), k2]
    exact hj
theorem NdM.app {σ : Heap} {qw b : Nat} {v : V} {l : List GraphNode} {cs : List V} {x : GraphNode} (h : NdM σ qw b v l) (hb : b ≤ σ.length) (hrow : ∃ ty, ∃ cs, σ[qw]? = some (some ⟨cs, 1, false, ty⟩)) (hc : GraphNode.Rep (σ.set qw none) cs x) (hcl : cs.length = 2) (hl : l.length + 1 ≤ 1000) :
    ∃ v' σ', vappend 2 40 σ v 1 cs = some (v', σ') ∧ NdM σ' qw b v' (l ++ [x]) ∧ σ'[qw]? = σ[qw]? ∧ σ'.length = σ.length + 1 ∧ ∀ j, j < b → σ'[j]? = σ[j]? := by
  obtain ⟨ty, cw, hrw⟩ := hrow
  have hqwl := get_lt hrw
  obtain ⟨q, lim, row, rfl, h1, h3, h4, h5, h6⟩ := h
  have hlt := get_lt h3
  have hq : qw ≠ q := fun hc => by
    subst hc
    rw [hrw] at h3
    injection h3 with h3; injection h3 with h3
    subst h3
    simp at h5
  have hcond : row.esz = 2 ∧ 0 + l.length * 2 ≤ row.cells.length ∧ (l.length + 1) * 40 ≤ 2 ^ 46 ∧ l.length + 1 ≤ 2 ^ 46 := ⟨h5, by have := h6.1; omega, by omega, by omega⟩
  have hcells : row.cells.take (l.length * 2) = row.cells := by rw [← h6.1]; exact List.take_length
  have hch : Chunks 2 (GraphNode.Rep (σ.set qw none)) cs [x] := by rw [← hcl]; exact Chunks.one hc
  unfold vappend
  simp only [h3]
  rw [if_pos hcond]
  cases lim with
  | true =>
    rw [if_pos rfl, if_neg (by omega), List.drop_zero, hcells]
    have kk : K1 (σ.set qw none) ((hnew σ 2 (row.cells ++ cs)).set qw none) := ⟨by simp [hnew], fun j row' hj he => by
      rw [List.getElem?_set] at hj
      split at hj
      · first | cases hj | (split at hj <;> cases hj)
      · rename_i hne
        rw [List.getElem?_set, if_neg hne, hnew, List.getElem?_append_left (get_lt hj)]
        exact hj⟩
    refine ⟨_, _, rfl, ⟨σ.length, false, ⟨row.cells ++ cs, 2, false, 0⟩, by simp, hb, by simp [hnew], rfl, rfl, Chunks.imp (h6.append hch) fun _ _ h => GraphNode.Rep.k1 kk h⟩, ?_, by simp [hnew], fun j hj => ?_⟩
    · rw [hnew, List.getElem?_append_left hqwl]
    · rw [hnew, List.getElem?_append_left (by omega)]
  | false =>
    rw [if_neg (by simp), if_pos ⟨h4, trivial⟩, hcells]
    have kk : K1 (σ.set qw none) ((hnew (σ.set q none) 2 (row.cells ++ cs)).set qw none) := ⟨by simp [hnew], fun j row' hj he => by
      rw [List.getElem?_set] at hj
      split at hj
      · first | cases hj | (split at hj <;> cases hj)
      · rename_i hne
        have := get_lt hj
        rw [List.getElem?_set, if_neg hne, hnew, List.getElem?_append_left (by simpa using this), List.getElem?_set, if_neg (fun hc => by
          subst hc
          rw [h3] at hj
          injection hj with hj; injection hj with hj
          subst hj
          omega)]
        exact hj⟩
    refine ⟨_, _, rfl, ⟨σ.length, false, ⟨row.cells ++ cs, 2, false, 0⟩, by simp, hb, by simp [hnew], rfl, rfl, Chunks.imp (h6.append hch) fun _ _ h => GraphNode.Rep.k1 kk h⟩, ?_, by simp [hnew], fun j hj => ?_⟩
    · rw [hnew, List.getElem?_append_left (by simpa using hqwl), List.getElem?_set, if_neg (Ne.symm hq)]
    · rw [hnew, List.getElem?_append_left (by simp; omega), List.getElem?_set, if_neg (by omega)]
/-- One text more, while row r is under protection. -/
theorem Own.appProt {b r : Nat} {σ : Heap} {u : V} {l : List ByteArray} {row : Row} (h : Own b σ u l) (hb : b ≤ σ.length) (hr : r < b) (hrow : σ[r]? = some (some row)) (s : ByteArray) (hl : l.length + 1 ≤ 1000) :
    ∃ u' σ', vappend 1 16 (prot [r] σ) u 1 [.str s] = some (u', σ') ∧ Own b (unprot [r] σ σ') u' (l ++ [s]) ∧ σ.length ≤ (unprot [r] σ σ').length ∧ (∀ j, j < b → (unprot [r] σ σ')[j]? = σ[j]?) ∧ ∀ {β : Type} (K : Option β), one u' K = K := by
  have ep : prot [r] σ = σ.set r (some ⟨row.cells, row.esz, true, row.ty⟩) := toRo_set hrow
  have h' : Own b (prot [r] σ) u l := h.keep fun j hj => by rw [ep, List.getElem?_set, if_neg (by omega)]
  obtain ⟨u', σ', ha, ho, hlen, hk, h1⟩ := h'.app (by rw [prot1_len]; exact hb) s hl
  rw [prot1_len] at hlen
  have eu : unprot [r] σ σ' = σ'.set r (some row) := by
    show back σ σ' r = _
    unfold back
    rw [hrow]
  refine ⟨u', σ', ha, ho.keep fun j hj => unprot1_get _ _ (by omega), by rw [eu]; simpa using hlen, fun j hj => ?_, h1⟩
  rw [eu, List.getElem?_set]
  by_cases hjr : r = j
  · subst hjr
    rw [if_pos rfl, if_pos (by omega), hrow]
  · rw [if_neg hjr, hk j hj, ep, List.getElem?_set, if_neg hjr]
end Go.B
