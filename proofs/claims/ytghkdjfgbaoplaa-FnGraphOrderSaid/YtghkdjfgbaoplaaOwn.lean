/- Results of one's own: lists of texts. -/
import Derived.Test.YtghkdjfgbaoplaaGraph2
set_option linter.unusedVariables false
set_option linter.unusedSimpArgs false
namespace Go.B
open Go.HM Go.Proofs
def Own (b : Nat) (σ : Heap) (v : V) (l : List ByteArray) : Prop := (v = .nils ∧ l = []) ∨ GrS b σ v l
theorem Own.rep {b : Nat} {σ : Heap} {v : V} {l : List ByteArray} (h : Own b σ v l) : RepS 1 StrRep σ v l := by
  rcases h with ⟨rfl, rfl⟩ | h
  · exact .nils
  · exact h.rep fun _ => rfl
theorem Own.le {b : Nat} {σ σ' : Heap} {v : V} {l : List ByteArray} (h : Own b σ v l) (hl : Lh σ σ') : Own b σ' v l := by
  rcases h with h | h
  · exact .inl h
  · exact .inr (h.le hl)
theorem Own.keep {b : Nat} {σ σ' : Heap} {v : V} {l : List ByteArray} (h : Own b σ v l) (hl : ∀ j, b ≤ j → σ'[j]? = σ[j]?) : Own b σ' v l := by
  rcases h with h | ⟨q, lim, hq, hv, hS⟩
  · exact .inl h
  · exact .inr ⟨q, lim, hq, hv, hS.keep (hl q hq)⟩
theorem order_len (l : List GraphNode) : ∀ (n : Nat) (out : List ByteArray), cnt l out ≤ n → (order l out).length ≤ out.length + cnt l out := by
  intro n
  induction n with
  | zero =>
    intro out h
    cases hf : l.find? (ready out) with
    | none => rw [order_none hf]; omega
    | some x =>
      have := cnt_lt (List.mem_of_find?_eq_some hf) (ready_not (List.find?_some hf))
      omega
  | succ n ih =>
    intro out h
    cases hf : l.find? (ready out) with
    | none => rw [order_none hf]; omega
    | some x =>
      have h1 := cnt_lt (List.mem_of_find?_eq_some hf) (ready_not (List.find?_some hf))
      have h2 := ih (out ++ [x.name]) (by omega)
      rw [order_some hf]
      simp only [List.length_append, List.length_singleton] at h2
      omega
noncomputable def orderOf (l : List GraphNode) : List ByteArray := if GrOk l then order l [] else []
theorem orderOf_len (l : List GraphNode) : (orderOf l).length ≤ l.length := by
  unfold orderOf
  split
  · have := order_len l _ [] (Nat.le_refl _)
    have h2 := cnt_le l []
    simp only [List.length_nil] at this
    omega
  · exact Nat.zero_le _
theorem specGraphOrder_own {σ : Heap} {v : V} {l : List GraphNode} (hf : l.length + totS GraphNode.total l ≤ 1048576) (h : RepS 2 (GraphNode.Rep σ) σ v l) :
    ∃ u σ', Runs G n_spec_GraphOrder [v] σ u σ' ∧ Lh σ σ' ∧ Own σ.length σ' u (orderOf l) := by
  obtain ⟨u, σ', c, hl, hg⟩ := specGraphOrder_ends hf h
  exact ⟨u, σ', c, hl, .inr hg⟩
theorem implGraphOrder_own {σ : Heap} {v : V} {l : List GraphNode} (hf : l.length + totS GraphNode.total l ≤ 1048576) (h : RepS 2 (GraphNode.Rep σ) σ v l) :
    ∃ u σ', Runs G n_impl_GraphOrder [v] σ u σ' ∧ Lh σ σ' ∧ Own σ.length σ' u (orderOf l) := by
  obtain ⟨u, σ', c, hl, hg⟩ := implGraphOrder_ends hf h
  refine ⟨u, σ', c, hl, ?_⟩
  rcases hg with ⟨rfl, hn⟩ | ⟨hy, hg⟩
  · exact .inl ⟨rfl, by rw [orderOf, if_neg hn]⟩
  · refine .inr ?_
    rw [orderOf, if_pos hy]
    exact hg
end Go.B
