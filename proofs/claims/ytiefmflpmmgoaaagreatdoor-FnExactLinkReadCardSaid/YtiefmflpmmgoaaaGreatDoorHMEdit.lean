/- An element of a row of one's own is edited in place, its own rows with it. -/
import Derived.Test.YtiefmflpmmgoaaaGreatDoorHMOwn
set_option linter.unusedVariables false
set_option linter.unusedSimpArgs false
namespace Go.HM
theorem at_split {α : Type} : ∀ {l : List α} {i : Nat} {x : α}, l[i]? = some x → ∃ A B, l = A ++ x :: B ∧ A.length = i
  | y :: l, 0, x, h => ⟨[], l, by simp at h; simp [h], rfl⟩
  | y :: l, i + 1, x, h => by
    obtain ⟨A, B, h1, h2⟩ := at_split (l := l) (i := i) (x := x) (by simpa using h)
    exact ⟨y :: A, B, by simp [h1], by simp [h2]⟩
theorem RepR.edit {α : Type} {esz : Nat} {Q : Heap → List V → α → List Nat → Prop} {σ : Heap} {v : V} {l : List α} {R : List Nat} (h : RepR esz (Q σ) σ v l R)
    (keepQ : ∀ {σ σ' : Heap} cs x R, Q σ cs x R → (∀ j, j ∈ R → σ'[j]? = σ[j]?) → Q σ' cs x R) (ltQ : ∀ cs x R, Q σ cs x R → ∀ j, j ∈ R → j < σ.length) (hnd : R.Nodup) {i : Nat} {x : α} (hx : l[i]? = some x) :
    ∃ r o cs Rx, vidx esz v (i : Int) = some (r, o) ∧ rdc σ r o esz = some cs ∧ cs.length = esz ∧ Q σ cs x Rx ∧ r ∈ R ∧ r ∉ Rx ∧ Rx.Nodup ∧ (∀ j, j ∈ Rx → j ∈ R) ∧
      ∀ (σ' : Heap) (y : α) (Ry : List Nat) (off : Nat) (ys : List V), off + ys.length ≤ esz → σ.length ≤ σ'.length → (∀ j, j < σ.length → j ∉ Rx → σ'[j]? = σ[j]?) →
        (∀ σ'' : Heap, (∀ j, j ∈ Ry → σ''[j]? = σ'[j]?) → Q σ'' (setCells cs off ys) y Ry) → Ry.Nodup → (∀ j, j ∈ Ry → j ∈ Rx ∨ σ.length ≤ j) →
        ∃ σ'' R'', wrc σ' r (o + off) ys = some σ'' ∧ RepR esz (Q σ'') σ'' v (l.set i y) R'' ∧ R''.Nodup ∧ (∀ j, j ∈ R'' → j ∈ R ∨ σ.length ≤ j) ∧ σ''.length = σ'.length ∧ ∀ j, j ≠ r → σ''[j]? = σ'[j]? := by
  have hi := lt_of_get hx
  cases h with
  | nils => simp at hi
  | emp => simp at hi
  | sl r o n lim row l Rs h1 h2 h3 h4 h5 h6 h7 =>
    have hm := mul_le_of_lt hi esz
    have hlt := get_lt h2
    have hRi : Rs[i]? = some (Rs[i]'(by omega)) := List.getElem?_eq_getElem _
    generalize Rs[i]'(by omega) = Rx at hRi
    obtain ⟨A, B, hAB, hA⟩ := at_split hRi
    have hq := h7 i x Rx hx hRi
    have hsub : ∀ j, j ∈ Rx → j ∈ Rs.flatten := fun j hj => List.mem_flatten.2 ⟨Rx, List.mem_of_getElem? hRi, hj⟩
    have hflat : Rs.flatten = A.flatten ++ (Rx ++ B.flatten) := by rw [hAB]; simp
    obtain ⟨hr, hndf⟩ := List.nodup_cons.1 hnd
    have hndf' := hndf
    rw [hflat] at hndf'
    obtain ⟨nA, nXB, dA⟩ := nodup_sub (c := []) hndf'
    obtain ⟨nX, nB, dX⟩ := nodup_sub (c := []) nXB
    have hltf : ∀ j, j ∈ Rs.flatten → j < σ.length := fun j hj => by
      obtain ⟨S, hS, hj⟩ := List.mem_flatten.1 hj
      obtain ⟨k, hk⟩ := List.getElem?_of_mem hS
      have hkl : k < l.length := by rw [← h6]; exact lt_of_get hk
      exact ltQ _ _ _ (h7 k _ S (List.getElem?_eq_getElem hkl) hk) j hj
    have hcsl : ((row.cells.drop (o + i * esz)).take esz).length = esz := by rw [List.length_take, List.length_drop]; omega
    refine ⟨r, o + i * esz, (row.cells.drop (o + i * esz)).take esz, Rx, by simp [vidx, h1, hi], ?_, hcsl, hq, List.mem_cons_self .., fun hc => hr (hsub r hc), nX, fun j hj => List.mem_cons_of_mem _ (hsub j hj), ?_⟩
    · unfold rdc
      rw [h2]
      simp only
      rw [if_pos (by omega)]
    intro σ' y Ry off ys hoff hlen hkeep hQy hndy hRy
    have hb : o + i * esz + off + ys.length ≤ row.cells.length := by omega
    have hrow' : σ'[r]? = some (some row) := by rw [hkeep r hlt fun hc => hr (hsub r hc)]; exact h2
    have hlt' : r < σ'.length := by omega
    have hrRy : r ∉ Ry := fun hc => by
      rcases hRy r hc with hc | hc
      · exact hr (hsub r hc)
      · omega
    have hother : ∀ j, j ≠ r → (σ'.set r (some { row with cells := setCells row.cells (o + i * esz + off) ys }))[j]? = σ'[j]? := fun j hj => by rw [List.getElem?_set, if_neg (Ne.symm hj)]
    have hset : Rs.set i Ry = A ++ Ry :: B := by rw [hAB, ← hA]; simp
    refine ⟨σ'.set r (some { row with cells := setCells row.cells (o + i * esz + off) ys }), r :: (Rs.set i Ry).flatten, ?_, ?_, ?_, ?_, by simp, hother⟩
    · rw [wrc, hrow']
      simp only
      rw [if_pos ⟨h3, hb⟩]
    · refine .sl r o n lim { row with cells := setCells row.cells (o + i * esz + off) ys } _ (Rs.set i Ry) (by simpa using h1) (by rw [List.getElem?_set, if_pos rfl, if_pos hlt']) h3 h4 (by show _ ≤ (setCells _ _ _).length; rw [setCells_len]; simpa using h5) (by simpa using h6) fun k z Rz hz hR => ?_
      show Q _ (((setCells row.cells (o + i * esz + off) ys).drop (o + k * esz)).take esz) z Rz
      rw [List.getElem?_set] at hz hR
      by_cases hik : i = k
      · subst hik
        rw [if_pos rfl, if_pos hi] at hz
        rw [if_pos rfl, if_pos (by omega)] at hR
        injection hz with hz
        injection hR with hR
        subst hz hR
        rw [chunk_in (by omega) hoff]
        exact hQy _ fun j hj => hother j fun hc => hrRy (hc ▸ hj)
      · rw [if_neg hik] at hz hR
        have hk := lt_of_get hz
        have hmk := mul_le_of_lt hk esz
        have hd : o + k * esz + esz ≤ o + i * esz + off ∨ o + i * esz + off + ys.length ≤ o + k * esz := by
          rcases Nat.lt_or_gt_of_ne hik with hl | hl
          · right
            have := mul_le_of_lt hl esz
            omega
          · left
            have := mul_le_of_lt hl esz
            omega
        rw [chunk_set_other hb hd]
        refine keepQ _ _ _ (h7 k z Rz hz hR) fun j hj => ?_
        have hjf : j ∈ Rs.flatten := List.mem_flatten.2 ⟨Rz, List.mem_of_getElem? hR, hj⟩
        rw [hother j fun hc => hr (hc ▸ hjf)]
        refine hkeep j (hltf j hjf) fun hjx => ?_
        rw [hAB] at hR
        by_cases hka : k < A.length
        · rw [List.getElem?_append_left hka] at hR
          exact dA j (List.mem_flatten.2 ⟨Rz, List.mem_of_getElem? hR, hj⟩) (List.mem_append_left _ hjx)
        · rw [List.getElem?_append_right (by omega)] at hR
          obtain ⟨q, hq'⟩ : ∃ q, k - A.length = q + 1 := ⟨k - A.length - 1, by omega⟩
          rw [hq', List.getElem?_cons_succ] at hR
          exact dX j hjx (List.mem_flatten.2 ⟨Rz, List.mem_of_getElem? hR, hj⟩)
    · rw [hset]
      have e : (A ++ Ry :: B).flatten = A.flatten ++ (Ry ++ B.flatten) := by simp
      rw [e]
      have old : ∀ j, j ∈ A.flatten ∨ j ∈ B.flatten → j ∈ Rs.flatten := fun j hj => by
        rw [hflat]
        rcases hj with hj | hj
        · exact List.mem_append_left _ hj
        · exact List.mem_append_right _ (List.mem_append_right _ hj)
      refine List.nodup_cons.2 ⟨fun hc => ?_, ?_⟩
      · rcases List.mem_append.1 hc with hc | hc
        · exact hr (old r (.inl hc))
        · rcases List.mem_append.1 hc with hc | hc
          · exact hrRy hc
          · exact hr (old r (.inr hc))
      · rw [List.nodup_append]
        refine ⟨nA, ?_, fun a ha b hb hab => ?_⟩
        · rw [List.nodup_append]
          refine ⟨hndy, nB, fun a ha b hb hab => ?_⟩
          subst hab
          rcases hRy a ha with hx' | hx'
          · exact dX a hx' hb
          · have := hltf a (old a (.inr hb)); omega
        · subst hab
          rcases List.mem_append.1 hb with hb | hb
          · rcases hRy a hb with hx' | hx'
            · exact dA a ha (List.mem_append_left _ hx')
            · have := hltf a (old a (.inl ha)); omega
          · exact dA a ha (List.mem_append_right _ hb)
    · intro j hj
      rcases List.mem_cons.1 hj with rfl | hj
      · exact .inl (List.mem_cons_self ..)
      · rw [hset] at hj
        have e : (A ++ Ry :: B).flatten = A.flatten ++ (Ry ++ B.flatten) := by simp
        rw [e] at hj
        have inR : ∀ j, j ∈ Rs.flatten → j ∈ r :: Rs.flatten := fun j hj => List.mem_cons_of_mem _ hj
        rcases List.mem_append.1 hj with hj | hj
        · exact .inl (inR j (by rw [hflat]; exact List.mem_append_left _ hj))
        · rcases List.mem_append.1 hj with hj | hj
          · rcases hRy j hj with hx' | hx'
            · exact .inl (inR j (hsub j hx'))
            · exact .inr hx'
          · exact .inl (inR j (by rw [hflat]; exact List.mem_append_right _ (List.mem_append_right _ hj)))
end Go.HM
