/- Rows under protection: lists of them. -/
import Derived.Test.YtoakhfnojbmhgaaGreatHMOwn
import Derived.Test.YtoakhfnojbmhgaaGreatHMStr
set_option linter.unusedVariables false
set_option linter.unusedSimpArgs false
namespace Go.HM
theorem prot_cons (r : Nat) (rs : List Nat) (σ : Heap) : prot (r :: rs) σ = prot [r] (prot rs σ) := rfl
theorem prots_len : ∀ (rs : List Nat) (σ : Heap), (prot rs σ).length = σ.length
  | [], σ => rfl
  | r :: rs, σ => by rw [prot_cons, prot1_len, prots_len rs]
theorem RepS.prots {α : Type} {esz : Nat} {P : List V → α → Prop} {σ : Heap} {v : V} {l : List α} (h : RepS esz P σ v l) : ∀ rs : List Nat, RepS esz P (prot rs σ) v l
  | [] => h
  | r :: rs => (RepS.prots h rs).prot1 r
theorem rdc_prots {σ : Heap} {r o n : Nat} {cs : List V} (h : rdc σ r o n = some cs) : ∀ rs : List Nat, rdc (prot rs σ) r o n = some cs
  | [] => h
  | p :: rs => rdc_prot (rdc_prots h rs)
theorem prots_row {σ : Heap} {j : Nat} {row : Row} (h : σ[j]? = some (some row)) : ∀ rs : List Nat, ∃ row', (prot rs σ)[j]? = some (some row') ∧ row'.cells = row.cells ∧ row'.esz = row.esz ∧ (j ∉ rs → row' = row)
  | [] => ⟨row, h, rfl, rfl, fun _ => rfl⟩
  | r :: rs => by
    obtain ⟨row1, h1, h2, h3, h4⟩ := prots_row h rs
    obtain ⟨row2, g1, g2, g3, g4⟩ := prot1_get (r := r) h1
    exact ⟨row2, g1, g2.trans h2, g3.trans h3, fun hn => by
      rw [List.mem_cons, not_or] at hn
      rw [g4 hn.1, h4 hn.2]⟩
theorem prots_not {σ : Heap} {j : Nat} (h : ∀ row, σ[j]? ≠ some (some row)) : ∀ rs : List Nat, (prot rs σ)[j]? = σ[j]?
  | [] => rfl
  | r :: rs => by
    have ih := prots_not h rs
    show (toRo (prot rs σ) r)[j]? = _
    unfold toRo
    split
    · rename_i row hr
      rw [List.getElem?_set]
      split
      · rename_i hrj
        subst hrj
        rw [ih] at hr
        exact absurd hr (h row)
      · exact ih
    · exact ih
theorem unprots_len : ∀ (rs : List Nat) (σ σ' : Heap), (unprot rs σ σ').length = σ'.length
  | [], _, _ => rfl
  | r :: rs, σ, σ' => by
    show (back σ (unprot rs σ σ') r).length = _
    unfold back
    split <;> simp [unprots_len rs]
theorem unprots_not {σ : Heap} {j : Nat} (h : ∀ row, σ[j]? ≠ some (some row)) (σ' : Heap) : ∀ rs : List Nat, (unprot rs σ σ')[j]? = σ'[j]?
  | [] => rfl
  | r :: rs => by
    show (back σ (unprot rs σ σ') r)[j]? = _
    unfold back
    split
    · rename_i row hr
      rw [List.getElem?_set]
      split
      · rename_i hrj
        subst hrj
        exact absurd hr (h row)
      · exact unprots_not h σ' rs
    · exact unprots_not h σ' rs
theorem unprots_out (σ σ' : Heap) {j : Nat} : ∀ rs : List Nat, j ∉ rs → (unprot rs σ σ')[j]? = σ'[j]?
  | [], _ => rfl
  | r :: rs, h => by
    rw [List.mem_cons, not_or] at h
    have ih := unprots_out σ σ' rs h.2
    show (back σ (unprot rs σ σ') r)[j]? = _
    unfold back
    split
    · rw [List.getElem?_set, if_neg (Ne.symm h.1)]
      exact ih
    · exact ih
theorem unprots_in {σ : Heap} (σ' : Heap) {j : Nat} {row : Row} (hj : σ[j]? = some (some row)) (hl : j < σ'.length) : ∀ rs : List Nat, j ∈ rs → (unprot rs σ σ')[j]? = some (some row)
  | r :: rs, h => by
    show (back σ (unprot rs σ σ') r)[j]? = _
    have hlen := unprots_len rs σ σ'
    unfold back
    by_cases hr : r = j
    · subst hr
      rw [hj]
      simp only
      rw [List.getElem?_set, if_pos rfl, if_pos (by omega)]
    · have hm : j ∈ rs := by
        rcases List.mem_cons.1 h with h | h
        · exact absurd h.symm hr
        · exact h
      have ih := unprots_in σ' hj hl rs hm
      split
      · rw [List.getElem?_set, if_neg hr]
        exact ih
      · exact ih
/-- What was protected and left alone is as it was. -/
theorem unprots0 (rs : List Nat) (σ : Heap) : unprot rs σ (prot rs σ) = σ := by
  apply List.ext_getElem?
  intro j
  by_cases hr : ∃ row, σ[j]? = some (some row)
  · obtain ⟨row, hr⟩ := hr
    by_cases hj : j ∈ rs
    · rw [unprots_in (prot rs σ) hr (by rw [prots_len]; exact get_lt hr) rs hj, hr]
    · rw [unprots_out σ _ rs hj]
      obtain ⟨row', h1, _, _, h4⟩ := prots_row hr rs
      rw [h1, h4 hj, hr]
  · have hr' : ∀ row, σ[j]? ≠ some (some row) := fun row h => hr ⟨row, h⟩
    rw [unprots_not hr', prots_not hr']
theorem Lh.unprots {σ σ' : Heap} {rs : List Nat} (h : Lh (prot rs σ) σ') : Lh σ (unprot rs σ σ') := by
  have h1 := h.len
  rw [prots_len] at h1
  refine ⟨by rw [unprots_len]; exact h1, fun j row hj => ?_⟩
  by_cases hm : j ∈ rs
  · exact unprots_in σ' hj (by have := get_lt hj; omega) rs hm
  · rw [unprots_out σ σ' rs hm]
    obtain ⟨row', g1, _, _, g4⟩ := prots_row hj rs
    rw [← g4 hm]
    exact h.row _ _ g1
/-- Under protection of rows that are not its own, a slice grows all the same. -/
theorem vappend_prots {σ σ' : Heap} {esz bytes k : Nat} {v v' : V} {xs : List V} {rs : List Nat} (hv : ∀ r o n lim, v = .sl r o n lim → r ∉ rs) (h : vappend esz bytes σ v k xs = some (v', σ')) : ∃ τ, vappend esz bytes (prot rs σ) v k xs = some (v', τ) ∧ unprot rs σ τ = σ' := by
  have hlen := prots_len rs σ
  have e : ∀ (r : Nat), r ∉ rs → (prot rs σ)[r]? = σ[r]? := fun r hr => by
    by_cases h : ∃ row, σ[r]? = some (some row)
    · obtain ⟨row, h⟩ := h
      obtain ⟨row', h1, _, _, h4⟩ := prots_row h rs
      rw [h1, h4 hr, h]
    · exact prots_not (fun row hc => h ⟨row, hc⟩) rs
  have fin : ∀ (τ τ' : Heap), τ.length = τ'.length → (∀ j, j ∉ rs → τ[j]? = τ'[j]?) → (∀ j, (∀ row, σ[j]? ≠ some (some row)) → τ[j]? = τ'[j]?) → σ.length ≤ τ.length → (∀ j row, j ∈ rs → σ[j]? = some (some row) → τ'[j]? = some (some row)) → unprot rs σ τ = τ' := fun τ τ' h0 h1 h2 h3 h4 => by
    apply List.ext_getElem?
    intro j
    by_cases hr : ∃ row, σ[j]? = some (some row)
    · obtain ⟨row, hr⟩ := hr
      by_cases hj : j ∈ rs
      · rw [unprots_in τ hr (by have := get_lt hr; omega) rs hj, h4 j row hj hr]
      · rw [unprots_out σ _ rs hj, h1 j hj]
    · have hr' : ∀ row, σ[j]? ≠ some (some row) := fun row h => hr ⟨row, h⟩
      rw [unprots_not hr', h2 j hr']
  have new : ∀ (c : List V), unprot rs σ (hnew (prot rs σ) esz c) = hnew σ esz c := fun c => by
    refine fin _ _ (by simp [hnew, hlen]) (fun j hj => ?_) (fun j hj => ?_) (by simp [hnew, hlen]) fun j row hj hr => ?_
    · simp only [hnew, List.getElem?_append, hlen, e j hj]
    · simp only [hnew, List.getElem?_append, hlen, prots_not hj rs]
    · have := get_lt hr
      simp only [hnew]
      rw [List.getElem?_append_left this, hr]
  unfold vappend at h ⊢
  cases v with
  | nils =>
    simp only at h ⊢
    split at h
    · rename_i hk
      rw [if_pos hk]
      injection h with h; injection h with h1 h2
      subst h1 h2
      exact ⟨_, rfl, unprots0 rs σ⟩
    · rename_i hk
      rw [if_neg hk]
      split at h
      · rename_i hb
        rw [if_pos hb]
        injection h with h; injection h with h1 h2
        subst h1 h2
        rw [hlen]
        exact ⟨_, rfl, new _⟩
      · cases h
  | sl r o n lim =>
    have hne := hv r o n lim rfl
    simp only at h ⊢
    rw [e r hne]
    split at h
    · rename_i row hrow
      split at h
      · rename_i hc
        rw [if_pos hc]
        split at h
        · rename_i hl
          rw [if_pos hl]
          split at h
          · rename_i hk
            rw [if_pos hk]
            injection h with h; injection h with h1 h2
            subst h1 h2
            exact ⟨_, rfl, unprots0 rs σ⟩
          · rename_i hk
            rw [if_neg hk]
            injection h with h; injection h with h1 h2
            subst h1 h2
            rw [hlen]
            exact ⟨_, rfl, new _⟩
        · rename_i hl
          rw [if_neg hl]
          split at h
          · rename_i hro
            rw [if_pos hro]
            injection h with h; injection h with h1 h2
            subst h1 h2
            rw [hlen]
            refine ⟨_, rfl, fin _ _ (by simp [hnew, hlen]) (fun j hj => ?_) (fun j hj => ?_) (by simp [hnew, hlen]) fun j row hj hr => ?_⟩
            · simp only [hnew, List.getElem?_append, List.length_set, hlen, List.getElem?_set, e j hj]
            · simp only [hnew, List.getElem?_append, List.length_set, hlen, List.getElem?_set, prots_not hj rs]
            · have := get_lt hr
              simp only [hnew]
              rw [List.getElem?_append_left (by simpa using this), List.getElem?_set, if_neg (fun hc : r = j => hne (by rw [hc]; exact hj)), hr]
          · cases h
      · cases h
    · cases h
  | _ => cases h
end Go.HM
namespace Go.HM
/-- A row that may not be written anyway. -/
theorem prots_ro {σ : Heap} {j : Nat} {row : Row} (h : σ[j]? = some (some row)) (hro : row.ro = true) : ∀ rs : List Nat, (prot rs σ)[j]? = some (some row)
  | [] => h
  | r :: rs => by
    have ih := prots_ro h hro rs
    show (toRo (prot rs σ) r)[j]? = _
    unfold toRo
    split
    · rename_i row' hr
      rw [List.getElem?_set]
      split
      · rename_i hrj
        subst hrj
        rw [ih] at hr
        injection hr with hr
        injection hr with hr
        subst hr
        rw [if_pos (get_lt ih)]
        obtain ⟨a, b, c, d⟩ := row
        simp only at hro
        subst hro
        rfl
      · exact ih
    · exact ih
/-- The row of an element. -/
theorem RepS.row_at {α : Type} {esz : Nat} {P : List V → α → Prop} {σ : Heap} {v : V} {l : List α} (h : RepS esz P σ v l) {i : Int} {r o : Nat} (hv : vidx esz v i = some (r, o)) : ∃ row, σ[r]? = some (some row) ∧ row.esz = esz := by
  cases h with
  | nils => cases hv
  | emp => cases hv
  | sl r' o' n lim row l h1 h2 h3 h4 h5 =>
    simp only [vidx] at hv
    split at hv
    · injection hv with hv
      injection hv with e1 e2
      subst e1
      exact ⟨row, h2, h3⟩
    · cases hv
theorem RepR.row_of {α : Type} {esz : Nat} {Q : List V → α → List Nat → Prop} {σ : Heap} {v : V} {l : List α} {R : List Nat} (h : RepR esz Q σ v l R) {r o n : Nat} {lim : Bool} (hv : v = .sl r o n lim) : ∃ row, σ[r]? = some (some row) ∧ row.esz = esz := by
  cases h with
  | nils => cases hv
  | emp => cases hv
  | sl r' o' n' lim' row l Rs h1 h2 h3 h4 h5 h6 h7 =>
    injection hv with e1 _ _ _
    subst e1
    exact ⟨row, h2, h4⟩
/-- What is left behind the first few. -/
theorem RepS.rest {α : Type} {esz : Nat} {P : List V → α → Prop} {σ : Heap} {v : V} {l : List α} (h : RepS esz P σ v l) {i : Nat} (hi : i < l.length) : ∃ u, vslice esz v (some (i : Int)) none = some u ∧ RepS esz P σ u (l.drop i) := by
  cases h with
  | nils => simp at hi
  | emp => simp at hi
  | sl r o n lim row l h1 h2 h3 h4 h5 =>
    subst h1
    have hmul : i * esz + (l.length - i) * esz = l.length * esz := by rw [← Nat.add_mul]; congr 1; omega
    refine ⟨.sl r (o + i * esz) (l.length - i) (lim && true), ?_, .sl r (o + i * esz) (l.length - i) _ row _ (by simp) h2 h3 (by rw [List.length_drop]; omega) fun j x hx => ?_⟩
    · unfold vslice
      simp only [Option.getD_some, Option.getD_none]
      rw [if_pos (by omega), if_neg (by omega)]
      congr 2
      omega
    · rw [List.getElem?_drop] at hx
      have := h5 (i + j) x hx
      rw [show o + i * esz + j * esz = o + (i + j) * esz by rw [Nat.add_mul]; omega]
      exact this
end Go.HM
