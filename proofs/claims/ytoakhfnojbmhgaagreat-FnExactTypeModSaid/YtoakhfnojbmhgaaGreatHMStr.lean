/- Rows of texts that grow and are written; rows under protection. -/
import Derived.Test.YtoakhfnojbmhgaaGreatHMIdx
set_option linter.unusedVariables false
set_option linter.unusedSimpArgs false
namespace Go.HM
def StrR1 (cs : List V) (x : ByteArray) : Prop := cs = [.str x]
/-- A row that may be written and holds texts. -/
def StrRow (σ : Heap) (q : Nat) (l : List ByteArray) : Prop := ∃ ty, σ[q]? = some (some ⟨l.map .str, 1, false, ty⟩)
/-- A slice of all of such a row, from row b on. -/
def GrS (b : Nat) (σ : Heap) (v : V) (l : List ByteArray) : Prop := ∃ q lim, b ≤ q ∧ v = .sl q 0 l.length lim ∧ StrRow σ q l
theorem StrRow.lt {σ : Heap} {q : Nat} {l : List ByteArray} (h : StrRow σ q l) : q < σ.length := by
  obtain ⟨ty, h⟩ := h
  exact get_lt h
theorem StrRow.keep {σ σ' : Heap} {q : Nat} {l : List ByteArray} (h : StrRow σ q l) (e : σ'[q]? = σ[q]?) : StrRow σ' q l := by
  obtain ⟨ty, h⟩ := h
  exact ⟨ty, by rw [e]; exact h⟩
theorem StrRow.rep {P : List V → ByteArray → Prop} (hP : ∀ x, P [.str x] x) {σ : Heap} {q : Nat} {l : List ByteArray} (h : StrRow σ q l) (lim : Bool) : RepS 1 P σ (.sl q 0 l.length lim) l := by
  obtain ⟨ty, h⟩ := h
  refine .sl q 0 l.length lim _ l rfl h rfl (by simp) fun i x hx => ?_
  have : ((l.map V.str).drop (0 + i * 1)).take 1 = [.str x] := by
    apply List.ext_getElem?
    intro j
    rw [chunk_get]
    split
    · rename_i hj
      obtain rfl : j = 0 := by omega
      simp [hx]
    · rename_i hj
      rw [List.getElem?_eq_none (by simp; omega)]
  show P (((l.map V.str).drop (0 + i * 1)).take 1) x
  rw [this]
  exact hP x
theorem GrS.rep {P : List V → ByteArray → Prop} (hP : ∀ x, P [.str x] x) {b : Nat} {σ : Heap} {v : V} {l : List ByteArray} (h : GrS b σ v l) : RepS 1 P σ v l := by
  obtain ⟨q, lim, _, rfl, h⟩ := h
  exact h.rep hP lim
theorem GrS.le {b : Nat} {σ σ' : Heap} {v : V} {l : List ByteArray} (h : GrS b σ v l) (hl : Lh σ σ') : GrS b σ' v l := by
  obtain ⟨q, lim, h1, h2, ty, h3⟩ := h
  exact ⟨q, lim, h1, h2, ty, hl.row _ _ h3⟩
theorem GrS.new (σ : Heap) (lim : Bool) : GrS σ.length (hnew σ 1 []) (.sl σ.length 0 0 lim) [] := ⟨σ.length, lim, Nat.le_refl _, rfl, 0, by simp [hnew]⟩
theorem GrS.down {b c : Nat} {σ : Heap} {v : V} {l : List ByteArray} (h : GrS b σ v l) (hc : c ≤ b) : GrS c σ v l := by
  obtain ⟨q, lim, h1, h2⟩ := h
  exact ⟨q, lim, Nat.le_trans hc h1, h2⟩
/-- One text more. -/
theorem GrS.app {σ : Heap} {q : Nat} {lim : Bool} {l : List ByteArray} (h : StrRow σ q l) (s : ByteArray) (hb : l.length + 1 ≤ 1073741824) :
    ∃ σ', vappend 1 16 σ (.sl q 0 l.length lim) 1 [.str s] = some (.sl σ.length 0 (l ++ [s]).length false, σ') ∧ StrRow σ' σ.length (l ++ [s]) ∧ σ'.length = σ.length + 1 ∧ ∀ j, j ≠ q → j < σ.length → σ'[j]? = σ[j]? := by
  obtain ⟨ty, h⟩ := h
  have hlt := get_lt h
  unfold vappend
  simp only [h]
  rw [if_pos ⟨trivial, by simp, by omega, by omega⟩]
  cases lim with
  | true =>
    refine ⟨hnew σ 1 ((l ++ [s]).map .str), ?_, ⟨0, by simp [hnew]⟩, by simp [hnew], fun j _ hj => by simp [hnew, List.getElem?_append_left hj]⟩
    have : ((l.map V.str).drop 0).take (l.length * 1) = l.map .str := by rw [List.drop_zero]; exact List.take_of_length_le (by simp)
    rw [if_pos rfl, if_neg (by omega), this, List.map_append]
    simp
  | false =>
    refine ⟨hnew (σ.set q none) 1 ((l ++ [s]).map .str), ?_, ⟨0, by simp [hnew]⟩, by simp [hnew], fun j hne hj => by
      rw [hnew, List.getElem?_append_left (by simpa using hj), List.getElem?_set, if_neg (Ne.symm hne)]⟩
    have : (l.map V.str).take (l.length * 1) = l.map .str := List.take_of_length_le (by simp)
    rw [if_neg (by simp), if_pos ⟨trivial, trivial⟩, this, List.map_append]
    simp
theorem GrS.app' {b : Nat} {σ : Heap} {v : V} {l : List ByteArray} (h : GrS b σ v l) (s : ByteArray) (hb : l.length + 1 ≤ 1073741824) :
    ∃ v' σ', vappend 1 16 σ v 1 [.str s] = some (v', σ') ∧ GrS b σ' v' (l ++ [s]) ∧ (∀ σe : Heap, σe.length ≤ b → Lh σe σ → Lh σe σ') ∧ σ.length ≤ σ'.length ∧ ∀ j, j < b → j < σ.length → σ'[j]? = σ[j]? := by
  obtain ⟨q, lim, h1, rfl, h2⟩ := h
  obtain ⟨σ', g1, g2, g3, g4⟩ := GrS.app (lim := lim) h2 s hb
  have hq := h2.lt
  refine ⟨_, σ', g1, ⟨σ.length, false, by omega, rfl, g2⟩, fun σe he hl => ⟨by rw [g3]; have := hl.len; omega, fun j row hj => ?_⟩, by omega, fun j hj hl => g4 j (by omega) hl⟩
  have hj' := get_lt hj
  rw [g4 j (by omega) (by have := hl.len; omega)]
  exact hl.row _ _ hj
/-- A cell that may be written. -/
def Cell1 (σ : Heap) (r : Nat) (x : V) : Prop := ∃ ty, σ[r]? = some (some ⟨[x], 1, false, ty⟩)
theorem Cell1.lt {σ : Heap} {r : Nat} {x : V} (h : Cell1 σ r x) : r < σ.length := by obtain ⟨ty, h⟩ := h; exact get_lt h
theorem Cell1.rdc {σ : Heap} {r : Nat} {x : V} (h : Cell1 σ r x) : rdc σ r 0 1 = some [x] := by
  obtain ⟨ty, h⟩ := h
  simp [HM.rdc, h]
theorem Cell1.keep {σ σ' : Heap} {r : Nat} {x : V} (h : Cell1 σ r x) (e : σ'[r]? = σ[r]?) : Cell1 σ' r x := by
  obtain ⟨ty, h⟩ := h
  exact ⟨ty, by rw [e]; exact h⟩
theorem Cell1.le {σ σ' : Heap} {r : Nat} {x : V} (h : Cell1 σ r x) (hl : Lh σ σ') : Cell1 σ' r x := by
  obtain ⟨ty, h⟩ := h
  exact ⟨ty, hl.row _ _ h⟩
theorem Cell1.put {σ : Heap} {r : Nat} {x : V} (h : Cell1 σ r x) (y : V) : ∃ σ', wrc σ r 0 [y] = some σ' ∧ Cell1 σ' r y ∧ σ'.length = σ.length ∧ ∀ j, j ≠ r → σ'[j]? = σ[j]? := by
  obtain ⟨ty, h⟩ := h
  refine ⟨σ.set r (some ⟨[y], 1, false, ty⟩), by simp [wrc, h, setCells], ⟨ty, by simp [get_lt h]⟩, by simp, fun j hj => by rw [List.getElem?_set, if_neg (Ne.symm hj)]⟩
theorem Cell1.new (σ : Heap) (x : V) : Cell1 (hnew σ 1 [x]) σ.length x := ⟨0, by simp [hnew]⟩
/-! Rows under protection. -/
theorem toRo_set {σ : Heap} {r : Nat} {row : Row} (h : σ[r]? = some (some row)) : toRo σ r = σ.set r (some ⟨row.cells, row.esz, true, row.ty⟩) := by
  unfold toRo
  rw [h]
theorem unprot1 (σ : Heap) (r : Nat) (ρ : List (Option Row)) : unprot [r] σ (prot [r] σ ++ ρ) = σ ++ ρ := by
  show back σ (toRo σ r ++ ρ) r = σ ++ ρ
  unfold back toRo
  split
  · rename_i row hr
    have := get_lt hr
    rw [List.set_append_left _ _ (by simpa using this), List.set_set]
    congr 1
    apply List.ext_getElem?
    intro j
    rw [List.getElem?_set]
    split
    · subst_vars
      first | exact hr.symm | (rw [hr]; simp [this])
    · rfl
  · rename_i hno
    split
    · rename_i row hr
      exact absurd hr (hno row)
    · rfl
theorem unprot0 (σ : Heap) (r : Nat) : unprot [r] σ (prot [r] σ) = σ := by simpa using unprot1 σ r []
theorem prot1_len (σ : Heap) (r : Nat) : (prot [r] σ).length = σ.length := by
  show (toRo σ r).length = _
  unfold toRo
  split <;> simp
theorem prot1_get {σ : Heap} {r j : Nat} {row : Row} (h : σ[j]? = some (some row)) : ∃ row', (prot [r] σ)[j]? = some (some row') ∧ row'.cells = row.cells ∧ row'.esz = row.esz ∧ (j ≠ r → row' = row) := by
  show ∃ row', (toRo σ r)[j]? = _ ∧ _
  unfold toRo
  split
  · rename_i row0 hr
    rw [List.getElem?_set]
    by_cases hj : r = j
    · subst hj
      rw [hr] at h
      injection h with h; injection h with h; subst h
      exact ⟨⟨row0.cells, row0.esz, true, row0.ty⟩, by simp [get_lt hr], rfl, rfl, fun hc => absurd rfl hc⟩
    · rw [if_neg hj]
      exact ⟨row, h, rfl, rfl, fun _ => rfl⟩
  · exact ⟨row, h, rfl, rfl, fun _ => rfl⟩
theorem RepS.prot1 {α : Type} {esz : Nat} {P : List V → α → Prop} {σ : Heap} {v : V} {l : List α} (h : RepS esz P σ v l) (r : Nat) : RepS esz P (prot [r] σ) v l := by
  cases h with
  | nils => exact .nils
  | emp => exact .emp
  | sl r o n lim row l h1 h2 h3 h4 h5 =>
    obtain ⟨row', g1, g2, g3, _⟩ := prot1_get (r := _) h2
    exact .sl _ o n lim row' l h1 g1 (by rw [g3]; exact h3) (by rw [g2]; exact h4) (by rw [g2]; exact h5)
theorem Lh.unprot1 {σ σ' : Heap} {r : Nat} (h : Lh (prot [r] σ) σ') : Lh σ (unprot [r] σ σ') := by
  have hlen : (unprot [r] σ σ').length = σ'.length := by
    show (back σ σ' r).length = _
    unfold back
    split <;> simp
  refine ⟨by rw [hlen, ← prot1_len σ r]; exact h.len, fun j row hj => ?_⟩
  show (back σ σ' r)[j]? = _
  unfold back
  split
  · rename_i row0 hr
    rw [List.getElem?_set]
    by_cases hjr : r = j
    · subst hjr
      rw [hr] at hj
      rw [if_pos rfl]
      have := get_lt hr
      have h2 := h.len
      rw [prot1_len] at h2
      first | (rw [if_pos (by omega)]; exact hj) | exact hj
    · rw [if_neg hjr]
      obtain ⟨row', g1, _, _, g2⟩ := prot1_get (r := r) hj
      rw [g2 (Ne.symm hjr)] at g1
      exact h.row _ _ g1
  · rename_i hno
    obtain ⟨row', g1, _, _, g2⟩ := prot1_get (r := r) hj
    have : j ≠ r := fun hc => hno row (by rw [← hc]; exact hj)
    rw [g2 this] at g1
    exact h.row _ _ g1
theorem unprot1_get (σ σ' : Heap) {r j : Nat} (h : j ≠ r) : (unprot [r] σ σ')[j]? = σ'[j]? := by
  show (back σ σ' r)[j]? = _
  unfold back
  split
  · rw [List.getElem?_set, if_neg (Ne.symm h)]
  · rfl
end Go.HM
