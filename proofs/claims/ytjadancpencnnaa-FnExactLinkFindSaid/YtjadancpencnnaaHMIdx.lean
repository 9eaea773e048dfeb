/- Places in lists. -/
import Derived.Test.YtjadancpencnnaaHMWp
set_option linter.unusedVariables false
set_option linter.unusedSimpArgs false
namespace Go.HM
/-- The place of the first that is so, or -1. -/
def fidx {α : Type} (p : α → Bool) : List α → Int
  | [] => -1
  | x :: l => if p x then 0 else if fidx p l < 0 then -1 else fidx p l + 1
section
variable {α : Type} {p : α → Bool}
theorem fidx_none : ∀ {l : List α}, (∀ (j : Nat) y, l[j]? = some y → p y = false) → fidx p l = -1
  | [], _ => rfl
  | x :: l, h => by
    rw [fidx, h 0 x rfl, fidx_none fun j y hy => h (j + 1) y (by simpa using hy)]
    simp
theorem fidx_at : ∀ {l : List α} {i : Nat} {x : α}, l[i]? = some x → p x = true → (∀ (j : Nat) y, j < i → l[j]? = some y → p y = false) → fidx p l = (i : Int)
  | y :: l, 0, x, hx, hp, _ => by
    simp at hx; subst hx
    rw [fidx, hp]; simp
  | y :: l, i + 1, x, hx, hp, h => by
    have := fidx_at (l := l) (i := i) (by simpa using hx) hp fun j z hj hz => h (j + 1) z (by omega) (by simpa using hz)
    rw [fidx, h 0 y (by omega) rfl, this]
    simp
    omega
theorem fidx_cases : ∀ (l : List α), (fidx p l = -1 ∧ ∀ x, x ∈ l → p x = false) ∨ ∃ (i : Nat) (x : α), fidx p l = (i : Int) ∧ l[i]? = some x ∧ p x = true ∧ ∀ (j : Nat) y, j < i → l[j]? = some y → p y = false
  | [] => .inl ⟨rfl, fun x hx => by cases hx⟩
  | y :: l => by
    cases hy : p y with
    | true => exact .inr ⟨0, y, by rw [fidx, hy]; simp, rfl, hy, fun j z hj => absurd hj (Nat.not_lt_zero _)⟩
    | false =>
      rcases fidx_cases l with ⟨h1, h2⟩ | ⟨i, x, h1, h2, h3, h4⟩
      · refine .inl ⟨by rw [fidx, hy, h1]; simp, fun x hx => ?_⟩
        rcases List.mem_cons.1 hx with rfl | hx
        · exact hy
        · exact h2 x hx
      · refine .inr ⟨i + 1, x, ?_, by simpa using h2, h3, fun j z hj hz => ?_⟩
        · rw [fidx, hy, h1]
          simp
          omega
        · cases j with
          | zero => simp at hz; subst hz; exact hy
          | succ j => exact h4 j z (by omega) (by simpa using hz)
theorem fidx_any (l : List α) : decide (0 ≤ fidx p l) = l.any p := by
  rcases fidx_cases (p := p) l with ⟨h1, h2⟩ | ⟨i, x, h1, h2, h3, _⟩
  · rw [h1, List.any_eq_false.2 fun x hx => by rw [h2 x hx]; simp]; rfl
  · rw [h1, List.any_eq_true.2 ⟨x, List.mem_of_getElem? h2, h3⟩]
    simp
theorem fidx_lt (l : List α) : fidx p l < (l.length : Int) := by
  rcases fidx_cases (p := p) l with ⟨h1, _⟩ | ⟨i, x, h1, h2, _, _⟩
  · omega
  · have := lt_of_get h2; omega
theorem fidx_ge (l : List α) : -1 ≤ fidx p l := by
  rcases fidx_cases (p := p) l with ⟨h1, _⟩ | ⟨i, x, h1, h2, _, _⟩ <;> omega
end
end Go.HM
