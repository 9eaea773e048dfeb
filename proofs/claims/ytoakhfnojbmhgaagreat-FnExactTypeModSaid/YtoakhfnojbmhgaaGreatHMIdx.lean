/- Places in lists. -/
import Derived.Test.YtoakhfnojbmhgaaGreatHMWp
set_option linter.unusedVariables false
set_option linter.unusedSimpArgs false
namespace Go.HM
theorem dec_iff {p q : Prop} [Decidable p] [Decidable q] (h : q ↔ p) : V.bool (decide p) = V.bool (decide q) := by
  congr 1
  rw [Bool.eq_iff_iff]
  simp [h]
theorem dec_not_iff {p q : Prop} [Decidable p] [Decidable q] (h : q ↔ p) : V.bool (!decide p) = V.bool (!decide q) := by
  congr 2
  rw [Bool.eq_iff_iff]
  simp [h]
/-- The place of the first that is so, or -1. -/
def fidx {α : Type} (p : α → Bool) : List α → Int
  | [] => -1
  | x :: l => if p x then 0 else if fidx p l < 0 then -1 else fidx p l + 1
section
variable {α : Type} {p : α → Bool}
theorem fidx_none : ∀ {l : List α}, (∀ (j : Nat) y, l[j]? = some y → p y = false) → fidx p l = -1
  | [], _ => rfl
  | x :: l, h => by
    rw [fidx, h 0 x rfl, fidx_none fun j y hy => h (j + 1) y (by simpa using hy)]
    simp
theorem fidx_at : ∀ {l : List α} {i : Nat} {x : α}, l[i]? = some x → p x = true → (∀ (j : Nat) y, j < i → l[j]? = some y → p y = false) → fidx p l = (i : Int)
  | y :: l, 0, x, hx, hp, _ => by
    simp at hx; subst hx
    rw [fidx, hp]; simp
  | y :: l, i + 1, x, hx, hp, h => by
    have := fidx_at (l := l) (i := i) (by simpa using hx) hp fun j z hj hz => h (j + 1) z (by omega) (by simpa using hz)
    rw [fidx, h 0 y (by omega) rfl, this]
    simp
    omega
theorem fidx_cases : ∀ (l : List α), (fidx p l = -1 ∧ ∀ x, x ∈ l → p x = false) ∨ ∃ (i : Nat) (x : α), fidx p l = (i : Int) ∧ l[i]? = some x ∧ p x = true ∧ ∀ (j : Nat) y, j < i → l[j]? = some y → p y = false
  | [] => .inl ⟨rfl, fun x hx => by cases hx⟩
  | y :: l => by
    cases hy : p y with
    | true => exact .inr ⟨0, y, by rw [fidx, hy]; simp, rfl, hy, fun j z hj => absurd hj (Nat.not_lt_zero _)⟩
    | false =>
      rcases fidx_cases l with ⟨h1, h2⟩ | ⟨i, x, h1, h2, h3, h4⟩
      · refine .inl ⟨by rw [fidx, hy, h1]; simp, fun x hx => ?_⟩
        rcases List.mem_cons.1 hx with rfl | hx
        · exact hy
        · exact h2 x hx
      · refine .inr ⟨i + 1, x, ?_, by simpa using h2, h3, fun j z hj hz => ?_⟩
        · rw [fidx, hy, h1]
          simp
          omega
        · cases j with
          | zero => simp at hz; subst hz; exact hy
          | succ j => exact h4 j z (by omega) (by simpa using hz)
theorem fidx_any (l : List α) : decide (0 ≤ fidx p l) = l.any p := by
  rcases fidx_cases (p := p) l with ⟨h1, h2⟩ | ⟨i, x, h1, h2, h3, _⟩
  · rw [h1, List.any_eq_false.2 fun x hx => by rw [h2 x hx]; simp]; rfl
  · rw [h1, List.any_eq_true.2 ⟨x, List.mem_of_getElem? h2, h3⟩]
    simp
theorem fidx_lt (l : List α) : fidx p l < (l.length : Int) := by
  rcases fidx_cases (p := p) l with ⟨h1, _⟩ | ⟨i, x, h1, h2, _, _⟩
  · omega
  · have := lt_of_get h2; omega
theorem fidx_ge (l : List α) : -1 ≤ fidx p l := by
  rcases fidx_cases (p := p) l with ⟨h1, _⟩ | ⟨i, x, h1, h2, _, _⟩ <;> omega
end
/-- A row that was just laid, written whole. -/
theorem setCells_all : ∀ (xs pre cs : List V), cs.length = xs.length → setCells (pre ++ cs) pre.length xs = pre ++ xs
  | [], pre, [], _ => rfl
  | x :: xs, pre, c :: cs, h => by
    rw [setCells]
    have h1 : (pre ++ c :: cs).set pre.length x = (pre ++ [x]) ++ cs := by simp
    have h2 : pre.length + 1 = (pre ++ [x]).length := by simp
    rw [h1, h2, setCells_all xs (pre ++ [x]) cs (by simpa using h)]
    simp
theorem wrc_new (σ : Heap) (n : Nat) (cs xs : List V) (h : cs.length = xs.length) : wrc (hnew σ n cs) σ.length 0 xs = some (hnew σ n xs) := by
  have : setCells cs 0 xs = xs := by simpa using setCells_all xs [] cs h
  simp [wrc, hnew, h, this]
theorem new_rdc {σ σ' : Heap} {n : Nat} {xs : List V} (h : Lh (hnew σ n xs) σ') : rdc σ' σ.length 0 xs.length = some xs := by
  refine h.rdc ?_
  simp [rdc, hnew]
theorem RepS.at' {α : Type} {esz : Nat} {P : List V → α → Prop} {σ : Heap} {v : V} {l : List α} (h : RepS esz P σ v l) {i : Nat} {x : α} (hx : l[i]? = some x) : ∃ r o, vidx esz v (i : Int) = some (r, o) ∧ ∃ cs, rdc σ r o esz = some cs ∧ P cs x := by
  obtain ⟨hi, rfl⟩ := List.getElem?_eq_some_iff.1 hx
  exact h.at hi
/-! The rules, where something follows (within a loop's body). -/
section
variable {ι β : Type} {Good : V → Heap → Prop} {Next : Cmp ι → Prop} {G : Glob} {A : Nat → ι → β → Option (V × Heap)}
theorem B.assoc {α : Type} {X : Nat → ι → Option α} {K : Nat → ι → α → Option β} (h : W Good Next (fun k m => (X k m).bind fun x => (K k m x).bind (A k m))) : W Good Next (fun k m => ((X k m).bind (K k m)).bind (A k m)) :=
  W.to (fun k m => Option.bind_assoc _ _ _) h
theorem B.run {f : FuncId} {args : List V} {σ σ1 : Heap} {v : V} {K : Nat → ι → V × Heap → Option β} (h : Runs G f args σ v σ1) (g : W Good Next (fun k m => (K k m (v, σ1)).bind (A k m))) :
    W Good Next (fun k m => ((hcall G k f args σ).bind (K k m)).bind (A k m)) := B.assoc (W.run h g)
theorem B.give {f : FuncId} {args : List V} {σ : Heap} {v : V} {K : Nat → ι → V × Heap → Option β} (h : Gives G f args σ v) (g : ∀ σ', Lh σ σ' → W Good Next (fun k m => (K k m (v, σ')).bind (A k m))) :
    W Good Next (fun k m => ((hcall G k f args σ).bind (K k m)).bind (A k m)) := B.assoc (W.give h g)
theorem B.call {f : FuncId} {args : List V} {σ : Heap} {P : V → Heap → Prop} {K : Nat → ι → V × Heap → Option β} (h : Ends G f args σ P) (g : ∀ v σ', P v σ' → W Good Next (fun k m => (K k m (v, σ')).bind (A k m))) :
    W Good Next (fun k m => ((hcall G k f args σ).bind (K k m)).bind (A k m)) := B.assoc (W.call h g)
theorem B.cond {b : Bool} {c d : Nat → ι → Option β} (h1 : b = true → W Good Next (fun k m => (c k m).bind (A k m))) (h2 : b = false → W Good Next (fun k m => (d k m).bind (A k m))) :
    W Good Next (fun k m => (bif b then c k m else d k m).bind (A k m)) := W.to (fun k m => cond_bind _ _ _ _) (W.cond h1 h2)
theorem B.ite {p : Prop} [Decidable p] {c d : Nat → ι → Option β} (h1 : p → W Good Next (fun k m => (c k m).bind (A k m))) (h2 : ¬ p → W Good Next (fun k m => (d k m).bind (A k m))) :
    W Good Next (fun k m => (bif decide p then c k m else d k m).bind (A k m)) := W.to (fun k m => cond_bind _ _ _ _) (W.ite h1 h2)
theorem B.iff {p : Prop} [Decidable p] {c d : Nat → ι → Option β} (h1 : p → W Good Next (fun k m => (c k m).bind (A k m))) (h2 : ¬ p → W Good Next (fun k m => (d k m).bind (A k m))) :
    W Good Next (fun k m => (if p then c k m else d k m).bind (A k m)) := W.to (fun k m => ite_bind_ _ _ _ _) (W.iff h1 h2)
theorem B.bind {α : Type} {x : Option α} {a : α} {K : Nat → ι → α → Option β} (h : x = some a) (g : W Good Next (fun k m => (K k m a).bind (A k m))) : W Good Next (fun k m => (x.bind (K k m)).bind (A k m)) := B.assoc (W.bind h g)
variable {α : Type} {esz : Nat} {P : List V → α → Prop} {σ σ' : Heap} {v : V} {l : List α}
theorem B.at {i : Nat} {K : Nat → ι → Nat × Nat → Option β} (h : RepS esz P σ v l) (hl : Lh σ σ') (hi : i < l.length)
    (g : ∀ r o cs x, l[i]? = some x → rdc σ' r o esz = some cs → P cs x → W Good Next (fun k m => (K k m (r, o)).bind (A k m))) : W Good Next (fun k m => ((vidx esz v (i : Int)).bind (K k m)).bind (A k m)) := B.assoc (W.at h hl hi g)
theorem B.len {K : Nat → ι → Nat → Option β} (h : RepS esz P σ v l) (g : W Good Next (fun k m => (K k m l.length).bind (A k m))) : W Good Next (fun k m => ((vlen v).bind (K k m)).bind (A k m)) := B.assoc (W.len h g)
theorem B.app {b bytes n : Nat} {cs : List V} {ys : List α} {K : Nat → ι → V × Heap → Option β} (h : Grown b esz P σ v l) (hc : Chunks esz P cs ys) (hn : n = ys.length) (h1 : (l.length + ys.length) * bytes ≤ 2 ^ 46) (h2 : l.length + ys.length ≤ 2 ^ 46)
    (g : ∀ v' σ', Grown b esz P σ' v' (l ++ ys) → (∀ σe : Heap, σe.length ≤ b → Lh σe σ → Lh σe σ') → W Good Next (fun k m => (K k m (v', σ')).bind (A k m))) : W Good Next (fun k m => ((vappend esz bytes σ v n cs).bind (K k m)).bind (A k m)) := B.assoc (W.app h hc hn h1 h2 g)
theorem B.first {i : Int} {K : Nat → ι → V → Option β} (h : RepS esz P σ v l) (hi : 0 ≤ i ∧ i < l.length)
    (g : ∀ u, RepS esz P σ u (l.take i.toNat) → W Good Next (fun k m => (K k m u).bind (A k m))) : W Good Next (fun k m => ((vslice esz v none (some i)).bind (K k m)).bind (A k m)) := B.assoc (W.first h hi g)
theorem B.cells {K : Nat → ι → Nat × List V → Option β} (h : RepS esz P σ v l) (g : ∀ cs, Chunks esz P cs l → W Good Next (fun k m => (K k m (l.length, cs)).bind (A k m))) : W Good Next (fun k m => ((vcells σ esz v).bind (K k m)).bind (A k m)) := B.assoc (W.cells (σ' := σ) h g)
theorem B.byte {s : ByteArray} {i : Nat} {K : Nat → ι → Int → Option β} (h : i < s.size) (g : W Good Next (fun k m => (K k m (s[i].toNat : Int)).bind (A k m))) : W Good Next (fun k m => ((sbyte s (i : Int)).bind (K k m)).bind (A k m)) := B.assoc (W.byte h g)
end
end Go.HM
