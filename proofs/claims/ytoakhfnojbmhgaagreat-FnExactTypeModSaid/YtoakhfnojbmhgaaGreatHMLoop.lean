/- A rule for loops; calls that yield a plain value. -/
import Derived.Test.YtoakhfnojbmhgaaGreatHMRep
set_option linter.unusedSimpArgs false
set_option linter.unusedVariables false
namespace Go.HM
noncomputable instance decMem (s : ByteArray) (l : List ByteArray) : Decidable (s ∈ l) := Classical.propDecidable _
/-- A loop, step for step: each step ends it well or comes nearer to its end. -/
theorem loop {S : Type} {L : Nat → Nat → List T → Heap → Option (Ex × List T × Heap)} {A : Nat → Ex × List T × Heap → Option (V × Heap)} (Inv : S → Prop) (Good : V → Heap → Prop) (vals : S → List T) (hp : S → Heap) (far : S → Nat)
    (h : ∀ s, Inv s → (∃ v σ', Good v σ' ∧ Ev fun k => ∀ m, (L k (m + 1) (vals s) (hp s)).bind (A k) = some (v, σ')) ∨
      (∃ s', Inv s' ∧ far s' < far s ∧ Ev fun k => ∀ m, (L k (m + 1) (vals s) (hp s)).bind (A k) = (L k m (vals s') (hp s')).bind (A k))) :
    ∀ s, Inv s → ∃ v σ', Good v σ' ∧ Ev fun k => ∀ m, far s < m → (L k m (vals s) (hp s)).bind (A k) = some (v, σ') := by
  have key : ∀ n s, far s ≤ n → Inv s → ∃ v σ', Good v σ' ∧ Ev fun k => ∀ m, far s < m → (L k m (vals s) (hp s)).bind (A k) = some (v, σ') := by
    intro n
    induction n with
    | zero =>
      intro s hs hi
      rcases h s hi with ⟨v, σ', hg, he⟩ | ⟨s', _, hlt, _⟩
      · refine ⟨v, σ', hg, he.mono fun k hk m hm => ?_⟩
        obtain ⟨m, rfl⟩ : ∃ j, m = j + 1 := ⟨m - 1, by omega⟩
        exact hk m
      · omega
    | succ n ih =>
      intro s hs hi
      rcases h s hi with ⟨v, σ', hg, he⟩ | ⟨s', hi', hlt, he⟩
      · refine ⟨v, σ', hg, he.mono fun k hk m hm => ?_⟩
        obtain ⟨m, rfl⟩ : ∃ j, m = j + 1 := ⟨m - 1, by omega⟩
        exact hk m
      · obtain ⟨v, σ', hg, he'⟩ := ih s' (by omega) hi'
        refine ⟨v, σ', hg, (he.and he').mono fun k ⟨h1, h2⟩ m hm => ?_⟩
        obtain ⟨m, rfl⟩ : ∃ j, m = j + 1 := ⟨m - 1, by omega⟩
        rw [h1 m]
        exact h2 m (by omega)
  exact fun s hi => key (far s) s (Nat.le_refl _) hi
/-- A call that yields a plain value, whatever it makes on the way. -/
def Gives (G : Glob) (f : FuncId) (args : List V) (σ : Heap) (v : V) : Prop := ∃ σ', Lh σ σ' ∧ Runs G f args σ v σ'
theorem Gives.mk {G : Glob} {f : FuncId} {args : List V} {σ σ' : Heap} {v : V} (hl : Lh σ σ') (h : Ev fun k => hcall G (k + 1) f args σ = some (v, σ')) : Gives G f args σ v := ⟨σ', hl, Runs.mk h⟩
theorem sbyte_at {s : ByteArray} {i : Nat} (h : i < s.size) : sbyte s (i : Int) = some (s[i].toNat : Int) := by
  unfold sbyte
  rw [if_pos (by omega)]
  simp [h]
/-- A slice that was just laid. -/
theorem RepS.lit {α : Type} {P : List V → α → Prop} (σ : Heap) (l : List α) (f : α → V) (hP : ∀ x, P [f x] x) (lim : Bool) (n : Nat) (hn : n = l.length) : RepS 1 P (hnew σ 1 (l.map f)) (.sl σ.length 0 n lim) l := by
  refine .sl σ.length 0 n lim ⟨l.map f, 1, false, 0⟩ l hn (List.getElem?_concat_length ..) rfl (by simp) fun i x hx => ?_
  have : ((l.map f).drop (0 + i * 1)).take 1 = [f x] := by
    apply List.ext_getElem?
    intro j
    rw [chunk_get]
    split
    · rename_i hj
      obtain rfl : j = 0 := by omega
      simp [hx]
    · rename_i hj
      rw [List.getElem?_eq_none (by simp; omega)]
  rw [this]
  exact hP x
theorem totS_append {α : Type} (f : α → Nat) : ∀ (l k : List α), totS f (l ++ k) = totS f l + totS f k
  | [], k => by simp [totS]
  | x :: l, k => by rw [List.cons_append, totS, totS, totS_append f l k, Nat.add_assoc]
theorem totS_take_le {α : Type} (f : α → Nat) : ∀ (l : List α) (i : Nat), totS f (l.take i) ≤ totS f l
  | [], i => by simp
  | x :: l, 0 => by simp [totS]
  | x :: l, i + 1 => by rw [List.take_succ_cons, totS, totS]; have := totS_take_le f l i; omega
/-- The largest. -/
def maxS {α : Type} (f : α → Nat) : List α → Nat
  | [] => 0
  | x :: xs => max (f x) (maxS f xs)
theorem maxS_append {α : Type} (f : α → Nat) : ∀ (l k : List α), maxS f (l ++ k) = max (maxS f l) (maxS f k)
  | [], k => by simp [maxS]
  | x :: l, k => by rw [List.cons_append, maxS, maxS, maxS_append f l k]; omega
theorem take_next {α : Type} {l : List α} {i : Nat} (h : i < l.length) : l.take (i + 1) = l.take i ++ [l[i]] := by
  rw [List.take_add_one, List.getElem?_eq_getElem h]
  rfl
theorem rdc_sub {σ : Heap} {r o n : Nat} {cs : List V} (h : rdc σ r o n = some cs) (j k : Nat) (hj : j + k ≤ n) : rdc σ r (o + j) k = some ((cs.drop j).take k) := by
  obtain ⟨row, h1, h2, h3⟩ := rdc_some h
  rw [rdc, h1]
  simp only
  rw [if_pos (by omega), h3, List.drop_take, List.drop_drop, List.take_take, Nat.min_eq_left (by omega)]
/-! Slices that grow by append. -/
def Chunks {α : Type} (esz : Nat) (P : List V → α → Prop) (cs : List V) (l : List α) : Prop := cs.length = l.length * esz ∧ ∀ i x, l[i]? = some x → P ((cs.drop (i * esz)).take esz) x
theorem mul_le_of_lt {i n : Nat} (h : i < n) (esz : Nat) : i * esz + esz ≤ n * esz := by
  have := Nat.mul_le_mul_right esz (Nat.succ_le_of_lt h)
  rw [Nat.succ_mul] at this
  exact this
theorem Chunks.append {α : Type} {esz : Nat} {P : List V → α → Prop} {cs ds : List V} {l k : List α} (h : Chunks esz P cs l) (g : Chunks esz P ds k) : Chunks esz P (cs ++ ds) (l ++ k) := by
  refine ⟨by rw [List.length_append, List.length_append, h.1, g.1, Nat.add_mul], fun i x hx => ?_⟩
  rcases Nat.lt_or_ge i l.length with hi | hi
  · rw [List.getElem?_append_left hi] at hx
    have := mul_le_of_lt hi esz
    rw [List.drop_append_of_le_length (by rw [h.1]; omega), List.take_append_of_le_length (by rw [List.length_drop, h.1]; omega)]
    exact h.2 i x hx
  · rw [List.getElem?_append_right hi] at hx
    obtain ⟨j, rfl⟩ : ∃ j, i = l.length + j := ⟨i - l.length, by omega⟩
    have e : l.length + j - l.length = j := by omega
    rw [e] at hx
    have e2 : (l.length + j) * esz = cs.length + j * esz := by rw [Nat.add_mul, h.1]
    rw [e2, ← List.drop_drop, List.drop_left]
    exact g.2 j x hx
theorem Chunks.one {α : Type} {P : List V → α → Prop} {cs : List V} {x : α} (h : P cs x) : Chunks cs.length P cs [x] := by
  refine ⟨by simp, fun i y hy => ?_⟩
  cases i with
  | zero => simp at hy; subst hy; simpa using h
  | succ i => simp at hy
def Grown {α : Type} (b esz : Nat) (P : List V → α → Prop) (σ : Heap) (v : V) (l : List α) : Prop :=
  ∃ r lim row, v = .sl r 0 l.length lim ∧ b ≤ r ∧ σ[r]? = some (some row) ∧ row.ro = false ∧ row.esz = esz ∧ Chunks esz P row.cells l
section
variable {α : Type} {b esz : Nat} {P Q : List V → α → Prop} {σ σ' : Heap} {v : V} {l : List α}
theorem Grown.start (σ : Heap) (esz : Nat) (P : List V → α → Prop) (lim : Bool) : Grown σ.length esz P (hnew σ esz []) (.sl σ.length 0 0 lim) ([] : List α) :=
  ⟨σ.length, lim, ⟨[], esz, false, 0⟩, rfl, Nat.le_refl _, List.getElem?_concat_length .., rfl, rfl, by simp, fun i x hx => by simp at hx⟩
theorem Grown.le (h : Grown b esz P σ v l) (hl : Lh σ σ') : Grown b esz P σ' v l := by
  obtain ⟨r, lim, row, h1, h2, h3, h4⟩ := h
  exact ⟨r, lim, row, h1, h2, hl.row _ _ h3, h4⟩
theorem Grown.rep (h : Grown b esz P σ v l) (hP : ∀ cs x, x ∈ l → P cs x → Q cs x) : RepS esz Q σ v l := by
  obtain ⟨r, lim, row, rfl, h2, h3, h4, h5, h6, h7⟩ := h
  exact .sl r 0 l.length lim row l rfl h3 h5 (by omega) fun i x hx => by rw [Nat.zero_add]; exact hP _ _ (List.mem_of_getElem? hx) (h7 i x hx)
theorem Grown.app (h : Grown b esz P σ v l) {cs : List V} {ys : List α} (hc : Chunks esz P cs ys) {bytes : Nat} (h1 : (l.length + ys.length) * bytes ≤ 2 ^ 46) (h2 : l.length + ys.length ≤ 2 ^ 46) :
    ∃ v' σ', vappend esz bytes σ v ys.length cs = some (v', σ') ∧ Grown b esz P σ' v' (l ++ ys) ∧ ∀ σe : Heap, σe.length ≤ b → Lh σe σ → Lh σe σ' := by
  obtain ⟨r, lim, row, rfl, g2, g3, g4, g5, g6⟩ := h
  have hcond : row.esz = esz ∧ 0 + l.length * esz ≤ row.cells.length ∧ (l.length + ys.length) * bytes ≤ 2 ^ 46 ∧ l.length + ys.length ≤ 2 ^ 46 := ⟨g5, by have := g6.1; omega, h1, h2⟩
  have hcells : row.cells.take (l.length * esz) = row.cells := by rw [← g6.1]; exact List.take_length
  unfold vappend
  simp only [g3]
  rw [if_pos hcond]
  cases lim with
  | true =>
    rw [if_pos rfl]
    by_cases hy : ys.length = 0
    · rw [if_pos hy]
      have : ys = [] := List.length_eq_zero_iff.1 hy
      subst this
      exact ⟨_, σ, rfl, ⟨r, true, row, by simp, g2, g3, g4, g5, by simpa using g6⟩, fun _ _ h => h⟩
    · rw [if_neg hy]
      refine ⟨_, _, rfl, ⟨σ.length, false, ⟨row.cells ++ cs, esz, false, 0⟩, by rw [List.length_append], ?_, ?_, rfl, rfl, g6.append hc⟩, fun σe _ he => he.trans (Lh.new _ _ _)⟩
      · have := get_lt g3
        omega
      · rw [List.drop_zero, hcells]
        exact List.getElem?_concat_length ..
  | false =>
    rw [if_neg (by simp), if_pos ⟨g4, trivial⟩, hcells]
    refine ⟨_, _, rfl, ⟨σ.length, false, ⟨row.cells ++ cs, esz, false, 0⟩, by rw [List.length_append], ?_, ?_, rfl, rfl, g6.append hc⟩, fun σe hb he => (he.set (by omega) none).trans (Lh.new _ _ _)⟩
    · have := get_lt g3
      omega
    · have : (hnew (σ.set r none) esz (row.cells ++ cs))[(σ.set r none).length]? = some (some ⟨row.cells ++ cs, esz, false, 0⟩) := List.getElem?_concat_length ..
      rw [List.length_set] at this
      exact this
/-- All cells of a slice. -/
theorem RepS.cells (h : RepS esz P σ v l) : ∃ cs, vcells σ esz v = some (l.length, cs) ∧ Chunks esz P cs l := by
  cases h with
  | nils => exact ⟨[], rfl, by simp, fun i x hx => by simp at hx⟩
  | emp => exact ⟨[], rfl, by simp, fun i x hx => by simp at hx⟩
  | sl r o n lim row l h1 h2 h3 h4 h5 =>
    subst h1
    refine ⟨(row.cells.drop o).take (l.length * esz), ?_, by rw [List.length_take, List.length_drop]; omega, fun i x hx => ?_⟩
    · rw [vcells, rdc, h2]
      simp only
      rw [if_pos h4]
      rfl
    · have := mul_le_of_lt (List.getElem?_eq_some_iff.1 hx).1 esz
      have e : (((row.cells.drop o).take (l.length * esz)).drop (i * esz)).take esz = (row.cells.drop (o + i * esz)).take esz := by
        rw [List.drop_take, List.drop_drop, List.take_take, Nat.min_eq_left (by omega)]
      rw [e]
      exact h5 i x hx
/-- The first elements of a slice. -/
theorem RepS.first (h : RepS esz P σ v l) {i : Nat} (hi : i < l.length) : ∃ u, vslice esz v none (some (i : Int)) = some u ∧ RepS esz P σ u (l.take i) := by
  cases h with
  | nils => simp at hi
  | emp => simp at hi
  | sl r o n lim row l h1 h2 h3 h4 h5 =>
    subst h1
    refine ⟨.sl r o i (lim && decide ((i : Int) = (l.length : Int))), ?_, .sl r o i _ row (l.take i) (by rw [List.length_take]; omega) h2 h3 ?_ fun j x hx => ?_⟩
    · simp [vslice]
      omega
    · rw [List.length_take]
      have : min i l.length * esz ≤ l.length * esz := Nat.mul_le_mul_right esz (by omega)
      omega
    · rw [List.getElem?_take] at hx
      split at hx
      · exact h5 j x hx
      · cases hx
end
end Go.HM
