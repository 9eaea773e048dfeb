/- Marks: what lies in a window of the heap is written over, and keeps its shape. -/
import Derived.Test.YtoakhfnojbmhgaaGreatHMStr
set_option linter.unusedVariables false
set_option linter.unusedSimpArgs false
namespace Go.HM
def KSame : V → V → Prop
  | .str _, .str _ => True
  | .int k _, .int k' _ => k = k'
  | .bool _, .bool _ => True
  | x, y => x = y
theorem KSame.refl (x : V) : KSame x x := by cases x <;> simp [KSame]
theorem KSame.trans {x y z : V} (h : KSame x y) (g : KSame y z) : KSame x z := by
  cases x <;> cases y <;> simp [KSame] at h <;> cases z <;> simp [KSame] at g ⊢ <;> simp_all
def CSame (cs ds : List V) : Prop := ds.length = cs.length ∧ ∀ (i : Nat) x y, cs[i]? = some x → ds[i]? = some y → KSame x y
theorem CSame.refl (cs : List V) : CSame cs cs := ⟨rfl, fun i x y h g => by rw [h] at g; injection g with g; rw [g]; exact KSame.refl _⟩
theorem CSame.trans {a b c : List V} (h : CSame a b) (g : CSame b c) : CSame a c := ⟨g.1.trans h.1, fun i x z hx hz => by
  have hi := (List.getElem?_eq_some_iff.1 hx).1
  have hb : i < b.length := by rw [h.1]; exact hi
  exact (h.2 i x _ hx (List.getElem?_eq_getElem hb)).trans (g.2 i _ z (List.getElem?_eq_getElem hb) hz)⟩
theorem CSame.chunk {a b : List V} (h : CSame a b) (o n : Nat) : CSame ((a.drop o).take n) ((b.drop o).take n) := ⟨by simp [h.1], fun i x y hx hy => by
  rw [chunk_get] at hx hy
  split at hx
  · rename_i hi
    rw [if_pos hi] at hy
    exact h.2 _ x y hx hy
  · cases hx⟩
/-- The rows from lo on, below hi, that may be written. -/
def win (lo hi : Nat) (σ : Heap) : Heap := σ.mapIdx fun j x => if lo ≤ j ∧ j < hi then (match x with
  | some row => if row.ro then none else some row
  | none => none) else none
theorem win_length (lo hi : Nat) (σ : Heap) : (win lo hi σ).length = σ.length := by simp [win]
theorem win_get {lo hi : Nat} {σ : Heap} {j : Nat} {row : Row} : (win lo hi σ)[j]? = some (some row) ↔ (lo ≤ j ∧ j < hi) ∧ σ[j]? = some (some row) ∧ row.ro = false := by
  unfold win
  rw [List.getElem?_mapIdx]
  constructor
  · intro h
    obtain ⟨x, hx, hr⟩ := Option.map_eq_some_iff.1 h
    split at hr
    · rename_i hj
      cases x with
      | none => cases hr
      | some r =>
        simp only at hr
        split at hr
        · cases hr
        · rename_i hro
          injection hr with hr
          subst hr
          exact ⟨hj, hx, by simpa using hro⟩
    · cases hr
  · rintro ⟨hj, hx, hro⟩
    rw [hx]
    simp [hj, hro]
theorem Lh.win (lo hi : Nat) (σ : Heap) : Lh (HM.win lo hi σ) σ := ⟨by rw [win_length]; exact Nat.le_refl _, fun j row h => (win_get.1 h).2.1⟩
theorem Lh.ofWipe {lo hi : Nat} {σ σ' : Heap} (h : Lh σ σ') (hh : σ.length ≤ hi) : Lh (HM.wipe lo σ) (HM.win lo hi σ') := ⟨by rw [wipe_length, win_length]; exact h.len, fun j row hj => by
  obtain ⟨h1, h2, h3⟩ := wipe_get.1 hj
  exact win_get.2 ⟨⟨h1, Nat.lt_of_lt_of_le (get_lt h2) hh⟩, h.row _ _ h2, h3⟩⟩
/-- The same shape, and the same outside the window. -/
structure Sm (lo hi : Nat) (σ σ' : Heap) : Prop where
  len : σ'.length = σ.length
  out : ∀ j, (j < lo ∨ hi ≤ j) → σ'[j]? = σ[j]?
  row : ∀ (j : Nat) (row : Row), σ[j]? = some (some row) → ∃ cells, σ'[j]? = some (some { row with cells := cells }) ∧ CSame row.cells cells
theorem Sm.refl (lo hi : Nat) (σ : Heap) : Sm lo hi σ σ := ⟨rfl, fun _ _ => rfl, fun j row h => ⟨row.cells, h, CSame.refl _⟩⟩
theorem Sm.trans {lo hi : Nat} {a b c : Heap} (h : Sm lo hi a b) (g : Sm lo hi b c) : Sm lo hi a c := ⟨g.len.trans h.len, fun j hj => (g.out j hj).trans (h.out j hj), fun j row hj => by
  obtain ⟨c1, h1, h2⟩ := h.row j row hj
  obtain ⟨c2, h3, h4⟩ := g.row j _ h1
  exact ⟨c2, h3, h2.trans h4⟩⟩
theorem Sm.rep {α : Type} {esz : Nat} {P Q : List V → α → Prop} {lo hi : Nat} {σ σ' : Heap} {v : V} {l : List α} (s : Sm lo hi σ σ') (h : RepS esz P (win lo hi σ) v l) (hP : ∀ cs cs' x, x ∈ l → CSame cs cs' → P cs x → Q cs' x) : RepS esz Q (win lo hi σ') v l := by
  cases h with
  | nils => exact .nils
  | emp => exact .emp
  | sl r o n lim row l h1 h2 h3 h4 h5 =>
    obtain ⟨k1, k2, k3⟩ := win_get.1 h2
    obtain ⟨cells, g1, g2⟩ := s.row _ _ k2
    exact .sl r o n lim _ l h1 (win_get.2 ⟨k1, g1, k3⟩) h3 (by show _ ≤ cells.length; rw [g2.1]; exact h4) fun i x hx => hP _ _ _ (List.mem_of_getElem? hx) (g2.chunk _ _) (h5 i x hx)
theorem Sm.lh {lo hi : Nat} {σ0 σ σ' : Heap} (s : Sm lo hi σ σ') (h : Lh σ0 σ) (hl : σ0.length ≤ lo) : Lh σ0 σ' := ⟨by rw [s.len]; exact h.len, fun j row hj => by
  rw [s.out j (.inl (Nat.lt_of_lt_of_le (get_lt hj) hl))]
  exact h.row _ _ hj⟩
theorem setCells_csame {cs ys : List V} {o : Nat} (h : o + ys.length ≤ cs.length) (hk : CSame ((cs.drop o).take ys.length) ys) : CSame cs (setCells cs o ys) := by
  refine ⟨setCells_len _ _ _, fun i x y hx hy => ?_⟩
  rw [setCells_get _ _ _ _ h] at hy
  split at hy
  · rename_i hi
    refine hk.2 (i - o) x y ?_ hy
    rw [chunk_get, if_pos (by omega), ← hx]
    congr 1
    omega
  · rw [hx] at hy
    injection hy with hy
    rw [hy]; exact KSame.refl _
/-- An element in the window: what lies there, and that it may be written. -/
theorem RepS.wat {α : Type} {esz : Nat} {P : List V → α → Prop} {lo hi : Nat} {σ : Heap} {v : V} {l : List α} (h : RepS esz P (win lo hi σ) v l) {i : Nat} {x : α} (hx : l[i]? = some x) :
    ∃ r o, vidx esz v (i : Int) = some (r, o) ∧ (∃ cs, rdc σ r o esz = some cs ∧ P cs x) ∧ ∀ σ1, Sm lo hi σ σ1 → ∀ off ys cs, rdc σ1 r o esz = some cs → off + ys.length ≤ esz → CSame ((cs.drop off).take ys.length) ys →
      ∃ σ2, wrc σ1 r (o + off) ys = some σ2 ∧ Sm lo hi σ1 σ2 := by
  obtain ⟨hi', rfl⟩ := List.getElem?_eq_some_iff.1 hx
  cases h with
  | nils => simp at hi'
  | emp => simp at hi'
  | sl r o n lim row l h1 h2 h3 h4 h5 =>
    obtain ⟨k1, k2, k3⟩ := win_get.1 h2
    obtain ⟨r', o', hv, cs, hr, hP⟩ := (RepS.sl (σ := σ) r o n lim row l h1 k2 h3 h4 h5).at hi'
    refine ⟨r', o', hv, ⟨cs, hr, hP⟩, fun σ1 s off ys cs1 hr1 hb hk => ?_⟩
    have hrr : r' = r := by
      simp only [vidx] at hv
      split at hv
      · injection hv with hv; injection hv with hv1 _; exact hv1.symm
      · cases hv
    subst hrr
    obtain ⟨cells, g1, g2⟩ := s.row _ _ k2
    obtain ⟨row1, t1, t2, t3⟩ := rdc_some hr1
    rw [g1] at t1
    injection t1 with t1; injection t1 with t1
    subst t1
    simp only at t2 t3
    subst t3
    have hlen : off + ys.length ≤ esz := hb
    have hbound : o' + off + ys.length ≤ cells.length := by omega
    have hck : CSame ((cells.drop (o' + off)).take ys.length) ys := by
      have e : (((cells.drop o').take esz).drop off).take ys.length = (cells.drop (o' + off)).take ys.length := by
        rw [List.drop_take, List.drop_drop, List.take_take, Nat.min_eq_left (by omega)]
      rw [← e]
      exact hk
    have hset := setCells_csame hbound hck
    refine ⟨σ1.set r' (some { row with cells := setCells cells (o' + off) ys }), ?_, ⟨by simp, fun j hj => ?_, fun j row2 hj => ?_⟩⟩
    · simp [wrc, g1, k3, hbound]
    · rw [List.getElem?_set, if_neg (by omega)]
    · rw [List.getElem?_set]
      by_cases hjr : r' = j
      · subst hjr
        rw [g1] at hj
        injection hj with hj; injection hj with hj
        subst hj
        exact ⟨_, by rw [if_pos rfl, if_pos (get_lt g1)], hset⟩
      · rw [if_neg hjr]
        exact ⟨_, hj, CSame.refl _⟩
theorem Sm.rdc {lo hi : Nat} {σ σ' : Heap} (s : Sm lo hi σ σ') {r o n : Nat} {cs : List V} (h : rdc σ r o n = some cs) : ∃ cs', rdc σ' r o n = some cs' ∧ CSame cs cs' := by
  obtain ⟨row, h1, h2, h3⟩ := rdc_some h
  obtain ⟨cells, g1, g2⟩ := s.row _ _ h1
  refine ⟨(cells.drop o).take n, ?_, by rw [h3]; exact g2.chunk _ _⟩
  rw [HM.rdc, g1]
  simp only
  rw [if_pos (by rw [g2.1]; exact h2)]
/-! Shapes. -/
def StrSh (cs : List V) (x : ByteArray) : Prop := ∃ s, cs = [.str s]
def IntSh (cs : List V) (x : Int) : Prop := ∃ n, cs = [.int .i64 n]
theorem csame_str {s : ByteArray} {cs : List V} (h : CSame [.str s] cs) : ∃ t, cs = [.str t] := by
  obtain ⟨h1, h2⟩ := h
  match cs, h1, h2 with
  | [y], _, h2 =>
    have := h2 0 _ _ rfl rfl
    cases y <;> simp [KSame] at this
    exact ⟨_, rfl⟩
theorem csame_int {k : IntKind} {n : Int} {cs : List V} (h : CSame [.int k n] cs) : ∃ m, cs = [.int k m] := by
  obtain ⟨h1, h2⟩ := h
  match cs, h1, h2 with
  | [y], _, h2 =>
    have := h2 0 _ _ rfl rfl
    cases y <;> simp [KSame] at this
    subst this
    exact ⟨_, rfl⟩
theorem csame_cons {x : V} {xs cs : List V} (h : CSame (x :: xs) cs) : ∃ y ys, cs = y :: ys ∧ KSame x y ∧ CSame xs ys := by
  obtain ⟨h1, h2⟩ := h
  match cs, h1, h2 with
  | y :: ys, h1, h2 => exact ⟨y, ys, rfl, h2 0 _ _ rfl rfl, by simpa using h1, fun i a b ha hb => h2 (i + 1) a b (by simpa using ha) (by simpa using hb)⟩
theorem csame_nil {cs : List V} (h : CSame [] cs) : cs = [] := List.eq_nil_of_length_eq_zero (by simpa using h.1)
theorem ksame_str {s : ByteArray} {y : V} (h : KSame (.str s) y) : ∃ t, y = .str t := by cases y <;> simp [KSame] at h; exact ⟨_, rfl⟩
theorem ksame_int {k : IntKind} {n : Int} {y : V} (h : KSame (.int k n) y) : ∃ m, y = .int k m := by cases y <;> simp [KSame] at h; subst h; exact ⟨_, rfl⟩
theorem ksame_bool {b : Bool} {y : V} (h : KSame (.bool b) y) : ∃ c, y = .bool c := by cases y <;> simp [KSame] at h; exact ⟨_, rfl⟩
/-- A slice cell keeps its slice. -/
theorem ksame_rep {α : Type} {esz : Nat} {P : List V → α → Prop} {σ : Heap} {v y : V} {l : List α} (h : RepS esz P σ v l) (hk : KSame v y) : y = v := by
  cases h <;> cases y <;> simp [KSame] at hk <;> simp [hk]
theorem StrRow.put {σ : Heap} {q : Nat} {l : List ByteArray} (h : StrRow σ q l) {i : Nat} (hi : i < l.length) (s : ByteArray) : ∃ σ', wrc σ q i [.str s] = some σ' ∧ StrRow σ' q (l.set i s) ∧ σ'.length = σ.length ∧ ∀ j, j ≠ q → σ'[j]? = σ[j]? := by
  obtain ⟨ty, h⟩ := h
  refine ⟨σ.set q (some ⟨(l.set i s).map .str, 1, false, ty⟩), ?_, ⟨ty, by simp [get_lt h]⟩, by simp, fun j hj => by rw [List.getElem?_set, if_neg (Ne.symm hj)]⟩
  simp only [wrc, h]
  rw [if_pos ⟨trivial, by simp; omega⟩]
  simp [setCells, List.map_set]
end Go.HM
