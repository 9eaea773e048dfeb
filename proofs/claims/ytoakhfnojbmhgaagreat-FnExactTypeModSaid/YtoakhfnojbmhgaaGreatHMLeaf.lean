/- Marks, place for place: what is written at a list of places, and what is found there. -/
import Derived.Test.YtoakhfnojbmhgaaGreatHMMark
set_option linter.unusedVariables false
set_option linter.unusedSimpArgs false
namespace Go.HM
/-! The text of a mark. -/
def mByte (n : Nat) : ByteArray := ByteArray.empty.push (UInt8.ofNat (IntKind.wrap .u8 (IntKind.wrap .i64 (48 + Int.tmod (n : Int) 10))).toNat)
def mDig (n : Nat) (s : ByteArray) : ByteArray := if h : n = 0 then s else mDig (n / 10) (mByte n ++ s)
termination_by n
decreasing_by omega
def mText (n : Nat) : ByteArray := (⟨#[109]⟩ : ByteArray) ++ mDig n ⟨#[]⟩
/-- What a place holds. -/
inductive MK where
  | i
  | s
  | b
def mv : MK → Nat → V
  | .i, n => .int .i64 (n : Int)
  | .s, n => .str (mText n)
  | .b, n => .bool (decide (Int.tmod (n : Int) 3 = 0))
theorem mv_kind (k : MK) (m n : Nat) : KSame (mv k m) (mv k n) := by cases k <;> simp [mv, KSame]
abbrev Leaf := MK × Nat × Nat
def cellAt (σ : Heap) (r o : Nat) : Option V := match σ[r]? with
  | some (some row) => row.cells[o]?
  | _ => none
def wr1 (σ : Heap) (r o : Nat) (x : V) : Heap := match σ[r]? with
  | some (some row) => σ.set r (some { row with cells := row.cells.set o x })
  | _ => σ
def wrs : Heap → Nat → List Leaf → Heap
  | σ, _, [] => σ
  | σ, n, (k, r, o) :: ls => wrs (wr1 σ r o (mv k n)) (n + 1) ls
theorem wrs_app : ∀ (A B : List Leaf) (σ : Heap) (n : Nat), wrs σ n (A ++ B) = wrs (wrs σ n A) (n + A.length) B
  | [], B, σ, n => rfl
  | (k, r, o) :: A, B, σ, n => by
    rw [List.cons_append, wrs, wrs, wrs_app A B, List.length_cons]
    congr 1
    omega
theorem wrs_snoc (A : List Leaf) (k : MK) (r o : Nat) (σ : Heap) (n : Nat) : wrs σ n (A ++ [(k, r, o)]) = wr1 (wrs σ n A) r o (mv k (n + A.length)) := by rw [wrs_app]; rfl
theorem wr1_len (σ : Heap) (r o : Nat) (x : V) : (wr1 σ r o x).length = σ.length := by
  unfold wr1
  split <;> simp
theorem wrs_len : ∀ (A : List Leaf) (σ : Heap) (n : Nat), (wrs σ n A).length = σ.length
  | [], _, _ => rfl
  | (k, r, o) :: A, σ, n => by rw [wrs, wrs_len A, wr1_len]
theorem wr1_out {σ : Heap} {r o j : Nat} {x : V} (h : j ≠ r) : (wr1 σ r o x)[j]? = σ[j]? := by
  unfold wr1
  split
  · rw [List.getElem?_set, if_neg (Ne.symm h)]
  · rfl
theorem wrs_out : ∀ (A : List Leaf) {σ : Heap} {n j : Nat}, (∀ l, l ∈ A → l.2.1 ≠ j) → (wrs σ n A)[j]? = σ[j]?
  | [], _, _, _, _ => rfl
  | (k, r, o) :: A, σ, n, j, h => by
    rw [wrs, wrs_out A fun l hl => h l (List.mem_cons_of_mem _ hl), wr1_out (Ne.symm (h _ (List.mem_cons_self ..)))]
theorem cellAt_some {σ : Heap} {r o : Nat} {x : V} (h : cellAt σ r o = some x) : ∃ row, σ[r]? = some (some row) ∧ row.cells[o]? = some x := by
  unfold cellAt at h
  split at h
  · rename_i row hr
    exact ⟨row, hr, h⟩
  · cases h
theorem cell_wr1 {σ : Heap} {r o r' o' : Nat} {x : V} : cellAt (wr1 σ r o x) r' o' = if r = r' ∧ o = o' then (match cellAt σ r o with | some _ => some x | none => none) else cellAt σ r' o' := by
  unfold wr1
  split
  · rename_i row hr
    by_cases h1 : r = r'
    · subst h1
      have hl := get_lt hr
      have e : (σ.set r (some { row with cells := row.cells.set o x }))[r]? = some (some { row with cells := row.cells.set o x }) := by rw [List.getElem?_set, if_pos rfl, if_pos hl]
      unfold cellAt
      rw [e, hr]
      simp only [List.getElem?_set]
      by_cases h2 : o = o'
      · subst h2
        simp only [and_self, if_true]
        cases hc : row.cells[o]? with
        | none => rw [if_neg (by rw [List.getElem?_eq_none_iff] at hc; omega)]
        | some y => rw [if_pos (List.getElem?_eq_some_iff.1 hc).1]
      · simp [h2]
    · rw [if_neg (fun h => h1 h.1)]
      unfold cellAt
      rw [List.getElem?_set, if_neg h1]
  · rename_i hno
    split
    · rename_i h
      obtain ⟨h1, h2⟩ := h
      subst h1 h2
      unfold cellAt
      split
      · rename_i row hr; exact absurd hr (hno row)
      · rfl
    · rfl
theorem cell_wrs : ∀ (A : List Leaf) {σ : Heap} {n r o : Nat}, (∀ k, (k, r, o) ∉ A) → cellAt (wrs σ n A) r o = cellAt σ r o
  | [], _, _, _, _, _ => rfl
  | (k, r', o') :: A, σ, n, r, o, h => by
    rw [wrs, cell_wrs A fun k hk => h k (List.mem_cons_of_mem _ hk), cell_wr1, if_neg]
    rintro ⟨rfl, rfl⟩
    exact h k (List.mem_cons_self ..)
/-- What the places hold. -/
def HeldAt (σ : Heap) (n : Nat) (L : List Leaf) : Prop := ∀ (i : Nat) k r o, L[i]? = some (k, r, o) → cellAt σ r o = some (mv k (n + i))
theorem HeldAt.app {σ : Heap} {n : Nat} {A B : List Leaf} (h : HeldAt σ n (A ++ B)) : HeldAt σ n A ∧ HeldAt σ (n + A.length) B :=
  ⟨fun i k r o hi => h i k r o (by rw [List.getElem?_append_left (List.getElem?_eq_some_iff.1 hi).1]; exact hi), fun i k r o hi => by
    have := h (A.length + i) k r o (by rw [List.getElem?_append_right (by omega)]; simpa using hi)
    rw [this]
    congr 2
    omega⟩
theorem HeldAt.one {σ : Heap} {n : Nat} {k : MK} {r o : Nat} (h : HeldAt σ n [(k, r, o)]) : cellAt σ r o = some (mv k n) := h 0 k r o rfl
theorem HeldAt.le {σ σ' : Heap} {n : Nat} {L : List Leaf} (h : HeldAt σ n L) (hl : Lh σ σ') : HeldAt σ' n L := fun i k r o hi => by
  obtain ⟨row, h1, h2⟩ := cellAt_some (h i k r o hi)
  unfold cellAt
  rw [hl.row _ _ h1]
  exact h2
/-- What is written at places that are all others is found there. -/
theorem held_wrs : ∀ (L : List Leaf) {σ : Heap} {n : Nat}, (∀ k r o, (k, r, o) ∈ L → cellAt σ r o ≠ none) → (L.map fun l => l.2).Nodup → HeldAt (wrs σ n L) n L
  | [], _, _, _, _ => fun i k r o hi => by simp at hi
  | (k0, r0, o0) :: L, σ, n, hc, hn => by
    simp only [List.map_cons, List.nodup_cons, List.mem_map, not_exists, not_and] at hn
    have hin : ∀ k, (k, r0, o0) ∉ L := fun k hk => hn.1 _ hk rfl
    intro i k r o hi
    cases i with
    | zero =>
      simp at hi
      obtain ⟨rfl, rfl, rfl⟩ := hi
      rw [wrs, cell_wrs L hin, cell_wr1, if_pos ⟨rfl, rfl⟩]
      cases h : cellAt σ r0 o0 with
      | none => exact absurd h (hc k0 r0 o0 (List.mem_cons_self ..))
      | some x => rfl
    | succ i =>
      have := held_wrs L (σ := wr1 σ r0 o0 (mv k0 n)) (n := n + 1) (fun k r o hk => by
        rw [cell_wr1]
        split
        · rename_i h
          obtain ⟨rfl, rfl⟩ := h
          exact absurd hk (hin k)
        · exact hc k r o (List.mem_cons_of_mem _ hk)) hn.2 i k r o (by simpa using hi)
      rw [wrs, this]
      congr 2
      omega
/-- The same shape of all that was there. -/
def Shp (σ0 σ : Heap) : Prop := ∀ (r : Nat) (row : Row), σ0[r]? = some (some row) → ∃ cells, σ[r]? = some (some { row with cells := cells }) ∧ CSame row.cells cells
theorem Shp.refl (σ : Heap) : Shp σ σ := fun r row h => ⟨row.cells, h, CSame.refl _⟩
theorem Shp.le {σ0 σ1 σ : Heap} (h : Shp σ0 σ1) (hl : Lh σ1 σ) : Shp σ0 σ := fun r row hr => by
  obtain ⟨cells, h1, h2⟩ := h r row hr
  exact ⟨cells, hl.row _ _ h1, h2⟩
theorem Shp.ge {σ0 σ1 σ : Heap} (hl : Lh σ0 σ1) (h : Shp σ1 σ) : Shp σ0 σ := fun r row hr => h r row (hl.row _ _ hr)
theorem Shp.lh {σ0 σ : Heap} (hl : Lh σ0 σ) : Shp σ0 σ := (Shp.refl σ0).le hl
theorem set_csame {cs : List V} {o : Nat} {x y : V} (h : cs[o]? = some x) (hk : KSame x y) : CSame cs (cs.set o y) := ⟨by simp, fun i a b ha hb => by
  rw [List.getElem?_set] at hb
  split at hb
  · rename_i he
    subst he
    split at hb
    · injection hb with hb
      rw [h] at ha
      injection ha with ha
      rw [← ha, ← hb]; exact hk
    · cases hb
  · rw [ha] at hb
    injection hb with hb
    rw [hb]; exact KSame.refl _⟩
/-- A place of a kind that may be written. -/
def Fl (σ : Heap) (k : MK) (r o : Nat) : Prop := ∃ row x, σ[r]? = some (some row) ∧ row.ro = false ∧ row.cells[o]? = some x ∧ KSame x (mv k 0)
theorem Fl.shp {σ0 σ : Heap} {k : MK} {r o : Nat} (s : Shp σ0 σ) (h : Fl σ0 k r o) : Fl σ k r o := by
  obtain ⟨row, x, h1, h2, h3, h4⟩ := h
  obtain ⟨cells, g1, g2⟩ := s r row h1
  have hl : o < cells.length := by rw [g2.1]; exact (List.getElem?_eq_some_iff.1 h3).1
  have hx := g2.2 o x _ h3 (List.getElem?_eq_getElem hl)
  refine ⟨_, _, g1, h2, List.getElem?_eq_getElem hl, ?_⟩
  cases k <;> cases x <;> simp [mv, KSame] at h4 <;> (generalize cells[o] = y at hx ⊢; cases y <;> simp [mv, KSame] at hx ⊢ <;> simp_all)
theorem Fl.cell {σ : Heap} {k : MK} {r o : Nat} (h : Fl σ k r o) : cellAt σ r o ≠ none := by
  obtain ⟨row, x, h1, h2, h3, h4⟩ := h
  unfold cellAt
  rw [h1]
  simp only [h3]
  simp
/-- A mark is put. -/
theorem put_leaf {σ0 σ : Heap} {n : Nat} {A : List Leaf} {k : MK} {r o : Nat} (s : Shp σ0 (wrs σ n A)) (h : Fl σ0 k r o) :
    wrc (wrs σ n A) r o [mv k (n + A.length)] = some (wrs σ n (A ++ [(k, r, o)])) ∧ Shp σ0 (wrs σ n (A ++ [(k, r, o)])) := by
  have h' := h.shp s
  obtain ⟨row, x, h1, h2, h3, h4⟩ := h'
  have hl := (List.getElem?_eq_some_iff.1 h3).1
  have hks : KSame x (mv k (n + A.length)) := h4.trans (mv_kind k 0 _)
  have e : wr1 (wrs σ n A) r o (mv k (n + A.length)) = (wrs σ n A).set r (some { row with cells := row.cells.set o (mv k (n + A.length)) }) := by
    unfold wr1
    rw [h1]
  rw [wrs_snoc, e]
  refine ⟨?_, fun q row0 hq => ?_⟩
  · unfold wrc
    rw [h1]
    simp only
    rw [if_pos ⟨h2, by simp only [List.length_singleton]; omega⟩]
    rfl
  · obtain ⟨cells, g1, g2⟩ := s q row0 hq
    by_cases hqr : r = q
    · subst hqr
      rw [h1] at g1
      injection g1 with g1
      injection g1 with g1
      subst g1
      exact ⟨_, by rw [List.getElem?_set, if_pos rfl, if_pos (get_lt h1)], g2.trans (set_csame h3 hks)⟩
    · exact ⟨cells, by rw [List.getElem?_set, if_neg hqr]; exact g1, g2⟩
theorem put_i {σ0 σ : Heap} {n : Nat} {A : List Leaf} {r o : Nat} (s : Shp σ0 (wrs σ n A)) (h : Fl σ0 .i r o) : wrc (wrs σ n A) r o [.int .i64 ((n + A.length : Nat) : Int)] = some (wrs σ n (A ++ [(.i, r, o)])) ∧ Shp σ0 (wrs σ n (A ++ [(.i, r, o)])) := put_leaf s h
theorem put_s {σ0 σ : Heap} {n : Nat} {A : List Leaf} {r o : Nat} (s : Shp σ0 (wrs σ n A)) (h : Fl σ0 .s r o) : wrc (wrs σ n A) r o [.str (mText (n + A.length))] = some (wrs σ n (A ++ [(.s, r, o)])) ∧ Shp σ0 (wrs σ n (A ++ [(.s, r, o)])) := put_leaf s h
theorem put_b {σ0 σ : Heap} {n : Nat} {A : List Leaf} {r o : Nat} (s : Shp σ0 (wrs σ n A)) (h : Fl σ0 .b r o) : wrc (wrs σ n A) r o [.bool (decide (Int.tmod ((n + A.length : Nat) : Int) 3 = 0))] = some (wrs σ n (A ++ [(.b, r, o)])) ∧ Shp σ0 (wrs σ n (A ++ [(.b, r, o)])) := put_leaf s h
theorem nx {n : Nat} {A : List Leaf} (l : Leaf) (h : n + A.length ≤ 1099511627776) : IntKind.wrap .i64 (((n + A.length : Nat) : Int) + 1) = ((n + (A ++ [l]).length : Nat) : Int) := by
  rw [wrap_id (by omega) (by omega), List.length_append, List.length_singleton]
  omega
def isSl : V → Bool
  | .sl _ _ _ _ => true
  | .nils => true
  | .emp => true
  | _ => false
theorem isSl_same {x y : V} (h : isSl x = true) (k : KSame x y) : y = x := by cases x <;> simp [isSl] at h <;> simp [KSame] at k <;> exact k.symm
/-- A place that holds a slice. -/
def Cl (σ : Heap) (r o : Nat) (v : V) : Prop := cellAt σ r o = some v ∧ isSl v = true
theorem Cl.shp {σ0 σ : Heap} {r o : Nat} {v : V} (s : Shp σ0 σ) (h : Cl σ0 r o v) : Cl σ r o v := by
  obtain ⟨row, h1, h2⟩ := cellAt_some h.1
  obtain ⟨cells, g1, g2⟩ := s r row h1
  have hl : o < cells.length := by rw [g2.1]; exact (List.getElem?_eq_some_iff.1 h2).1
  have hx := isSl_same h.2 (g2.2 o v _ h2 (List.getElem?_eq_getElem hl))
  refine ⟨?_, h.2⟩
  unfold cellAt
  rw [g1]
  simp only
  rw [List.getElem?_eq_getElem hl, hx]
theorem rdc_cell {σ : Heap} {r o : Nat} {v : V} (h : cellAt σ r o = some v) : rdc σ r o 1 = some [v] := by
  obtain ⟨row, h1, h2⟩ := cellAt_some h
  have hl := (List.getElem?_eq_some_iff.1 h2).1
  unfold rdc
  rw [h1]
  simp only
  rw [if_pos (by omega), take1 _ _ hl, (List.getElem?_eq_some_iff.1 h2).2]
/-- Slices, and the places of their elements. -/
inductive LvS (esz : Nat) (P : Nat → Nat → List Leaf → Prop) (σ : Heap) : V → List (List Leaf) → Prop where
  | nils : LvS esz P σ .nils []
  | emp : LvS esz P σ .emp []
  | sl (r o n : Nat) (lim : Bool) (row : Row) (lss : List (List Leaf)) : n = lss.length → σ[r]? = some (some row) → row.ro = false → row.esz = esz → o + n * esz ≤ row.cells.length →
    (∀ (i : Nat) ls, lss[i]? = some ls → P r (o + i * esz) ls) → LvS esz P σ (.sl r o n lim) lss
theorem LvS.isSl {esz : Nat} {P : Nat → Nat → List Leaf → Prop} {σ : Heap} {v : V} {lss : List (List Leaf)} (h : LvS esz P σ v lss) : isSl v = true := by cases h <;> rfl
theorem LvS.vlen {esz : Nat} {P : Nat → Nat → List Leaf → Prop} {σ : Heap} {v : V} {lss : List (List Leaf)} (h : LvS esz P σ v lss) : vlen v = some lss.length := by
  cases h with
  | nils => rfl
  | emp => rfl
  | sl r o n lim row lss h1 h2 h3 h4 h5 h6 => rw [HM.vlen, h1]
theorem LvS.at {esz : Nat} {P : Nat → Nat → List Leaf → Prop} {σ : Heap} {v : V} {lss : List (List Leaf)} (h : LvS esz P σ v lss) {i : Nat} {ls : List Leaf} (hi : lss[i]? = some ls) : ∃ r o, vidx esz v (i : Int) = some (r, o) ∧ P r o ls := by
  have hl := (List.getElem?_eq_some_iff.1 hi).1
  cases h with
  | nils => simp at hl
  | emp => simp at hl
  | sl r o n lim row lss h1 h2 h3 h4 h5 h6 =>
    subst h1
    exact ⟨r, o + i * esz, by simp [vidx, hl], h6 i ls hi⟩
theorem LvS.mono {esz : Nat} {P Q : Nat → Nat → List Leaf → Prop} {σ σ' : Heap} {v : V} {lss : List (List Leaf)} (h : LvS esz P σ v lss) (s : Shp σ σ') (hP : ∀ r o ls, P r o ls → Q r o ls) : LvS esz Q σ' v lss := by
  cases h with
  | nils => exact .nils
  | emp => exact .emp
  | sl r o n lim row lss h1 h2 h3 h4 h5 h6 =>
    obtain ⟨cells, g1, g2⟩ := s r row h2
    exact .sl r o n lim _ lss h1 g1 h3 h4 (by show _ ≤ cells.length; rw [g2.1]; exact h5) fun i ls hi => hP _ _ _ (h6 i ls hi)
theorem flat_next {lss : List (List Leaf)} {i : Nat} {ls : List Leaf} (h : lss[i]? = some ls) : (lss.take (i + 1)).flatten = (lss.take i).flatten ++ ls := by
  rw [take_next' h]
  simp
theorem flat_le {lss : List (List Leaf)} {i : Nat} {ls : List Leaf} (h : lss[i]? = some ls) : (lss.take i).flatten.length + ls.length ≤ lss.flatten.length := by
  have h1 := flat_next h
  have h2 : lss.flatten = (lss.take (i + 1)).flatten ++ (lss.drop (i + 1)).flatten := by rw [← List.flatten_append, List.take_append_drop]
  have h3 := congrArg List.length h1
  have h4 := congrArg List.length h2
  simp only [List.length_append] at h3 h4
  omega
theorem flat_cut {lss : List (List Leaf)} {i : Nat} {ls : List Leaf} (h : lss[i]? = some ls) : ∃ rest, lss.flatten = (lss.take i).flatten ++ (ls ++ rest) := by
  refine ⟨(lss.drop (i + 1)).flatten, ?_⟩
  have h2 : lss.flatten = (lss.take (i + 1)).flatten ++ (lss.drop (i + 1)).flatten := by rw [← List.flatten_append, List.take_append_drop]
  rw [h2, flat_next h, List.append_assoc]
end Go.HM
namespace Go.HM
theorem LvS.len_le {esz : Nat} {P : Nat → Nat → List Leaf → Prop} {σ : Heap} {v : V} {lss : List (List Leaf)} (h : LvS esz P σ v lss) {b : Nat} (hb : lss.flatten.length ≤ b) (hP : ∀ r o ls, P r o ls → 1 ≤ ls.length) : lss.length ≤ b := by
  have key : ∀ (l : List (List Leaf)), (∀ ls, ls ∈ l → 1 ≤ ls.length) → l.length ≤ l.flatten.length := by
    intro l
    induction l with
    | nil => intro _; exact Nat.le_refl _
    | cons x l ih =>
      intro hx
      have h1 := hx x (List.mem_cons_self ..)
      have h2 := ih fun ls hl => hx ls (List.mem_cons_of_mem _ hl)
      simp only [List.length_cons, List.flatten_cons, List.length_append]
      omega
  refine Nat.le_trans (key lss fun ls hl => ?_) hb
  cases h with
  | nils => cases hl
  | emp => cases hl
  | sl r o n lim row lss h1 h2 h3 h4 h5 h6 =>
    obtain ⟨i, hi⟩ := List.getElem?_of_mem hl
    exact hP _ _ _ (h6 i ls hi)
theorem LvS.cells {esz : Nat} {P : Nat → Nat → List Leaf → Prop} {σ : Heap} {v : V} {lss : List (List Leaf)} (h : LvS esz P σ v lss) (hP : ∀ r o ls, P r o ls → ∀ k r' o', (k, r', o') ∈ ls → cellAt σ r' o' ≠ none) : ∀ k r' o', (k, r', o') ∈ lss.flatten → cellAt σ r' o' ≠ none := fun k r' o' hm => by
  obtain ⟨ls, hl, hm⟩ := List.mem_flatten.1 hm
  cases h with
  | nils => cases hl
  | emp => cases hl
  | sl r o n lim row lss h1 h2 h3 h4 h5 h6 =>
    obtain ⟨i, hi⟩ := List.getElem?_of_mem hl
    exact hP _ _ _ (h6 i ls hi) k r' o' hm
end Go.HM
