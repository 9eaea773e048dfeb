/- On the order of a graph: who stands in it, and who is behind what is wrong. -/
import Derived.Test.YtghkdjfgbaoplaaWGraphBehind
set_option linter.unusedVariables false
set_option linter.unusedSimpArgs false
namespace Go.B
open Go.HM Go.Proofs
/-- Names of nodes differ. -/
def Apart (l : List GraphNode) : Prop := l.Pairwise fun x y => x.name ≠ y.name
theorem less_irrefl : ∀ (a : List UInt8), Op.bytesLess a a = false := by
  intro a
  induction a with
  | nil => rfl
  | cons x a ih => simp [Op.bytesLess, ih]
theorem less_trans : ∀ (a b c : List UInt8), Op.bytesLess a b = true → Op.bytesLess b c = true → Op.bytesLess a c = true
  | _, _, [], h, g => by
    rename_i a b
    cases b <;> simp [Op.bytesLess] at g
  | [], _, _ :: _, _, _ => by simp [Op.bytesLess]
  | x :: a, [], z :: c, h, _ => by simp [Op.bytesLess] at h
  | x :: a, y :: b, z :: c, h, g => by
    have ih := less_trans a b c
    simp only [Op.bytesLess, Bool.or_eq_true, Bool.and_eq_true, decide_eq_true_eq, beq_iff_eq] at h g ⊢
    rcases h with h | ⟨h1, h2⟩ <;> rcases g with g | ⟨g1, g2⟩
    · exact .inl (UInt8.lt_trans h g)
    · exact .inl (by rw [← g1]; exact h)
    · exact .inl (by rw [h1]; exact g)
    · exact .inr ⟨h1.trans g1, ih h2 g2⟩
theorem GrOk.less {l : List GraphNode} (h : GrOk l) : ∀ (d i : Nat) x y, l[i]? = some x → l[i + 1 + d]? = some y → Op.bytesLess x.name.toList y.name.toList = true
  | 0, i, x, y, hx, hy => (h.2 (i + 1) y hy).2 x (by omega) hx
  | d + 1, i, x, y, hx, hy => by
    have hlt := lt_of_get hy
    have hz : l[i + 1 + d]? = some l[i + 1 + d] := List.getElem?_eq_getElem (by omega)
    have h1 := GrOk.less h d i x _ hx hz
    have h2 := (h.2 (i + 1 + (d + 1)) y hy).2 _ (by omega) hz
    exact less_trans _ _ _ h1 h2
theorem GrOk.apart {l : List GraphNode} (h : GrOk l) : Apart l := by
  unfold Apart
  rw [List.pairwise_iff_getElem]
  intro i j hi hj hij he
  have h1 := GrOk.less h (j - i - 1) i _ _ (List.getElem?_eq_getElem hi) (by
    have e : i + 1 + (j - i - 1) = j := by omega
    rw [e]
    exact List.getElem?_eq_getElem hj)
  rw [he, less_irrefl] at h1
  cases h1
theorem Apart.one {l : List GraphNode} (h : Apart l) {n m : GraphNode} (hn : n ∈ l) (hm : m ∈ l) (e : n.name = m.name) : n = m := by
  induction l with
  | nil => cases hn
  | cons x l ih =>
    obtain ⟨h1, h2⟩ := List.pairwise_cons.1 h
    rcases List.mem_cons.1 hn with a | a
    · rcases List.mem_cons.1 hm with b | b
      · rw [a, b]
      · rw [a] at e; exact absurd e (h1 m b)
    · rcases List.mem_cons.1 hm with b | b
      · rw [b] at e; exact absurd e.symm (h1 n a)
      · exact ih h2 a b
theorem cnt_exact : ∀ {l : List GraphNode} {out : List ByteArray} {n : GraphNode}, Apart l → n ∈ l → ¬ n.name ∈ out → cnt l (out ++ [n.name]) + 1 = cnt l out
  | x :: l, out, n, ha, hm, hn => by
    obtain ⟨h1, h2⟩ := List.pairwise_cons.1 ha
    rcases List.mem_cons.1 hm with rfl | hm
    · have e : l.filter (fun m => !decide (m.name ∈ out ++ [n.name])) = l.filter (fun m => !decide (m.name ∈ out)) := List.filter_congr fun m hm => by
        have := h1 m hm
        simp [Ne.symm this]
      unfold cnt
      rw [List.filter_cons, List.filter_cons, e]
      simp [hn]
    · have ih := cnt_exact h2 hm hn
      have hx := h1 n hm
      unfold cnt at ih ⊢
      rw [List.filter_cons, List.filter_cons]
      by_cases h : x.name ∈ out
      · simp [h]; simpa using ih
      · simp [h, hx]; simp at ih; omega
structure OInv (l : List GraphNode) (out : List ByteArray) : Prop where
  nodes : ∀ x, x ∈ out → ∃ n, n ∈ l ∧ n.name = x
  uses : ∀ (i : Nat) n, out[i]? = some n.name → n ∈ l → ∀ u, u ∈ n.uses → ∃ j, j < i ∧ out[j]? = some u
  len : out.length + cnt l out = l.length
theorem OInv.start {l : List GraphNode} : OInv l [] := ⟨(fun x hx => by cases hx), (fun i n h => by simp at h), by
  unfold cnt
  simp⟩
theorem OInv.more {l : List GraphNode} (ha : Apart l) {out : List ByteArray} (h : OInv l out) {n : GraphNode} (hn : n ∈ l) (hr : ready out n = true) : OInv l (out ++ [n.name]) := by
  have hno := ready_not hr
  have hall : ∀ u, u ∈ n.uses → u ∈ out := by
    simp [ready] at hr
    exact hr.2
  refine ⟨fun x hx => ?_, fun i m hi hm u hu => ?_, ?_⟩
  · rcases List.mem_append.1 hx with hx | hx
    · exact h.nodes x hx
    · simp at hx
      exact ⟨n, hn, hx.symm⟩
  · rcases Nat.lt_or_ge i out.length with hlt | hge
    · rw [List.getElem?_append_left hlt] at hi
      obtain ⟨j, hj, e⟩ := h.uses i m hi hm u hu
      exact ⟨j, hj, by rw [List.getElem?_append_left (by omega)]; exact e⟩
    · rw [List.getElem?_append_right hge] at hi
      have hi0 := lt_of_get hi
      simp at hi0
      have e : i = out.length := by omega
      subst e
      simp at hi
      have := ha.one hn hm hi
      subst this
      obtain ⟨j, hj, e⟩ := List.getElem_of_mem (hall u hu)
      exact ⟨j, hj, by rw [List.getElem?_append_left hj, List.getElem?_eq_getElem hj, e]⟩
  · have h1 := cnt_exact ha hn hno
    have h2 := h.len
    simp only [List.length_append, List.length_singleton]
    omega
theorem order_inv {l : List GraphNode} (ha : Apart l) : ∀ (k : Nat) (out : List ByteArray), cnt l out ≤ k → OInv l out → OInv l (order l out) ∧ l.find? (ready (order l out)) = none := by
  intro k
  induction k with
  | zero =>
    intro out h hI
    cases hf : l.find? (ready out) with
    | none => rw [order_none hf]; exact ⟨hI, hf⟩
    | some x =>
      have := cnt_lt (List.mem_of_find?_eq_some hf) (ready_not (List.find?_some hf))
      omega
  | succ k ih =>
    intro out h hI
    cases hf : l.find? (ready out) with
    | none => rw [order_none hf]; exact ⟨hI, hf⟩
    | some x =>
      have h1 := cnt_lt (List.mem_of_find?_eq_some hf) (ready_not (List.find?_some hf))
      rw [order_some hf]
      exact ih _ (by omega) (hI.more ha (List.mem_of_find?_eq_some hf) (List.find?_some hf))
/-- A use that no node is called. -/
def Miss (l : List GraphNode) (n : GraphNode) : Prop := ∃ u, u ∈ n.uses ∧ ∀ m, m ∈ l → m.name ≠ u
theorem beh_place {l : List GraphNode} {out : List ByteArray} (hI : OInv l out) {u y : ByteArray} (b : Beh l [u] y) : ∀ (i : Nat), out[i]? = some y → ∃ j, j < i ∧ out[j]? = some u := by
  induction b with
  | base h1 h2 h3 =>
    intro i hi
    simp at h3
    subst h3
    exact hI.uses i _ hi h1 _ h2
  | step h1 h2 _ ih =>
    intro i hi
    obtain ⟨j, hj, e⟩ := hI.uses i _ hi h1 _ h2
    obtain ⟨j', hj', e'⟩ := ih j e
    exact ⟨j', by omega, e'⟩
theorem no_round {l : List GraphNode} {out : List ByteArray} (hI : OInv l out) {u : ByteArray} (b : Beh l [u] u) : ∀ (k i : Nat), i ≤ k → out[i]? = some u → False := by
  intro k
  induction k with
  | zero =>
    intro i hi h
    obtain ⟨j, hj, _⟩ := beh_place hI b i h
    omega
  | succ k ih =>
    intro i hi h
    obtain ⟨j, hj, e⟩ := beh_place hI b i h
    exact ih j (by omega) e
/-- What is wrong: names of nodes on a circle, or with a use that misses. -/
def Wrong (l : List GraphNode) (ws : List ByteArray) : Prop := ∀ x, x ∈ ws ↔ ∃ n, n ∈ l ∧ n.name = x ∧ (Beh l [x] x ∨ Miss l n)
theorem in_not {l : List GraphNode} (ha : Apart l) {out ws : List ByteArray} (hI : OInv l out) (hw : Wrong l ws) {x : ByteArray} (hx : x ∈ out) : ¬ x ∈ ws := by
  intro h
  obtain ⟨n, h1, rfl, h2 | ⟨u, hu, hmiss⟩⟩ := (hw x).1 h
  · obtain ⟨i, hi, e⟩ := List.getElem_of_mem hx
    exact no_round hI h2 i i (Nat.le_refl _) (by rw [List.getElem?_eq_getElem hi, e])
  · obtain ⟨i, hi, e⟩ := List.getElem_of_mem hx
    obtain ⟨j, hj, e'⟩ := hI.uses i n (by rw [List.getElem?_eq_getElem hi, e]) h1 u hu
    obtain ⟨m, hm, hmu⟩ := hI.nodes u (List.mem_of_getElem? e')
    exact hmiss m hm hmu
theorem in_not_beh {l : List GraphNode} (ha : Apart l) {out ws : List ByteArray} (hI : OInv l out) (hw : Wrong l ws) {x : ByteArray} (b : Beh l ws x) : ¬ x ∈ out := by
  induction b with
  | base h1 h2 h3 =>
    intro hx
    obtain ⟨i, hi, e⟩ := List.getElem_of_mem hx
    obtain ⟨j, hj, e'⟩ := hI.uses i _ (by rw [List.getElem?_eq_getElem hi, e]) h1 _ h2
    exact in_not ha hI hw (List.mem_of_getElem? e') h3
  | step h1 h2 _ ih =>
    intro hx
    obtain ⟨i, hi, e⟩ := List.getElem_of_mem hx
    obtain ⟨j, hj, e'⟩ := hI.uses i _ (by rw [List.getElem?_eq_getElem hi, e]) h1 _ h2
    exact ih (List.mem_of_getElem? e')
theorem filter_lt {α : Type} {p q : α → Bool} : ∀ {l : List α}, (∀ x, x ∈ l → p x = true → q x = true) → (∃ x, x ∈ l ∧ q x = true ∧ p x = false) → (l.filter p).length < (l.filter q).length
  | [], _, ⟨x, hx, _⟩ => by cases hx
  | y :: l, h, ⟨x, hx, h1, h2⟩ => by
    have hle : (l.filter p).length ≤ (l.filter q).length := by
      clear h1 h2 hx
      have h' : ∀ x, x ∈ l → p x = true → q x = true := fun x hx => h x (List.mem_cons_of_mem _ hx)
      clear h
      induction l with
      | nil => exact Nat.le_refl _
      | cons z l ih =>
        have := ih fun x hx => h' x (List.mem_cons_of_mem _ hx)
        have hz := h' z (List.mem_cons_self ..)
        rw [List.filter_cons, List.filter_cons]
        cases hp : p z with
        | true => rw [hz hp]; simpa using this
        | false =>
          cases q z <;> simp <;> omega
    rcases List.mem_cons.1 hx with rfl | hx
    · rw [List.filter_cons, List.filter_cons, h1, h2]
      simp
      omega
    · have ih := filter_lt (l := l) (fun x hx => h x (List.mem_cons_of_mem _ hx)) ⟨x, hx, h1, h2⟩
      have hy := h y (List.mem_cons_self ..)
      rw [List.filter_cons, List.filter_cons]
      cases hp : p y with
      | true => rw [hy hp]; simpa using ih
      | false =>
        cases q y <;> simp <;> omega
noncomputable def reach (l : List GraphNode) (x : ByteArray) (m : GraphNode) : Bool := @decide (Beh l [m.name] x) (Classical.propDecidable _)
theorem reach_iff {l : List GraphNode} {x : ByteArray} {m : GraphNode} : reach l x m = true ↔ Beh l [m.name] x := by
  unfold reach
  exact @decide_eq_true_iff _ (Classical.propDecidable _)
theorem out_bad {l : List GraphNode} {out ws : List ByteArray} (hf : l.find? (ready out) = none) (hw : Wrong l ws) :
    ∀ (k : Nat) (n : GraphNode), (l.filter (reach l n.name)).length ≤ k → n ∈ l → ¬ n.name ∈ out → ¬ n.name ∈ ws → ¬ Beh l ws n.name → False := by
  have key : ∀ n, n ∈ l → ¬ n.name ∈ out → ¬ n.name ∈ ws → ¬ Beh l ws n.name → ∃ m, m ∈ l ∧ m.name ∈ n.uses ∧ ¬ m.name ∈ out ∧ ¬ m.name ∈ ws ∧ ¬ Beh l ws m.name ∧ (l.filter (reach l m.name)).length < (l.filter (reach l n.name)).length := by
    intro n hn ho hws hb
    have hr : ready out n = false := by
      have := List.find?_eq_none.1 hf n hn
      simpa using this
    have : ∃ u, u ∈ n.uses ∧ ¬ u ∈ out := by
      simp only [ready, ho, decide_false, Bool.not_false, Bool.true_and] at hr
      obtain ⟨u, hu, h⟩ := List.all_eq_false.1 hr
      exact ⟨u, hu, by simpa using h⟩
    obtain ⟨u, hu, huo⟩ := this
    have hmiss : ¬ Miss l n := fun hm => hws ((hw _).2 ⟨n, hn, rfl, .inr hm⟩)
    have : ∃ m, m ∈ l ∧ m.name = u := Classical.byContradiction fun hc => hmiss ⟨u, hu, fun m hm e => hc ⟨m, hm, e⟩⟩
    obtain ⟨m, hm, rfl⟩ := this
    have hmw : ¬ m.name ∈ ws := fun h => hb (.base hn hu h)
    have hmb : ¬ Beh l ws m.name := fun h => hb (.step hn hu h)
    refine ⟨m, hm, hu, huo, hmw, hmb, filter_lt (fun x _ hx => ?_) ⟨m, hm, ?_, ?_⟩⟩
    · exact reach_iff.2 (.step hn hu (reach_iff.1 hx))
    · exact reach_iff.2 (.base hn hu (List.mem_singleton.2 rfl))
    · rw [Bool.eq_false_iff]
      intro h
      exact hmw ((hw _).2 ⟨m, hm, rfl, .inl (reach_iff.1 h)⟩)
  intro k
  induction k with
  | zero =>
    intro n hk h1 h2 h3 h4
    obtain ⟨m, _, _, _, _, _, hlt⟩ := key n h1 h2 h3 h4
    omega
  | succ k ih =>
    intro n hk h1 h2 h3 h4
    obtain ⟨m, g1, _, g2, g3, g4, hlt⟩ := key n h1 h2 h3 h4
    exact ih m (by omega) g1 g2 g3 g4
/-- A node stands in the order just if it isn't behind what is wrong. -/
theorem order_iff {l : List GraphNode} (hG : GrOk l) {ws : List ByteArray} (hw : Wrong l ws) {n : GraphNode} (hn : n ∈ l) : n.name ∈ order l [] ↔ ¬ n.name ∈ pick (behP l ws) l := by
  obtain ⟨hI, hf⟩ := order_inv hG.apart _ [] (Nat.le_refl _) OInv.start
  constructor
  · intro h hb
    obtain ⟨_, _, _, h1 | h1⟩ := mem_beh.1 hb
    · exact in_not hG.apart hI hw h h1
    · exact in_not_beh hG.apart hI hw h1 h
  · intro h
    refine Classical.byContradiction fun ho => ?_
    exact out_bad hf hw _ n (Nat.le_refl _) hn ho (fun hc => h (mem_beh.2 ⟨n, hn, rfl, .inl hc⟩)) (fun hc => h (mem_beh.2 ⟨n, hn, rfl, .inr hc⟩))
theorem order_count {l : List GraphNode} (hG : GrOk l) {ws : List ByteArray} (hw : Wrong l ws) : (order l []).length + (pick (behP l ws) l).length = l.length := by
  obtain ⟨hI, hf⟩ := order_inv hG.apart _ [] (Nat.le_refl _) OInv.start
  have h := hI.len
  have e : cnt l (order l []) = (pick (behP l ws) l).length := by
    unfold cnt pick
    rw [List.length_map]
    congr 1
    refine List.filter_congr fun n hn => ?_
    have h1 := order_iff hG hw hn
    have h2 : n.name ∈ pick (behP l ws) l ↔ behP l ws n = true := by
      rw [mem_beh, behP_iff]
      constructor
      · rintro ⟨_, _, _, h⟩
        exact h
      · exact fun h => ⟨n, hn, rfl, h⟩
    rw [h2] at h1
    rw [Bool.eq_iff_iff]
    simp only [Bool.not_eq_true', decide_eq_false_iff_not]
    rw [h1]
    simp
  omega
end Go.B
