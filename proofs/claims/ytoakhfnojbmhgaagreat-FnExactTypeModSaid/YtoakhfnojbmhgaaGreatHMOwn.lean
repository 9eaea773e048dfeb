/- Values with the rows they lie in; all of them others. -/
import Derived.Test.YtoakhfnojbmhgaaGreatHMLeaf
set_option linter.unusedVariables false
set_option linter.unusedSimpArgs false
namespace Go.HM
inductive RepR {α : Type} (esz : Nat) (Q : List V → α → List Nat → Prop) (σ : Heap) : V → List α → List Nat → Prop where
  | nils : RepR esz Q σ .nils [] []
  | emp : RepR esz Q σ .emp [] []
  | sl (r o n : Nat) (lim : Bool) (row : Row) (l : List α) (Rs : List (List Nat)) : n = l.length → σ[r]? = some (some row) → row.ro = false → row.esz = esz → o + l.length * esz ≤ row.cells.length → Rs.length = l.length →
    (∀ (i : Nat) x R, l[i]? = some x → Rs[i]? = some R → Q ((row.cells.drop (o + i * esz)).take esz) x R) → RepR esz Q σ (.sl r o n lim) l (r :: Rs.flatten)
section
variable {α : Type} {esz : Nat} {Q : List V → α → List Nat → Prop} {σ σ' : Heap} {v : V} {l : List α} {R : List Nat}
theorem RepR.rep {P : List V → α → Prop} (h : RepR esz Q σ v l R) (hP : ∀ cs x R, x ∈ l → Q cs x R → P cs x) : RepS esz P σ v l := by
  cases h with
  | nils => exact .nils
  | emp => exact .emp
  | sl r o n lim row l Rs h1 h2 h3 h4 h5 h6 h7 =>
    refine .sl r o n lim row l h1 h2 h4 h5 fun i x hx => ?_
    have hi : i < Rs.length := by rw [h6]; exact lt_of_get hx
    exact hP _ _ _ (List.mem_of_getElem? hx) (h7 i x _ hx (List.getElem?_eq_getElem hi))
theorem RepR.lt (h : RepR esz Q σ v l R) (hQ : ∀ cs x R, Q cs x R → ∀ j, j ∈ R → j < σ.length) : ∀ j, j ∈ R → j < σ.length := by
  cases h with
  | nils => intro j hj; cases hj
  | emp => intro j hj; cases hj
  | sl r o n lim row l Rs h1 h2 h3 h4 h5 h6 h7 =>
    intro j hj
    rcases List.mem_cons.1 hj with rfl | hj
    · exact get_lt h2
    · obtain ⟨R, hR, hj⟩ := List.mem_flatten.1 hj
      obtain ⟨i, hi⟩ := List.getElem?_of_mem hR
      have hil : i < l.length := by rw [← h6]; exact lt_of_get hi
      exact hQ _ _ _ (h7 i _ R (List.getElem?_eq_getElem hil) hi) j hj
theorem RepR.keep {Q' : List V → α → List Nat → Prop} (h : RepR esz Q σ v l R) (hk : ∀ j, j ∈ R → σ'[j]? = σ[j]?) (hQ : ∀ cs x R, Q cs x R → (∀ j, j ∈ R → σ'[j]? = σ[j]?) → Q' cs x R) : RepR esz Q' σ' v l R := by
  cases h with
  | nils => exact .nils
  | emp => exact .emp
  | sl r o n lim row l Rs h1 h2 h3 h4 h5 h6 h7 =>
    refine .sl r o n lim row l Rs h1 (by rw [hk r (List.mem_cons_self ..)]; exact h2) h3 h4 h5 h6 fun i x R hx hR => hQ _ _ _ (h7 i x R hx hR) fun j hj => hk j (List.mem_cons_of_mem _ (List.mem_flatten.2 ⟨R, List.mem_of_getElem? hR, hj⟩))
end
/-- A slice that begins where its row begins. -/
def At0 (v : V) : Prop := v = .nils ∨ ∃ r n lim, v = .sl r 0 n lim
theorem nodup_sub {a b c : List Nat} (h : (a ++ b).Nodup) : a.Nodup ∧ b.Nodup ∧ ∀ x, x ∈ a → x ∈ b → False := by
  rw [List.nodup_append] at h
  exact ⟨h.1, h.2.1, fun x ha hb => h.2.2 x ha x hb rfl⟩
/-- One element more. -/
theorem RepR.app {α : Type} {esz bytes : Nat} {Q : Heap → List V → α → List Nat → Prop} {σ : Heap} {v : V} {l : List α} {R : List Nat} (h : RepR esz (Q σ) σ v l R) (h0 : At0 v) {cs : List V} {x : α} {Rx : List Nat} (hx : Q σ cs x Rx) (hcs : cs.length = esz)
    (keepQ : ∀ {σ σ' : Heap} cs x R, Q σ cs x R → (∀ j, j ∈ R → σ'[j]? = σ[j]?) → Q σ' cs x R) (ltQ : ∀ cs x R, Q σ cs x R → ∀ j, j ∈ R → j < σ.length) (hnd : (R ++ Rx).Nodup) (b1 : (l.length + 1) * bytes ≤ 2 ^ 46) (b2 : l.length + 1 ≤ 2 ^ 46) :
    ∃ v' σ' R', vappend esz bytes σ v 1 cs = some (v', σ') ∧ RepR esz (Q σ') σ' v' (l ++ [x]) R' ∧ At0 v' ∧ R'.Nodup ∧ (∀ j, j ∈ R' → j = σ.length ∨ j ∈ R ∨ j ∈ Rx) ∧ σ'.length = σ.length + 1 ∧ ∀ j, j < σ.length → j ∉ R → σ'[j]? = σ[j]? := by
  have hltx := ltQ cs x Rx hx
  have hltR := h.lt ltQ
  cases h with
  | emp => rcases h0 with h0 | ⟨_, _, _, h0⟩ <;> cases h0
  | nils =>
    refine ⟨.sl σ.length 0 1 false, hnew σ esz cs, σ.length :: [Rx].flatten, ?_, ?_, .inr ⟨_, _, _, rfl⟩, ?_, ?_, by simp [hnew], fun j hj _ => by rw [hnew, List.getElem?_append_left hj]⟩
    · simp only [vappend]
      rw [if_neg (by omega), if_pos ⟨by simpa using b1, by simp⟩]
    · refine .sl _ 0 1 false ⟨cs, esz, false, 0⟩ [x] [Rx] rfl (by simp [hnew]) rfl rfl (by simp [hcs]) rfl fun i y Ry hy hR => ?_
      cases i with
      | zero =>
        simp at hy hR
        subst hy hR
        have e : ((cs.drop (0 + 0 * esz)).take esz) = cs := by simp; exact List.take_of_length_le (by omega)
        show Q _ ((cs.drop (0 + 0 * esz)).take esz) _ _
        rw [e]
        exact keepQ _ _ _ hx fun j hj => by rw [hnew, List.getElem?_append_left (hltx j hj)]
      | succ i => simp at hy
    · simp only [List.flatten_cons, List.flatten_nil, List.append_nil, List.nodup_cons]
      exact ⟨fun hc => Nat.lt_irrefl _ (hltx _ hc), by simpa using hnd⟩
    · intro j hj
      simp at hj
      rcases hj with hj | hj
      · exact .inl hj
      · exact .inr (.inr hj)
  | sl r o n lim row l Rs h1 h2 h3 h4 h5 h6 h7 =>
    obtain rfl : o = 0 := by rcases h0 with h0 | ⟨_, _, _, h0⟩ <;> cases h0; rfl
    subst h1
    have hnd' := hnd
    rw [List.cons_append, List.nodup_cons] at hnd'
    obtain ⟨hr1, hr2⟩ := hnd'
    have hrl := get_lt h2
    have hcells : (row.cells.take (l.length * esz)).length = l.length * esz := by rw [List.length_take]; omega
    -- the new row, whatever becomes of the old one
    have main : ∀ (τ : Heap), τ.length = σ.length → (∀ j, j < σ.length → j ≠ r → τ[j]? = σ[j]?) →
        RepR esz (Q (hnew τ esz (row.cells.take (l.length * esz) ++ cs))) (hnew τ esz (row.cells.take (l.length * esz) ++ cs)) (.sl σ.length 0 (l.length + 1) false) (l ++ [x]) (σ.length :: (Rs ++ [Rx]).flatten) := by
      intro τ hτ hk
      have hget : ∀ j, j < σ.length → j ≠ r → (hnew τ esz (row.cells.take (l.length * esz) ++ cs))[j]? = σ[j]? := fun j hj hne => by rw [hnew, List.getElem?_append_left (by omega), hk j hj hne]
      refine .sl _ 0 _ false ⟨row.cells.take (l.length * esz) ++ cs, esz, false, 0⟩ (l ++ [x]) (Rs ++ [Rx]) (by simp) (by simp [hnew, ← hτ]) rfl rfl (by simp only [List.length_append, List.length_singleton, hcells, hcs]; rw [Nat.add_mul]; omega) (by simp [h6]) fun i y Ry hy hR => ?_
      show Q _ (((row.cells.take (l.length * esz) ++ cs).drop (0 + i * esz)).take esz) y Ry
      rcases Nat.lt_or_ge i l.length with hi | hi
      · rw [List.getElem?_append_left hi] at hy
        rw [List.getElem?_append_left (by omega)] at hR
        have hm : i * esz + esz ≤ l.length * esz := by
          have := Nat.mul_le_mul_right esz (Nat.succ_le_of_lt hi)
          rw [Nat.succ_mul] at this
          exact this
        have e : ((row.cells.take (l.length * esz) ++ cs).drop (0 + i * esz)).take esz = (row.cells.drop (0 + i * esz)).take esz := by
          apply List.ext_getElem?
          intro j
          rw [chunk_get, chunk_get]
          split
          · rw [List.getElem?_append_left (by rw [hcells]; omega), List.getElem?_take, if_pos (by omega)]
          · rfl
        rw [e]
        refine keepQ _ _ _ (h7 i y Ry hy hR) fun j hj => hget j ?_ ?_
        · exact hltR j (List.mem_cons_of_mem _ (List.mem_flatten.2 ⟨Ry, List.mem_of_getElem? hR, hj⟩))
        · intro hc
          subst hc
          exact hr1 (List.mem_append_left _ (List.mem_flatten.2 ⟨Ry, List.mem_of_getElem? hR, hj⟩))
      · rw [List.getElem?_append_right hi] at hy
        rw [List.getElem?_append_right (by omega)] at hR
        have hi0 : i = l.length := by
          have := (List.getElem?_eq_some_iff.1 hy).1
          simp at this
          omega
        subst hi0
        simp [h6] at hy hR
        subst hy hR
        have e : ((row.cells.take (l.length * esz) ++ cs).drop (0 + l.length * esz)).take esz = cs := by
          rw [Nat.zero_add, List.drop_append, hcells, List.drop_eq_nil_of_le (by omega), Nat.sub_self, List.drop_zero, List.nil_append]
          exact List.take_of_length_le (by omega)
        rw [e]
        refine keepQ _ _ _ hx fun j hj => hget j (hltx j hj) fun hc => ?_
        subst hc
        exact hr1 (List.mem_append_right _ hj)
    have hnd2 : (σ.length :: (Rs ++ [Rx]).flatten).Nodup := by
      simp only [List.flatten_append, List.flatten_cons, List.flatten_nil, List.append_nil, List.nodup_cons]
      refine ⟨fun hc => ?_, hr2⟩
      rcases List.mem_append.1 hc with hc | hc
      · exact Nat.lt_irrefl _ (hltR _ (List.mem_cons_of_mem _ hc))
      · exact Nat.lt_irrefl _ (hltx _ hc)
    have hmem : ∀ j, j ∈ σ.length :: (Rs ++ [Rx]).flatten → j = σ.length ∨ j ∈ r :: Rs.flatten ∨ j ∈ Rx := by
      intro j hj
      rcases List.mem_cons.1 hj with hj | hj
      · exact .inl hj
      · simp only [List.flatten_append, List.flatten_cons, List.flatten_nil, List.append_nil] at hj
        rcases List.mem_append.1 hj with hj | hj
        · exact .inr (.inl (List.mem_cons_of_mem _ hj))
        · exact .inr (.inr hj)
    have hcond : row.esz = esz ∧ 0 + l.length * esz ≤ row.cells.length ∧ (l.length + 1) * bytes ≤ 2 ^ 46 ∧ l.length + 1 ≤ 2 ^ 46 := ⟨h4, h5, b1, b2⟩
    cases lim with
    | true =>
      refine ⟨_, hnew σ esz (row.cells.take (l.length * esz) ++ cs), _, ?_, main σ rfl fun j _ _ => rfl, .inr ⟨_, _, _, rfl⟩, hnd2, hmem, by simp [hnew], fun j hj _ => by rw [hnew, List.getElem?_append_left hj]⟩
      simp only [vappend, h2]
      rw [if_pos hcond]
      simp
    | false =>
      refine ⟨_, hnew (σ.set r none) esz (row.cells.take (l.length * esz) ++ cs), _, ?_, main (σ.set r none) (by simp) fun j _ hj => by rw [List.getElem?_set, if_neg (Ne.symm hj)], .inr ⟨_, _, _, rfl⟩, hnd2, hmem, by simp [hnew], fun j hj hne => ?_⟩
      · simp only [vappend, h2]
        rw [if_pos hcond]
        simp [h3]
      · rw [hnew, List.getElem?_append_left (by simpa using hj), List.getElem?_set, if_neg (fun hc => hne (by rw [hc]; exact List.mem_cons_self ..))]
/-! The places of what lies in rows that are all others. -/
def LOk (r o e : Nat) (R : List Nat) (ls : List Leaf) : Prop := (ls.map fun l => l.2).Nodup ∧ ∀ l, l ∈ ls → (l.2.1 = r ∧ o ≤ l.2.2 ∧ l.2.2 < e) ∨ l.2.1 ∈ R
theorem LOk.nil (r o : Nat) : LOk r o o [] [] := ⟨List.nodup_nil, fun l hl => by cases hl⟩
theorem LOk.one (k : MK) (r o : Nat) : LOk r o (o + 1) [] [(k, r, o)] := ⟨by simp, fun l hl => by
  simp at hl
  subst hl
  exact .inl ⟨rfl, Nat.le_refl _, Nat.lt_succ_self _⟩⟩
/-- The places of a slice's elements. -/
def LOkS (R : List Nat) (ls : List Leaf) : Prop := (ls.map fun l => l.2).Nodup ∧ ∀ l, l ∈ ls → l.2.1 ∈ R
theorem LOkS.field {R : List Nat} {ls : List Leaf} (h : LOkS R ls) (r o : Nat) : LOk r o (o + 1) R ls := ⟨h.1, fun l hl => .inr (h.2 l hl)⟩
theorem LOk.app {r o m e : Nat} {R1 R2 : List Nat} {ls1 ls2 : List Leaf} (h1 : LOk r o m R1 ls1) (h2 : LOk r m e R2 ls2) (hom : o ≤ m) (hme : m ≤ e) (hn : (R1 ++ R2).Nodup) (hr : r ∉ R1 ++ R2) : LOk r o e (R1 ++ R2) (ls1 ++ ls2) := by
  obtain ⟨n1, n2, n3⟩ := nodup_sub (c := []) hn
  refine ⟨?_, fun l hl => ?_⟩
  · rw [List.map_append, List.nodup_append]
    refine ⟨h1.1, h2.1, fun a ha b hb hab => ?_⟩
    subst hab
    obtain ⟨l1, hl1, e1⟩ := List.mem_map.1 ha
    obtain ⟨l2, hl2, e2⟩ := List.mem_map.1 hb
    rcases h1.2 l1 hl1 with ⟨a1, a2, a3⟩ | a1 <;> rcases h2.2 l2 hl2 with ⟨b1, b2, b3⟩ | b1
    · rw [e1] at a2 a3; rw [e2] at b2 b3; omega
    · rw [e1] at a1; rw [e2, a1] at b1; exact hr (List.mem_append_right _ b1)
    · rw [e2] at b1; rw [e1, b1] at a1; exact hr (List.mem_append_left _ a1)
    · rw [e1] at a1; rw [e2] at b1; exact n3 _ a1 b1
  · rcases List.mem_append.1 hl with hl | hl
    · rcases h1.2 l hl with ⟨a1, a2, a3⟩ | a1
      · exact .inl ⟨a1, a2, by omega⟩
      · exact .inr (List.mem_append_left _ a1)
    · rcases h2.2 l hl with ⟨a1, a2, a3⟩ | a1
      · exact .inl ⟨a1, by omega, a3⟩
      · exact .inr (List.mem_append_right _ a1)
/-- The place of a field. -/
theorem fl_of {σ : Heap} {r o n : Nat} {cs : List V} (hw : ∃ row, σ[r]? = some (some row) ∧ row.ro = false) (hr : rdc σ r o n = some cs) {f : Nat} {x : V} {k : MK} (hf : cs[f]? = some x) (hk : KSame x (mv k 0)) : Fl σ k r (o + f) := by
  obtain ⟨row, h1, h2⟩ := hw
  obtain ⟨row', g1, g2, rfl⟩ := rdc_some hr
  rw [h1] at g1
  injection g1 with g1; injection g1 with g1
  subst g1
  rw [chunk_get] at hf
  split at hf
  · exact ⟨row, x, h1, h2, hf, hk⟩
  · cases hf
theorem cl_of {σ : Heap} {r o n : Nat} {cs : List V} (hr : rdc σ r o n = some cs) {f : Nat} {x : V} (hf : cs[f]? = some x) (hk : isSl x = true) : Cl σ r (o + f) x := by
  obtain ⟨row, g1, g2, rfl⟩ := rdc_some hr
  rw [chunk_get] at hf
  split at hf
  · refine ⟨?_, hk⟩
    unfold cellAt
    rw [g1]
    exact hf
  · cases hf
theorem RepR.isSl {α : Type} {esz : Nat} {Q : List V → α → List Nat → Prop} {σ : Heap} {v : V} {l : List α} {R : List Nat} (h : RepR esz Q σ v l R) : isSl v = true := by cases h <;> rfl
theorem RepS.isSl {α : Type} {esz : Nat} {P : List V → α → Prop} {σ : Heap} {v : V} {l : List α} (h : RepS esz P σ v l) : isSl v = true := by cases h <;> rfl
/-- Slices that lie in rows that are all others, and the places of their elements. -/
theorem RepR.lv {α : Type} {esz : Nat} {Q : List V → α → List Nat → Prop} {P : Nat → Nat → List Leaf → Prop} {c : α → Nat} {σ : Heap} {v : V} {l : List α} {R : List Nat} (h : RepR esz Q σ v l R) (hn : R.Nodup)
    (hQ : ∀ r o cs x R, (∃ row, σ[r]? = some (some row) ∧ row.ro = false) → rdc σ r o esz = some cs → Q cs x R → R.Nodup → r ∉ R → ∃ ls, P r o ls ∧ LOk r o (o + esz) R ls ∧ ls.length ≤ c x) :
    ∃ lss, LvS esz P σ v lss ∧ LOkS R lss.flatten ∧ lss.flatten.length ≤ totS c l := by
  cases h with
  | nils => exact ⟨[], .nils, ⟨List.nodup_nil, fun l hl => by cases hl⟩, Nat.zero_le _⟩
  | emp => exact ⟨[], .emp, ⟨List.nodup_nil, fun l hl => by cases hl⟩, Nat.zero_le _⟩
  | sl r o n lim row l Rs h1 h2 h3 h4 h5 h6 h7 =>
    rw [List.nodup_cons] at hn
    have key : ∀ (l : List α) (Rs : List (List Nat)) (k : Nat), o + (k + l.length) * esz ≤ row.cells.length → Rs.length = l.length → (∀ (i : Nat) x R, l[i]? = some x → Rs[i]? = some R → Q ((row.cells.drop (o + (k + i) * esz)).take esz) x R) → Rs.flatten.Nodup → r ∉ Rs.flatten →
        ∃ lss : List (List Leaf), lss.length = l.length ∧ (∀ (i : Nat) ls, lss[i]? = some ls → P r (o + (k + i) * esz) ls) ∧ LOk r (o + k * esz) (o + (k + l.length) * esz) Rs.flatten lss.flatten ∧ lss.flatten.length ≤ totS c l := by
      intro l
      induction l with
      | nil =>
        intro Rs k hb hl hq hn hr
        obtain rfl : Rs = [] := List.length_eq_zero_iff.1 hl
        exact ⟨[], rfl, fun i ls hi => by simp at hi, LOk.nil _ _, Nat.zero_le _⟩
      | cons x l ih =>
        intro Rs k hb hl hq hn hr
        cases Rs with
        | nil => simp at hl
        | cons R Rs =>
          simp only [List.flatten_cons] at hn hr
          obtain ⟨n1, n2, n3⟩ := nodup_sub (c := []) hn
          have hm : (k + (x :: l).length) * esz = (k + 1 + l.length) * esz := by rw [List.length_cons]; congr 1; omega
          have hk1 : (k + 1) * esz = k * esz + esz := by rw [Nat.add_mul]; omega
          have hle : (k + 1) * esz ≤ (k + 1 + l.length) * esz := Nat.mul_le_mul_right _ (by omega)
          obtain ⟨ls0, p0, p1, p2⟩ := hQ r (o + k * esz) ((row.cells.drop (o + k * esz)).take esz) x R ⟨row, h2, h3⟩ (by
            unfold rdc
            rw [h2]
            simp only
            rw [if_pos (by rw [hm] at hb; omega)]) (hq 0 x R rfl rfl) n1 (fun hc => hr (List.mem_append_left _ hc))
          obtain ⟨lss, q0, q1, q2, q3⟩ := ih Rs (k + 1) (by rw [← hm]; exact hb) (by simpa using hl) (fun i y R' hy hR => by
            have := hq (i + 1) y R' (by simpa using hy) (by simpa using hR)
            rwa [show k + (i + 1) = k + 1 + i by omega] at this) n2 (fun hc => hr (List.mem_append_right _ hc))
          refine ⟨ls0 :: lss, by simp [q0], fun i ls hi => ?_, ?_, ?_⟩
          · cases i with
            | zero => simp at hi; subst hi; exact p0
            | succ i =>
              have := q1 i ls (by simpa using hi)
              rwa [show k + 1 + i = k + (i + 1) by omega] at this
          · rw [List.flatten_cons, List.flatten_cons, hm]
            rw [show o + k * esz + esz = o + (k + 1) * esz by omega] at p1
            exact p1.app q2 (by omega) (by omega) hn hr
          · rw [List.flatten_cons, List.length_append, totS]
            omega
    obtain ⟨lss, q0, q1, q2, q3⟩ := key l Rs 0 (by simpa using h5) h6 (fun i x R hx hR => by simpa using h7 i x R hx hR) hn.2 hn.1
    refine ⟨lss, .sl r o n lim row lss (by rw [q0]; exact h1) h2 h3 h4 (by rw [h1]; exact h5) (fun i ls hi => by simpa using q1 i ls hi), ⟨q2.1, fun l hl => ?_⟩, q3⟩
    rcases q2.2 l hl with ⟨a, _, _⟩ | a
    · rw [a]; exact List.mem_cons_self ..
    · exact List.mem_cons_of_mem _ a
/-- Slices, and the places of their elements: whatever rows they lie in. -/
theorem RepS.lv {α : Type} {esz : Nat} {Q : List V → α → Prop} {P : Nat → Nat → List Leaf → Prop} {c : α → Nat} {σ : Heap} {v : V} {l : List α} (h : RepS esz Q σ v l) (hw : ∀ (r : Nat) row, σ[r]? = some (some row) → row.ro = false)
    (hQ : ∀ r o cs x, x ∈ l → (∃ row, σ[r]? = some (some row) ∧ row.ro = false) → rdc σ r o esz = some cs → Q cs x → ∃ ls, P r o ls ∧ ls.length ≤ c x) :
    ∃ lss, LvS esz P σ v lss ∧ lss.flatten.length ≤ totS c l := by
  cases h with
  | nils => exact ⟨[], .nils, Nat.zero_le _⟩
  | emp => exact ⟨[], .emp, Nat.zero_le _⟩
  | sl r o n lim row l h1 h2 h4 h5 h7 =>
    have key : ∀ (l' : List α) (k : Nat), (∀ x, x ∈ l' → x ∈ l) → o + (k + l'.length) * esz ≤ row.cells.length → (∀ (i : Nat) x, l'[i]? = some x → Q ((row.cells.drop (o + (k + i) * esz)).take esz) x) →
        ∃ lss : List (List Leaf), lss.length = l'.length ∧ (∀ (i : Nat) ls, lss[i]? = some ls → P r (o + (k + i) * esz) ls) ∧ lss.flatten.length ≤ totS c l' := by
      intro l'
      induction l' with
      | nil => intro k hm hb hq; exact ⟨[], rfl, fun i ls hi => by simp at hi, Nat.zero_le _⟩
      | cons x l' ih =>
        intro k hml hb hq
        have hm : (k + (x :: l').length) * esz = (k + 1 + l'.length) * esz := by rw [List.length_cons]; congr 1; omega
        have hk1 : (k + 1) * esz = k * esz + esz := by rw [Nat.add_mul]; omega
        have hle : (k + 1) * esz ≤ (k + 1 + l'.length) * esz := Nat.mul_le_mul_right _ (by omega)
        obtain ⟨ls0, p0, p2⟩ := hQ r (o + k * esz) ((row.cells.drop (o + k * esz)).take esz) x (hml x (List.mem_cons_self ..)) ⟨row, h2, hw r row h2⟩ (by
          unfold rdc
          rw [h2]
          simp only
          rw [if_pos (by rw [hm] at hb; omega)]) (hq 0 x rfl)
        obtain ⟨lss, q0, q1, q3⟩ := ih (k + 1) (fun y hy => hml y (List.mem_cons_of_mem _ hy)) (by rw [← hm]; exact hb) (fun i y hy => by
          have := hq (i + 1) y (by simpa using hy)
          rwa [show k + (i + 1) = k + 1 + i by omega] at this)
        refine ⟨ls0 :: lss, by simp [q0], fun i ls hi => ?_, ?_⟩
        · cases i with
          | zero => simp at hi; subst hi; exact p0
          | succ i =>
            have := q1 i ls (by simpa using hi)
            rwa [show k + 1 + i = k + (i + 1) by omega] at this
        · rw [List.flatten_cons, List.length_append, totS]
          omega
    obtain ⟨lss, q0, q1, q3⟩ := key l 0 (fun x hx => hx) (by simpa using h5) (fun i x hx => by simpa using h7 i x hx)
    exact ⟨lss, .sl r o n lim row lss (by rw [q0]; exact h1) h2 (hw r row h2) h4 (by rw [h1]; exact h5) (fun i ls hi => by simpa using q1 i ls hi), q3⟩
theorem totS_lin {α : Type} (f : α → Nat) (l : List α) : totS (fun x => 8 + 8 * f x) l = 8 * (l.length + totS f l) := by
  induction l with
  | nil => rfl
  | cons x l ih => rw [totS, totS, ih, List.length_cons]; omega
theorem totS_mono {α : Type} {f g : α → Nat} (h : ∀ x, f x ≤ g x) : ∀ l : List α, totS f l ≤ totS g l
  | [] => Nat.le_refl _
  | x :: l => Nat.add_le_add (h x) (totS_mono h l)
theorem totS_eight {α : Type} (l : List α) : totS (fun _ => 8) l = 8 * l.length := by
  induction l with
  | nil => rfl
  | cons x l ih => rw [totS, ih, List.length_cons]; omega
end Go.HM
namespace Go.HM
theorem nodup_app {a b : List Nat} (ha : a.Nodup) (hb : b.Nodup) (hd : ∀ x, x ∈ a → ∀ y, y ∈ b → x ≠ y) : (a ++ b).Nodup := by
  rw [List.nodup_append]
  exact ⟨ha, hb, hd⟩
theorem nodup_far {a b : List Nat} {n : Nat} (ha : a.Nodup) (hb : b.Nodup) (h1 : ∀ x, x ∈ a → x < n) (h2 : ∀ x, x ∈ b → n ≤ x) : (a ++ b).Nodup := nodup_app ha hb fun x hx y hy => by
  have := h1 x hx
  have := h2 y hy
  omega
/-- One row of elements that lead nowhere. -/
theorem RepR.flat {α : Type} {esz : Nat} {P : List V → α → Prop} {σ : Heap} {r : Nat} {lim : Bool} {cells : List V} {ty : Nat} {l : List α} (hr : σ[r]? = some (some ⟨cells, esz, false, ty⟩)) (hc : Chunks esz P cells l) : RepR esz (fun cs x R => P cs x ∧ R = []) σ (.sl r 0 l.length lim) l [r] := by
  have : ([r] : List Nat) = r :: (List.replicate l.length ([] : List Nat)).flatten := by simp
  rw [this]
  refine .sl r 0 _ lim _ l _ rfl hr rfl rfl (by show 0 + _ ≤ cells.length; rw [hc.1]; omega) (by simp) fun i x R hx hR => ⟨?_, ?_⟩
  · show P ((cells.drop (0 + i * esz)).take esz) x
    rw [Nat.zero_add]
    exact hc.2 i x hx
  · rw [List.getElem?_replicate] at hR
    split at hR
    · injection hR with hR
      exact hR.symm
    · cases hR
/-- A copy of its own: as slices.Clone and append to a new empty slice make it. -/
theorem clone_ok {α : Type} {esz bytes : Nat} {P : List V → α → Prop} {σ : Heap} {v : V} {l : List α} (h : RepS esz P σ v l) (b1 : l.length * bytes ≤ 2 ^ 46) (b2 : l.length ≤ 2 ^ 46) :
    ∃ cs v' σ' R, vcells (hnew σ esz []) esz v = some (l.length, cs) ∧ vappend esz bytes (hnew σ esz []) (.sl σ.length 0 0 true) l.length cs = some (v', σ') ∧ Lh σ σ' ∧ RepR esz (fun cs x R => P cs x ∧ R = []) σ' v' l R ∧ At0 v' ∧ R.Nodup ∧ (∀ j, j ∈ R → σ.length ≤ j) ∧
      ∃ ρ, σ' = hnew σ esz [] ++ ρ := by
  have h1 := h.le (Lh.new σ esz [])
  obtain ⟨cs, hv, hc⟩ := h1.cells
  by_cases h0 : l.length = 0
  · obtain rfl : l = [] := List.length_eq_zero_iff.1 h0
    refine ⟨cs, .sl σ.length 0 0 true, hnew σ esz [], [σ.length], hv, ?_, Lh.new _ _ _, ?_, .inr ⟨_, _, _, rfl⟩, by simp, fun j hj => by simp at hj; omega, [], by simp⟩
    · simp [vappend, hnew]
    · exact RepR.flat (l := []) (cells := []) (ty := 0) (by simp [hnew]) ⟨by simp, fun i x hx => by simp at hx⟩
  · refine ⟨cs, .sl (σ.length + 1) 0 l.length false, hnew (hnew σ esz []) esz cs, [σ.length + 1], hv, ?_, (Lh.new _ _ _).trans (Lh.new _ _ _), ?_, .inr ⟨_, _, _, rfl⟩, by simp, fun j hj => by simp at hj; omega, [some ⟨cs, esz, false, 0⟩], rfl⟩
    · have e : (hnew σ esz [])[σ.length]? = some (some ⟨[], esz, false, 0⟩) := by simp [hnew]
      simp only [vappend, e]
      rw [if_pos ⟨trivial, by simp, by simpa using b1, by simpa using b2⟩]
      simp [h0, hnew]
    · have e : (hnew (hnew σ esz []) esz cs)[σ.length + 1]? = some (some ⟨cs, esz, false, 0⟩) := by
        rw [hnew, List.getElem?_append_right (by simp [hnew])]
        simp [hnew]
      exact RepR.flat e hc
/-- Under protection of a row that is not its own, a slice grows all the same. -/
theorem vappend_prot {σ σ' : Heap} {p esz bytes k : Nat} {v v' : V} {xs : List V} (hv : ∀ r o n lim, v = .sl r o n lim → r ≠ p) (h : vappend esz bytes σ v k xs = some (v', σ')) :
    ∃ τ, vappend esz bytes (prot [p] σ) v k xs = some (v', τ) ∧ unprot [p] σ τ = σ' := by
  have hlen := prot1_len σ p
  have other : ∀ j, j ≠ p → (prot [p] σ)[j]? = σ[j]? := fun j hj => prot_at [p] j (.inl (by simpa using hj))
  have hu0 : unprot [p] σ (prot [p] σ) = σ := unprot0 σ p
  have hu1 : ∀ (ρ : List (Option Row)), unprot [p] σ (prot [p] σ ++ ρ) = σ ++ ρ := unprot1 σ p
  cases v with
  | nils =>
    simp only [vappend] at h ⊢
    split at h
    · rename_i hk
      rw [if_pos hk]
      injection h with h; injection h with h1 h2
      subst h1 h2
      exact ⟨_, rfl, hu0⟩
    · rename_i hk
      rw [if_neg hk]
      split at h
      · rename_i hb
        rw [if_pos hb]
        injection h with h; injection h with h1 h2
        subst h1 h2
        rw [hlen]
        exact ⟨_, rfl, hu1 _⟩
      · cases h
  | sl r o n lim =>
    have hne := hv r o n lim rfl
    simp only [vappend] at h ⊢
    rw [other r hne]
    split at h
    · rename_i row hrow
      split at h
      · rename_i hc
        rw [if_pos hc]
        split at h
        · rename_i hl
          rw [if_pos hl]
          split at h
          · rename_i hk
            rw [if_pos hk]
            injection h with h; injection h with h1 h2
            subst h1 h2
            exact ⟨_, rfl, hu0⟩
          · rename_i hk
            rw [if_neg hk]
            injection h with h; injection h with h1 h2
            subst h1 h2
            rw [hlen]
            exact ⟨_, rfl, hu1 _⟩
        · rename_i hl
          rw [if_neg hl]
          split at h
          · rename_i hk
            rw [if_pos hk]
            injection h with h; injection h with h1 h2
            subst h1 h2
            rw [hlen]
            refine ⟨_, rfl, ?_⟩
            apply List.ext_getElem?
            intro j
            show (unprot [p] σ ((prot [p] σ).set r none ++ _))[j]? = _
            by_cases hjp : j = p
            · subst hjp
              show (back σ ((prot [j] σ).set r none ++ _) j)[j]? = _
              have hr' : (σ.set r none)[j]? = σ[j]? := by rw [List.getElem?_set, if_neg hne]
              unfold back
              split
              · rename_i row' hrow'
                have hl' := get_lt hrow'
                rw [List.getElem?_set, if_pos rfl, if_pos (by simp [hlen]; omega), hnew, List.getElem?_append_left (by simpa using hl'), hr', hrow']
              · rename_i hno
                have e : (prot [j] σ)[j]? = σ[j]? := prot_at [j] j (.inr (fun ⟨row', h⟩ => hno row' h))
                rcases Nat.lt_or_ge j σ.length with hl' | hl'
                · rw [List.getElem?_append_left (by simp [hlen]; omega), List.getElem?_set, if_neg hne, e, hnew, List.getElem?_append_left (by simpa using hl'), hr']
                · rw [hnew, List.getElem?_append_right (by simp [hlen]; omega), List.getElem?_append_right (by simpa using hl')]
                  simp [hlen]
            · rw [unprot1_get _ _ hjp]
              rcases Nat.lt_or_ge j σ.length with hl' | hl'
              · rw [hnew, List.getElem?_append_left (by simp [hlen]; omega), List.getElem?_append_left (by simpa using hl'), List.getElem?_set, List.getElem?_set]
                split
                · simp [hlen]
                · exact other j hjp
              · rw [hnew, List.getElem?_append_right (by simp [hlen]; omega), List.getElem?_append_right (by simpa using hl')]
                simp [hlen]
          · cases h
      · cases h
    · cases h
  | _ => simp [vappend] at h
end Go.HM
namespace Go.HM
theorem chunk_in {cs ys : List V} {o off n : Nat} (h : o + n ≤ cs.length) (hb : off + ys.length ≤ n) : ((setCells cs (o + off) ys).drop o).take n = setCells ((cs.drop o).take n) off ys := by
  have hl : ((cs.drop o).take n).length = n := by rw [List.length_take, List.length_drop]; omega
  apply List.ext_getElem?
  intro j
  by_cases hj : j < n
  · rw [chunk_get, if_pos hj, setCells_get _ _ _ _ (by omega), setCells_get _ _ _ _ (by omega), chunk_get, if_pos hj]
    by_cases h1 : off ≤ j ∧ j < off + ys.length
    · rw [if_pos h1, if_pos (by omega)]
      congr 1
      omega
    · rw [if_neg h1, if_neg (by omega)]
  · rw [chunk_get, if_neg hj, List.getElem?_eq_none (by rw [setCells_len, hl]; omega)]
theorem RepR.flatLe {α : Type} {esz : Nat} {Q : List V → α → List Nat → Prop} {σ σ' : Heap} {v : V} {l : List α} {R : List Nat} (h : RepR esz Q σ v l R) (hl : Lh σ σ') : RepR esz Q σ' v l R := by
  cases h with
  | nils => exact .nils
  | emp => exact .emp
  | sl r o n lim row l Rs h1 h2 h3 h4 h5 h6 h7 => exact .sl r o n lim row l Rs h1 (hl.row _ _ h2) h3 h4 h5 h6 h7
/-- A part of an element is written. -/
theorem RepR.put {α : Type} {esz : Nat} {Q : List V → α → List Nat → Prop} {σ : Heap} {v : V} {l : List α} {R : List Nat} (h : RepR esz Q σ v l R) (hflat : ∀ cs x R, Q cs x R → R = []) {i : Nat} {x y : α} (hx : l[i]? = some x) {off : Nat} {ys : List V} (hoff : off + ys.length ≤ esz)
    (hQ : ∀ cs, Q cs x [] → Q (setCells cs off ys) y []) :
    ∃ r o σ', vidx esz v (i : Int) = some (r, o) ∧ r ∈ R ∧ wrc σ r (o + off) ys = some σ' ∧ RepR esz Q σ' v (l.set i y) R ∧ σ'.length = σ.length ∧ ∀ j, j ≠ r → σ'[j]? = σ[j]? := by
  have hi := lt_of_get hx
  cases h with
  | nils => simp at hi
  | emp => simp at hi
  | sl r o n lim row l Rs h1 h2 h3 h4 h5 h6 h7 =>
    have hm := mul_le_of_lt hi esz
    have hb : o + i * esz + off + ys.length ≤ row.cells.length := by omega
    have hlt := get_lt h2
    refine ⟨r, o + i * esz, σ.set r (some { row with cells := setCells row.cells (o + i * esz + off) ys }), by simp [vidx, h1, hi], List.mem_cons_self .., ?_, ?_, by simp, fun j hj => by rw [List.getElem?_set, if_neg (Ne.symm hj)]⟩
    · rw [wrc, h2]
      simp only
      rw [if_pos ⟨h3, hb⟩]
    · refine .sl r o n lim { row with cells := setCells row.cells (o + i * esz + off) ys } _ Rs (by simpa using h1) (by rw [List.getElem?_set, if_pos rfl, if_pos hlt]) h3 h4 (by show _ ≤ (setCells _ _ _).length; rw [setCells_len]; simpa using h5) (by simpa using h6) fun k z Rz hz hR => ?_
      show Q (((setCells row.cells (o + i * esz + off) ys).drop (o + k * esz)).take esz) z Rz
      rw [List.getElem?_set] at hz
      by_cases hik : i = k
      · subst hik
        rw [if_pos rfl, if_pos hi] at hz
        injection hz with hz
        subst hz
        have hq := h7 i x Rz hx hR
        obtain rfl := hflat _ _ _ hq
        rw [chunk_in (by omega) hoff]
        exact hQ _ hq
      · rw [if_neg hik] at hz
        have hk := lt_of_get hz
        have hmk := mul_le_of_lt hk esz
        have hd : o + k * esz + esz ≤ o + i * esz + off ∨ o + i * esz + off + ys.length ≤ o + k * esz := by
          rcases Nat.lt_or_gt_of_ne hik with hl | hl
          · right
            have := mul_le_of_lt hl esz
            omega
          · left
            have := mul_le_of_lt hl esz
            omega
        rw [chunk_set_other hb hd]
        exact h7 k z Rz hz hR
end Go.HM
namespace Go.HM
theorem RepR.le {α : Type} {esz : Nat} {Q Q' : List V → α → List Nat → Prop} {σ σ' : Heap} {v : V} {l : List α} {R : List Nat} (h : RepR esz Q σ v l R) (hl : Lh σ σ') (hQ : ∀ cs x R, Q cs x R → Q' cs x R) : RepR esz Q' σ' v l R := by
  cases h with
  | nils => exact .nils
  | emp => exact .emp
  | sl r o n lim row l Rs h1 h2 h3 h4 h5 h6 h7 => exact .sl r o n lim row l Rs h1 (hl.row _ _ h2) h3 h4 h5 h6 fun i x R hx hR => hQ _ _ _ (h7 i x R hx hR)
theorem sl_flat {v : V} (h : isSl v = true) : v.flat = true := by cases v <;> simp [isSl] at h <;> rfl
theorem one_sl' {v : V} (h : isSl v = true) {β : Type} (K : Option β) : one v K = K := one_of (sl_flat h) K
end Go.HM
namespace Go.HM
theorem rdc_prot {σ : Heap} {p r o n : Nat} {cs : List V} (h : rdc σ r o n = some cs) : rdc (prot [p] σ) r o n = some cs := by
  obtain ⟨row, h1, h2, rfl⟩ := rdc_some h
  obtain ⟨row', g1, g2, _⟩ := prot1_get (r := p) h1
  unfold rdc
  rw [g1]
  simp only
  rw [if_pos (by rw [g2]; exact h2), g2]
theorem vcells_prot {σ : Heap} {p esz : Nat} {v : V} {q : Nat × List V} (h : vcells σ esz v = some q) : vcells (prot [p] σ) esz v = some q := by
  cases v with
  | sl r o n lim =>
    simp only [vcells] at h ⊢
    obtain ⟨cs, h1, h2⟩ := Option.bind_eq_some_iff.1 h
    rw [rdc_prot h1]
    exact h2
  | nils => exact h
  | emp => exact h
  | _ => simp [vcells] at h
end Go.HM
