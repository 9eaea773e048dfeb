/- Regions whose order is drawn: what yields in whatever world comes first; what writes has to be alone. -/
import Derived.Test.YtoakhfnojbmhgaaGreatHMRun0
import Derived.OrdersHeld
set_option linter.unusedSimpArgs false
set_option linter.unusedVariables false
namespace Go.HM

section
variable {P : Program} {ops : Array Oper} {Q : Exit → Act → World → Prop}

def keepL (P : Program) (ops : Array Oper) (j : Nat) (Ps : List (Nat × (World → Prop))) : List (Nat × (World → Prop)) := bif isPRat P ops j then Ps else Ps.filter fun p => !dep ops j p.1

def wpAnyL (P : Program) (ops : Array Oper) (Q : Exit → Act → World → Prop) : Nat → Array Bool → List (Nat × (World → Prop)) → Act → World → Prop
  | 0, listed, _, a, w => Region.ready .any ops listed = [] ∧ Q .normal a w
  | n + 1, listed, Ps, a, w => (Region.ready .any ops listed = [] → Q .normal a w) ∧
    ∀ j ∈ Region.ready .any ops listed, wpOp P ops Q j (fun a' w' => (∀ p ∈ keepL P ops j Ps, p.2 w') ∧ wpAnyL P ops Q n (listed.setIfInBounds j true) (keepL P ops j Ps) a' w') a w

theorem wpAny_of_L : ∀ (n : Nat) (listed : Array Bool) (Ps : List (Nat × (World → Prop))) (a : Act) (w : World), wpAnyL P ops Q n listed Ps a w → wpAny P .any ops Q n listed a w
  | 0, _, _, _, _, h => h
  | n + 1, _, _, _, _, h => ⟨h.1, fun j hj => wpOp_mono (fun a' w' h' => wpAny_of_L n _ _ a' w' h'.2) (h.2 j hj)⟩

/-- A condition that always holds may be added. -/
theorem wpAnyL_true : ∀ (n : Nat) (listed : Array Bool) (Ps : List (Nat × (World → Prop))) (i : Nat) (a : Act) (w : World), wpAnyL P ops Q n listed Ps a w → wpAnyL P ops Q n listed ((i, fun _ => True) :: Ps) a w
  | 0, _, _, _, _, _, h => h
  | n + 1, _, Ps, i, _, _, h => ⟨h.1, fun j hj => wpOp_mono (fun a' w' h' => by
      have hk : keepL P ops j ((i, fun _ => True) :: Ps) = keepL P ops j Ps ∨ keepL P ops j ((i, fun _ => True) :: Ps) = (i, fun _ => True) :: keepL P ops j Ps := by
        unfold keepL
        cases isPRat P ops j with
        | true => exact .inr rfl
        | false =>
          simp only [cond_false, List.filter_cons]
          split
          · exact .inr rfl
          · exact .inl rfl
      rcases hk with hk | hk <;> rw [hk]
      · exact h'
      · refine ⟨fun p hp => ?_, wpAnyL_true n _ _ _ _ _ h'.2⟩
        rcases List.mem_cons.1 hp with rfl | hp
        · trivial
        · exact h'.1 p hp) (h.2 j hj)⟩

theorem wpAnyL_take {i : Nat} {oi : Oper} {v : Value} {S : World → Prop} (hi : ops[i]? = some oi) (hsel : ∀ (j : Nat) (o : Oper) cs b, ops[j]? = some o → o.op ≠ .select cs b)
    (hQ : ∀ c a w, Q (.panic c) (a.put oi.dst v) w → Q (.panic c) a w) (hpr : isPRat P ops i = true) :
    ∀ (n : Nat) (listed : Array Bool) (Ps : List (Nat × (World → Prop))) (a : Act) (w : World),
      (∀ j oj, ops[j]? = some oj → j ≠ i → listed.getD j true = false → (∀ e ∈ oj.after, Region.binds .any e = true → e.on ≠ i) → oi.apart ops oj = true) →
      i ∈ Region.ready .any ops listed → YieldsIf P ops S oi v a → S w → (∀ p ∈ Ps, p.2 w) →
      wpAnyL P ops Q n (listed.setIfInBounds i true) ((i, S) :: Ps) (a.put oi.dst v) w → wpAnyL P ops Q (n + 1) listed Ps a w := by
  have weaken : ∀ (n : Nat) (listed : Array Bool) (q : Nat × (World → Prop)) (Ps : List (Nat × (World → Prop))) (a : Act) (w : World), wpAnyL P ops Q n listed (q :: Ps) a w → wpAnyL P ops Q n listed Ps a w := by
    intro n
    induction n with
    | zero => intro listed q Ps a w h; exact h
    | succ n ih =>
      intro listed q Ps a w h
      refine ⟨h.1, fun j hj => wpOp_mono (fun a' w' h' => ?_) (h.2 j hj)⟩
      have hk : keepL P ops j (q :: Ps) = keepL P ops j Ps ∨ keepL P ops j (q :: Ps) = q :: keepL P ops j Ps := by
        unfold keepL
        cases isPRat P ops j with
        | true => exact .inr rfl
        | false =>
          simp only [cond_false, List.filter_cons]
          split
          · exact .inr rfl
          · exact .inl rfl
      rcases hk with hk | hk <;> rw [hk] at h'
      · exact h'
      · exact ⟨fun p hp => h'.1 p (List.mem_cons_of_mem _ hp), ih _ _ _ _ _ h'.2⟩
  intro n
  induction n with
  | zero =>
    intro listed Ps a w _ hr hy hS hPs H
    refine ⟨fun h => (by rw [h] at hr; cases hr), fun j hj => ?_⟩
    by_cases hji : j = i
    · subst hji
      refine hy.wpOp hi hS ⟨fun p hp => ?_, H⟩
      simp only [keepL, hpr, cond_true] at hp
      exact hPs p hp
    · have := ready_mono hj hji
      rw [H.1] at this
      cases this
  | succ n ih =>
    intro listed Ps a w hfree hr hy hS hPs H
    refine ⟨fun h => (by rw [h] at hr; cases hr), fun j hj => ?_⟩
    by_cases hji : j = i
    · subst hji
      refine hy.wpOp hi hS ⟨fun p hp => ?_, ?_⟩
      · simp only [keepL, hpr, cond_true] at hp
        exact hPs p hp
      · simp only [keepL, hpr, cond_true]
        exact weaken _ _ _ _ _ _ H
    · have h1 := H.2 j (ready_mono hj hji)
      obtain ⟨hjun, oj, hoj, hall⟩ := mem_ready.1 hj
      have hnot : ∀ e ∈ oj.after, Region.binds .any e = true → e.on ≠ i := fun e he hb heq => by
        have h1 := hall e he hb
        have h0 := (mem_ready.1 hr).1
        rw [heq] at h1
        rcases Nat.lt_or_ge i listed.size with h' | h'
        · simp [h'] at h0 h1; rw [h0] at h1; cases h1
        · simp [Array.getElem?_eq_none h'] at h1
      have hdep : dep ops j i = false := by
        unfold dep
        rw [hoj]
        simp only [Array.any_eq_false']
        intro e he
        have := hnot e he
        cases hb : Region.binds .any e with
        | false => simp
        | true => simpa using this hb
      have hkeep : keepL P ops j ((i, S) :: Ps) = (i, S) :: keepL P ops j Ps := by
        unfold keepL
        cases isPRat P ops j with
        | true => rfl
        | false => simp [List.filter_cons, hdep]
      rw [hkeep] at h1
      have h2 := wpOp_putIf hoj (hfree j oj hoj hji hjun hnot) (fun cs b => hsel i oi cs b hi) (fun cs b => hsel j oj cs b hoj) hQ hy h1
      have hfree' : ∀ k ok, ops[k]? = some ok → k ≠ i → (listed.setIfInBounds j true).getD k true = false →
          (∀ e ∈ ok.after, Region.binds .any e = true → e.on ≠ i) → oi.apart ops ok = true := fun k ok hk hki hun hno => by
        refine hfree k ok hk hki ?_ hno
        by_cases hjk : j = k
        · subst hjk; exact hjun
        · rw [getD_set_ne true hjk] at hun; exact hun
      refine wpOp_mono (fun a' w' h3 => ?_) h2
      obtain ⟨hy', hkept, hrest⟩ := h3
      refine ⟨fun p hp => hkept p (List.mem_cons_of_mem _ hp), ih (listed.setIfInBounds j true) (keepL P ops j Ps) a' w' hfree' (ready_mono hr (Ne.symm hji)) hy' (hkept (i, S) (List.mem_cons_self ..)) (fun p hp => hkept p (List.mem_cons_of_mem _ hp)) ?_⟩
      rw [Array.setIfInBounds_comm _ _ hji]
      exact hrest
end
end Go.HM
