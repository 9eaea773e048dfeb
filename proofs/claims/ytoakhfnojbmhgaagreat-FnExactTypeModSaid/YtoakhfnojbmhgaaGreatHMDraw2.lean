/- Regions whose order is drawn: the small machine's order is as good as any. -/
import Derived.Test.YtoakhfnojbmhgaaGreatHMDraw
import Derived.Test.YtoakhfnojbmhgaaGreatHMAlloc
set_option linter.unusedSimpArgs false
set_option linter.unusedVariables false
namespace Go.HM

theorem toRo_get {σ : Heap} {r k : Nat} {row' : Row} (h : (toRo σ r)[k]? = some (some row')) :
    (k = r ∧ ∃ row, σ[r]? = some (some row) ∧ row' = ⟨row.cells, row.esz, true, row.ty⟩) ∨ (k ≠ r ∧ σ[k]? = some (some row')) := by
  unfold toRo at h
  split at h
  · rename_i row hr
    rw [List.getElem?_set] at h
    split at h
    · split at h
      · injection h with h
        injection h with h
        exact .inl ⟨by omega, row, hr, h.symm⟩
      · cases h
    · exact .inr ⟨by omega, h⟩
  · rename_i hno
    refine .inr ⟨?_, h⟩
    intro he
    subst he
    exact hno row' h

theorem toRo_live {σ : Heap} {r : Nat} {row : Row} (h : σ[r]? = some (some row)) : (toRo σ r)[r]? = some (some ⟨row.cells, row.esz, true, row.ty⟩) := by
  unfold toRo
  rw [h]
  simp only [List.getElem?_set, if_true]
  rw [if_pos (List.getElem?_eq_some_iff.1 h).1]

theorem toRo_other {σ : Heap} {r k : Nat} (h : k ≠ r) : (toRo σ r)[k]? = σ[k]? := by
  unfold toRo
  split
  · rw [List.getElem?_set, if_neg (Ne.symm h)]
  · rfl

theorem toRo_length (σ : Heap) (r : Nat) : (toRo σ r).length = σ.length := by
  unfold toRo
  split <;> simp

/-- A row under protection is the row, but for the leave to write. -/
theorem prot_get : ∀ {rs : List Nat} {σ : Heap} {k : Nat} {row' : Row}, (prot rs σ)[k]? = some (some row') →
    ∃ row, σ[k]? = some (some row) ∧ row'.cells = row.cells ∧ (row'.esz = row.esz ∧ row'.ty = row.ty) ∧ (row'.ro = false → row.ro = false ∧ k ∉ rs)
  | [], σ, k, row', h => ⟨row', h, rfl, ⟨rfl, rfl⟩, fun h => ⟨h, by simp⟩⟩
  | r :: rs, σ, k, row', h => by
    rcases toRo_get h with ⟨rfl, row, hr, rfl⟩ | ⟨hne, h⟩
    · obtain ⟨row0, h1, h2, h3, h4⟩ := prot_get hr
      exact ⟨row0, h1, h2, h3, fun h => by cases h⟩
    · obtain ⟨row0, h1, h2, h3, h4⟩ := prot_get h
      exact ⟨row0, h1, h2, h3, fun h => ⟨(h4 h).1, by simp [hne, (h4 h).2]⟩⟩

theorem prot_live : ∀ {rs : List Nat} {σ : Heap} {k : Nat} {row : Row}, σ[k]? = some (some row) → ∃ row', (prot rs σ)[k]? = some (some row') ∧ (k ∈ rs → row'.ro = true)
  | [], σ, k, row, h => ⟨row, h, fun h => by simp at h⟩
  | r :: rs, σ, k, row, h => by
    obtain ⟨row', h1, h2⟩ := prot_live (rs := rs) h
    by_cases hk : k = r
    · subst hk
      exact ⟨_, toRo_live h1, fun _ => rfl⟩
    · exact ⟨row', by rw [prot, toRo_other hk]; exact h1, fun hm => h2 (by simpa [hk] using hm)⟩

theorem prot_length : ∀ (rs : List Nat) (σ : Heap), (prot rs σ).length = σ.length
  | [], _ => rfl
  | r :: rs, σ => by rw [prot, toRo_length, prot_length rs σ]

theorem At.plain {w : World} {b base size : Nat} {μ : Mu} {cells : List V} {p : Bool} {ty : Nat} (h : At w b base size μ cells p ty) : At w b base size μ cells false ty := by
  obtain ⟨cs, t, fz, h1, h2, h3, h4, h5⟩ := h
  exact ⟨cs, t, fz, h1, h2, h3, h4, (fun h => by cases h), h5.2⟩

theorem St.prot {C : Ctx} {μ : Mu} {β : Nat → Nat} {t : List T} {σ : Heap} {a : Act} {w : World} (h : St C μ β t σ a w) (rs : List Nat) : St C μ β t (prot rs σ) a w := by
  refine ⟨⟨⟨fun r hr => h.base.sim.fresh r (by rw [prot_length] at hr; exact hr), fun r row' hr => ?_, fun r r' row1 row2 L L' h1 h2 h3 h4 h5 h6 => ?_, h.base.sim.glob, fun g row' L hg hr hL => by
    obtain ⟨row, h1, h2, _, h4⟩ := prot_get hr
    obtain ⟨e1, e2⟩ := h.base.sim.exact g row L hg h1 hL
    refine ⟨?_, by rw [h2]; exact e2⟩
    cases hro : row'.ro with
    | true => rfl
    | false => rw [(h4 hro).1] at e1; cases e1⟩, h.base.keep, h.base.le, fun r row' L hr hL => ?_⟩, h.size, h.tmps, fun i x hx ho => ⟨(h.mine i x hx ho).1, fun r row' L hr hL => ?_⟩, h.apart, h.defers, h.len⟩
  · obtain ⟨row, h1, h2, h3, h4⟩ := prot_get hr
    obtain ⟨L, k1, k2, k3, k4⟩ := h.base.sim.live r row h1
    refine ⟨L, k1, by rw [h3.1]; exact k2, ?_, fun hro => k4 (h4 hro).1⟩
    rw [h2, h3.2]
    cases hro : row'.ro with
    | true => exact k3.plain
    | false => rw [(h4 hro).1] at k3; exact k3
  · obtain ⟨row10, k1, _, _, k2⟩ := prot_get h1
    obtain ⟨row20, k3, _, _, _⟩ := prot_get h2
    exact h.base.sim.apart r r' row10 row20 L L' k1 k3 (k2 h3).1 h4 h5 h6
  · obtain ⟨row, h1, h2, h3, h4⟩ := prot_get hr
    rcases h.base.okb r row L h1 hL with ⟨row0, k1, k2, k3⟩ | k
    · exact .inl ⟨row0, k1, k2, fun hro => k3 (h4 hro).1⟩
    · exact .inr k
  · obtain ⟨row, h1, _⟩ := prot_get hr
    exact (h.mine i x hx ho).2 r row L h1 hL

/-- What was protected is as it was. -/
theorem St.unprot {C : Ctx} {μ μ' : Mu} {β β' : Nat → Nat} {t t' : List T} {σ σ' : Heap} {a a' : Act} {w w' : World} {ex : Nat → Bool} {ps : List Nat} (h : St C μ β t σ a w) (h' : St C μ' β' t' σ' a' w')
    (s : Step w (HM.prot ps σ) μ t β ex w' σ' μ' t' β') : ∀ (rs : List Nat), (∀ r ∈ rs, r ∈ ps) →
    St C μ' β' t' (unprot rs σ σ') a' w' ∧ (∀ (r : Nat) row L, (unprot rs σ σ')[r]? = some (some row) → μ' r = some L → (σ[r]? = some (some row) ∧ μ r = some L) ∨ (⟨w, HM.prot ps σ, μ, 0⟩ : Ctx).okr r row L) ∧ (unprot rs σ σ').length = σ'.length
  | [], _ => ⟨h', fun r row L hr hL => .inr (s.desc r row L hr hL), rfl⟩
  | r :: rs, hsub => by
    obtain ⟨ih, ihd, ihl⟩ := St.unprot h h' s rs (fun q hq => hsub q (List.mem_cons_of_mem _ hq))
    show St C μ' β' t' (back σ (HM.unprot rs σ σ') r) a' w' ∧ (∀ (k : Nat) row L, (back σ (HM.unprot rs σ σ') r)[k]? = some (some row) → μ' k = some L → _) ∧ (back σ (HM.unprot rs σ σ') r).length = _
    generalize HM.unprot rs σ σ' = τ at ih ihd ihl
    unfold back
    split
    · rename_i row hr
      obtain ⟨L, hL, hesz, hat, hb0⟩ := h.base.sim.live r row hr
      have hL' := s.le r L hL
      obtain ⟨prow, hp, hpro⟩ := prot_live (rs := ps) hr
      have hrps : r ∈ ps := hsub r (List.mem_cons_self ..)
      have hblk := s.ro r prow L hp (hpro hrps) hL
      have hat' : At w' L.block L.base L.size μ' row.cells (!row.ro) row.ty := (hat.mono s.le).keep hblk
      have hlt := hat.lt
      have hget : ∀ (k : Nat) row', (τ.set r (some row))[k]? = some (some row') → (k = r ∧ row' = row) ∨ (k ≠ r ∧ τ[k]? = some (some row')) := by
        intro k row' hk
        rw [List.getElem?_set] at hk
        split at hk
        · split at hk
          · injection hk with hk; injection hk with hk; exact .inl ⟨by omega, hk.symm⟩
          · cases hk
        · exact .inr ⟨by omega, hk⟩
      have hap : ∀ (k : Nat) row' L2, k ≠ r → τ[k]? = some (some row') → μ' k = some L2 → (row.ro = false ∨ row'.ro = false) → L.block ≠ L2.block := by
        intro k row' L2 hne hk hL2 hor
        rcases ihd k row' L2 hk hL2 with ⟨k1, k2⟩ | ⟨row0, k1, k2, k3⟩ | k1 | ⟨r0, row0, L0, k1, k2, k3, k4⟩
        · rcases hor with ho | ho
          · exact h.base.sim.apart r k row row' L L2 hr k1 ho (Ne.symm hne) hL k2
          · exact Ne.symm (h.base.sim.apart k r row' row L2 L k1 hr ho hne k2 hL)
        · obtain ⟨row00, k4, _, _, k5⟩ := prot_get k1
          rcases hor with ho | ho
          · exact h.base.sim.apart r k row row00 L L2 hr k4 ho (Ne.symm hne) hL k2
          · exact Ne.symm (h.base.sim.apart k r row00 row L2 L k4 hr (k5 (k3 ho)).1 hne k2 hL)
        · have : w.heap.size ≤ L2.block := k1
          omega
        · obtain ⟨row00, k5, _, _, k6⟩ := prot_get k1
          have k7 := k6 (k4 rfl)
          have hne0 : r0 ≠ r := fun he => k7.2 (by rw [he]; exact hrps)
          rw [← k3]
          exact Ne.symm (h.base.sim.apart r0 r row00 row L0 L k5 hr k7.1 hne0 k2 hL)
      refine ⟨⟨⟨⟨fun k hk => ih.base.sim.fresh k (by simpa using hk), fun k row' hk => ?_, fun k k' row1 row2 L1 L2 h1 h2 h3 h4 h5 h6 => ?_, ih.base.sim.glob, fun g row' M hg hk hM => by
        rcases hget g row' hk with ⟨rfl, rfl⟩ | ⟨_, hk'⟩
        · rw [hL'] at hM
          injection hM with hM
          rw [← hM]
          exact h.base.sim.exact _ _ L hg hr hL
        · exact ih.base.sim.exact g row' M hg hk' hM⟩, ih.base.keep, ih.base.le, fun k row' L2 hk hL2 => ?_⟩, ih.size, ih.tmps, fun i x hx ho => ⟨(ih.mine i x hx ho).1, fun k row' L2 hk hL2 => ?_⟩, ih.apart, ih.defers, ih.len⟩, fun k row' L2 hk hL2 => ?_, by simpa using ihl⟩
      · rcases hget k row' hk with ⟨rfl, rfl⟩ | ⟨hne, hk'⟩
        · exact ⟨L, hL', hesz, hat', hb0⟩
        · exact ih.base.sim.live k row' hk'
      · rcases hget k row1 h1 with ⟨rfl, rfl⟩ | ⟨hne, h1'⟩ <;> rcases hget k' row2 h2 with ⟨rfl, rfl⟩ | ⟨hne', h2'⟩
        · exact absurd rfl h4
        · rw [hL'] at h5
          injection h5 with h5
          rw [← h5]
          exact hap k' row2 L2 hne' h2' h6 (.inl h3)
        · rw [hL'] at h6
          injection h6 with h6
          rw [← h6]
          exact Ne.symm (hap k row1 L1 hne h1' h5 (.inr h3))
        · exact ih.base.sim.apart k k' row1 row2 L1 L2 h1' h2' h3 h4 h5 h6
      · rcases hget k row' hk with ⟨rfl, rfl⟩ | ⟨hne, hk'⟩
        · rw [hL'] at hL2
          injection hL2 with hL2
          rw [← hL2]
          exact h.base.okb k row' L hr hL
        · exact ih.base.okb k row' L2 hk' hL2
      · rcases hget k row' hk with ⟨rfl, rfl⟩ | ⟨hne, hk'⟩
        · rw [hL'] at hL2
          injection hL2 with hL2
          rw [← hL2]
          rcases s.fresh i x hx ho with ⟨h1, x0, h2, h3⟩ | h1
          · rw [h1]
            exact (h.mine i x0 h2 h3).2 k row' L hr hL
          · omega
        · exact (ih.mine i x hx ho).2 k row' L2 hk' hL2
      · rcases hget k row' hk with ⟨rfl, rfl⟩ | ⟨hne, hk'⟩
        · rw [hL'] at hL2
          injection hL2 with hL2
          rw [← hL2]
          exact .inl ⟨hr, hL⟩
        · exact ihd k row' L2 hk' hL2
    · exact ⟨ih, ihd, ihl⟩

theorem unprot_live {σ σ' : Heap} : ∀ {rs : List Nat} {r : Nat} {row : Row}, r ∈ rs → σ[r]? = some (some row) → r < σ'.length → (unprot rs σ σ')[r]? = some (some row)
  | [], _, _, h, _, _ => by simp at h
  | q :: rs, r, row, h, hr, hlt => by
    have hlen : ∀ (rs : List Nat), (unprot rs σ σ').length = σ'.length := by
      intro rs
      induction rs with
      | nil => rfl
      | cons q rs ih => show (back σ (unprot rs σ σ') q).length = _; unfold back; split <;> simp [ih]
    show (back σ (unprot rs σ σ') q)[r]? = _
    by_cases hq : r = q
    · subst hq
      unfold back
      rw [hr]
      simp only [List.getElem?_set, if_true]
      rw [if_pos (by rw [hlen]; exact hlt)]
    · have ih := unprot_live (σ' := σ') (by simpa [hq] using h) hr hlt
      unfold back
      split
      · rw [List.getElem?_set, if_neg (Ne.symm hq)]; exact ih
      · exact ih

theorem unprot_at {σ σ' : Heap} : ∀ (rs : List Nat) (k : Nat), (unprot rs σ σ').length = σ'.length ∧ ((unprot rs σ σ')[k]? = σ'[k]? ∨ (k ∈ rs ∧ (∃ row, σ[k]? = some (some row)) ∧ (unprot rs σ σ')[k]? = σ[k]?)) ∧ (k ∈ rs → k < σ'.length → (∃ row, σ[k]? = some (some row)) → (unprot rs σ σ')[k]? = σ[k]?)
  | [], k => ⟨rfl, .inl rfl, fun h => by cases h⟩
  | r :: rs, k => by
    obtain ⟨h1, h2, h3⟩ := unprot_at (σ := σ) (σ' := σ') rs k
    show (back σ (unprot rs σ σ') r).length = _ ∧ ((back σ (unprot rs σ σ') r)[k]? = _ ∨ _) ∧ _
    have hb : (back σ (unprot rs σ σ') r).length = σ'.length := by unfold back; split <;> simp [h1]
    refine ⟨hb, ?_, fun hk hl hlive => ?_⟩
    · unfold back
      split
      · rename_i row hr
        rw [List.getElem?_set]
        split
        · rename_i hrk
          subst hrk
          split
          · rename_i hl
            refine .inr ⟨List.mem_cons_self .., ⟨row, hr⟩, ?_⟩
            show (back σ (unprot rs σ σ') r)[r]? = _
            unfold back
            rw [hr]
            simp [hl]
          · rename_i hl
            exact .inl (by rw [List.getElem?_eq_none]; rw [← h1]; omega)
        · rename_i hne
          rcases h2 with h2 | ⟨g1, g2, g3⟩
          · exact .inl h2
          · refine .inr ⟨List.mem_cons_of_mem _ g1, g2, ?_⟩
            show (back σ (unprot rs σ σ') r)[k]? = _
            unfold back
            rw [hr]
            simp only [List.getElem?_set, if_neg hne]
            exact g3
      · rename_i hno
        rcases h2 with h2 | ⟨g1, g2, g3⟩
        · exact .inl h2
        · refine .inr ⟨List.mem_cons_of_mem _ g1, g2, ?_⟩
          show (back σ (unprot rs σ σ') r)[k]? = _
          unfold back
          split
          · rename_i row hr; exact absurd hr (hno row)
          · exact g3
    · show (back σ (unprot rs σ σ') r)[k]? = _
      unfold back
      split
      · rename_i row hr
        rw [List.getElem?_set]
        split
        · rename_i hrk
          subst hrk
          rw [if_pos (by rw [h1]; exact hl), hr]
        · rename_i hne
          exact h3 ((List.mem_cons.1 hk).resolve_left (Ne.symm hne)) hl hlive
      · rename_i hno
        obtain ⟨row, hrow⟩ := hlive
        by_cases hkr : k = r
        · subst hkr
          exact absurd hrow (hno row)
        · exact h3 ((List.mem_cons.1 hk).resolve_left hkr) hl ⟨row, hrow⟩
theorem prot_at {σ : Heap} : ∀ (rs : List Nat) (k : Nat), (k ∉ rs ∨ ¬ ∃ row, σ[k]? = some (some row)) → (prot rs σ)[k]? = σ[k]?
  | [], k, _ => rfl
  | r :: rs, k, h => by
    have h0 : k ∉ rs ∨ ¬ ∃ row, σ[k]? = some (some row) := h.imp (fun h hc => h (List.mem_cons_of_mem _ hc)) id
    have ih := prot_at (σ := σ) rs k h0
    by_cases hkr : k = r
    · subst hkr
      rcases h with h | h
      · exact absurd (List.mem_cons_self ..) h
      · show (toRo (prot rs σ) k)[k]? = _
        unfold toRo
        split
        · rename_i row hr
          rw [ih] at hr
          exact absurd ⟨row, hr⟩ h
        · exact ih
    · show (toRo (prot rs σ) r)[k]? = _
      rw [toRo_other hkr]
      exact ih
theorem unprot_app (σ : Heap) (rs : List Nat) (ρ : List (Option Row)) : unprot rs σ (prot rs σ ++ ρ) = σ ++ ρ := by
  apply List.ext_getElem?
  intro k
  obtain ⟨h1, h2, h3⟩ := unprot_at (σ := σ) (σ' := prot rs σ ++ ρ) rs k
  rcases Nat.lt_or_ge k σ.length with hk | hk
  · rw [List.getElem?_append_left hk]
    by_cases hl : k ∈ rs ∧ ∃ row, σ[k]? = some (some row)
    · exact h3 hl.1 (by simp [prot_length]; omega) hl.2
    · rcases h2 with h2 | ⟨_, _, h2⟩
      · rw [h2, List.getElem?_append_left (by rw [prot_length]; exact hk)]
        refine prot_at rs k ?_
        by_cases hm : k ∈ rs
        · exact .inr (fun h => hl ⟨hm, h⟩)
        · exact .inl hm
      · exact h2
  · rcases h2 with h2 | ⟨_, ⟨row, h2⟩, _⟩
    · rw [h2, List.getElem?_append_right (by rw [prot_length]; exact hk), List.getElem?_append_right hk, prot_length]
    · have := (List.getElem?_eq_some_iff.1 h2).1
      omega
theorem unprot_prot (σ : Heap) (rs : List Nat) : unprot rs σ (prot rs σ) = σ := by simpa using unprot_app σ rs []
theorem put_same {a : Act} {d : Nat} {y : Value} (h : a.tmps[d]? = some y) : a.put (some d) y = a := by
  cases a with
  | mk tm df =>
    simp only [Act.put]
    congr 1
    apply Array.ext_getElem?
    intro i
    rw [Array.getElem?_setIfInBounds]
    split
    · rename_i hi
      subst hi
      split
      · exact h.symm
      · rename_i hl
        have := (Array.getElem?_eq_some_iff.1 h).1
        exact absurd this hl
    · rfl
section
variable {α : Type} {E : Env} {o : Oper} {t : List T} {σ : Heap} {r : α} {C : Ctx} {μ : Mu} {β : Nat → Nat} {a : Act} {w : World}
/-- A block that was laid before is told of now. -/
theorem late {K : List T → Heap → Option α} (st : St C μ β t σ a w) (rs : List Nat) (hal : isAlloc o = true) {K' : List T → Heap → Option α} (hK' : K' = fun t' σ' => K t' (unprot rs σ σ')) (h : hop E o t (prot rs σ) K' = some r) {d b : Nat} {os : Array Value} {ty : TypeId} {kd : Option Nat} (hd : o.dst = some d)
    (hl : Lays0 E o a os ty kd) (htmp : a.tmps[d]? = some (mkV kd b)) (hblk : w.heap[b]? = some (.cells os ty (0, 0))) (hlow : C.w.heap.size ≤ b) (hrow : ∀ (r : Nat) row L, σ[r]? = some (some row) → μ r = some L → L.block ≠ b)
    (hown : ∀ (i : Nat) x, t[i]? = some x → x.own = true → β i ≠ b) :
    ∃ t' σ' μ' β', St C μ' β' t' σ' a w ∧ K t' σ' = some r ∧ Le μ μ' ∧ (∀ (q : Nat) row L, σ'[q]? = some (some row) → μ' q = some L → (σ[q]? = some (some row) ∧ μ q = some L) ∨ L.block = b) ∧
      (∀ (q : Nat) row, σ[q]? = some (some row) → σ'[q]? = some (some row)) ∧
      (∀ (i : Nat) x, t'[i]? = some x → x.own = true → (β' i = β i ∧ ∃ x, t[i]? = some x ∧ x.own = true) ∨ β' i = b) ∧
      (∀ (i : Nat) x, i ≠ d → t[i]? = some x → x.own = true → β' i = β i ∧ ∃ x', t'[i]? = some x' ∧ x'.own = true) := by
  subst hK'
  obtain ⟨xs, os', ty', kd', d', hd', hrc, hl', hK⟩ := alloc_parts (st.prot rs) hal h
  rw [hd] at hd'
  injection hd' with hd'
  subst hd'
  have heq : os = os' ∧ ty = ty' ∧ kd = kd' := by
    have h1 := hl w
    rw [hl' w] at h1
    injection h1 with h1 h2
    injection h1 with h1
    have h3 := mkV_inj h1
    have h4 : (w.heap.push (.cells os' ty')) = (w.heap.push (.cells os ty)) := congrArg World.heap h2
    have h5 := congrArg (fun h : Array Obj => h[w.heap.size]?) h4
    simp at h5
    exact ⟨h5.1.symm, h5.2.symm, h3.symm⟩
  obtain ⟨rfl, rfl, rfl⟩ := heq
  have hsz : os.size = xs.length := by have := hrc.1; simp at this; omega
  have hat : At w b 0 os.size μ xs true (ty + 1) := ⟨os, ty, (0, 0), hblk, rfl, by omega, fun i x hx => by rw [Nat.zero_add]; simpa using hrc.cell i x hx, fun _ => rfl, fun _ => rfl⟩
  rcases hK with hK | ⟨esz, tw, x, htw, hxt, hK, hrel⟩
  · simp only [unprot_prot, hd] at hK
    have hox : (ownOf kd xs).own = true := by cases kd <;> rfl
    have st' := st.addOwn d (ownOf kd xs) (mkV kd b) b htmp hlow hrow hown hox (fun β' hb => by
      rw [hsz] at hat
      cases kd with
      | none => exact ⟨by rw [hb]; rfl, by rw [hb]; exact hat.any⟩
      | some n => exact ⟨by rw [hb]; rfl, by rw [hb]; exact hat.any⟩)
    refine ⟨_, σ, μ, _, st', hK, Le.refl _, fun q row L h1 h2 => .inl ⟨h1, h2⟩, fun q row h => h, fun i x hx ho => ?_, fun i x hne hx ho => ?_⟩
    · by_cases hid : i = d
      · exact .inr (by simp only [if_pos hid])
      · refine .inl ⟨by simp only [if_neg hid], ?_⟩
        rw [List.getElem?_set, if_neg (Ne.symm hid)] at hx
        obtain ⟨u, hu, h1⟩ := killRefs_get hx
        rcases h1 with rfl | ⟨rfl, _⟩
        · cases ho
        · exact ⟨x, hu, ho⟩
    · refine ⟨by simp only [if_neg hne], x, ?_, ho⟩
      rw [List.getElem?_set, if_neg (Ne.symm hne), killRefs, List.getElem?_map, hx, Option.map_some]
      cases x <;> first | rfl | cases ho
  · simp only [show hnewT (prot rs σ) tw esz xs = prot rs σ ++ [some ⟨xs, esz, false, tw⟩] from rfl, unprot_app, hd] at hK
    rw [prot_length] at hrel
    have hat' : At w b 0 os.size μ xs true tw := by
      rcases htw with rfl | rfl
      · exact hat.any
      · exact hat
    have st1 := (st.addRow tw esz os.size xs b hlow hrow hown hat').put (some d) (.v x) (mkV kd b) rfl (hrel b)
    rw [put_same htmp] at st1
    refine ⟨_, _, _, β, st1, hK, le_upd (st.base.sim.fresh _ (Nat.le_refl _)), fun q row L h1 h2 => ?_, fun q row h => ?_, fun i x hx ho => .inl ⟨rfl, ?_⟩, fun i x hne hx ho => ⟨rfl, x, ?_, ho⟩⟩
    · rcases hnewT_old h1 with ⟨h1, l1⟩ | ⟨rfl, rfl⟩
      · unfold upd at h2
        rw [if_neg (by omega)] at h2
        exact .inl ⟨h1, h2⟩
      · unfold upd at h2
        rw [if_pos rfl] at h2
        injection h2 with h2
        exact .inr (by rw [← h2])
    · rw [hnewT, List.getElem?_append_left (List.getElem?_eq_some_iff.1 h).1]
      exact h
    · simp only [putT, List.getElem?_set] at hx
      split at hx
      · split at hx
        · injection hx with hx
          rw [← hx] at ho
          cases ho
        · cases hx
      · exact ⟨x, hx, ho⟩
    · simp only [putT, List.getElem?_set, if_neg (Ne.symm hne)]
      exact hx
end
/-! What is listed. -/
def lm (D : List Nat) (l : Array Bool) : Array Bool := l.mapIdx fun k x => x || D.contains k
theorem lm_get (D : List Nat) (l : Array Bool) (k : Nat) : (lm D l)[k]? = l[k]?.map fun x => x || D.contains k := by
  rw [lm, Array.getElem?_mapIdx]
theorem lm_un {D : List Nat} {l : Array Bool} {k : Nat} : (lm D l).getD k true = false ↔ l.getD k true = false ∧ k ∉ D := by
  rw [Array.getD_eq_getD_getElem?, Array.getD_eq_getD_getElem?, lm_get]
  cases h : l[k]? with
  | none => simp
  | some x => simp
theorem lm_up {D : List Nat} {l : Array Bool} {k : Nat} (h : l.getD k false = true) : (lm D l).getD k false = true := by
  rw [Array.getD_eq_getD_getElem?] at h ⊢
  rw [lm_get]
  cases hk : l[k]? with
  | none => rw [hk] at h; simp at h
  | some x => rw [hk] at h; simp at h; simp [h]
theorem lm_more {D A : List Nat} {l : Array Bool} {k : Nat} (hD : ∀ i ∈ D, i ∈ A) (h : (lm D l).getD k false = true) : (lm A l).getD k false = true := by
  rw [Array.getD_eq_getD_getElem?, lm_get] at h ⊢
  cases hk : l[k]? with
  | none => rw [hk] at h; simp at h
  | some x =>
    rw [hk] at h
    simp at h ⊢
    exact h.imp id (hD k)
theorem lm_set (D : List Nat) (l : Array Bool) (i : Nat) : lm D (l.setIfInBounds i true) = (lm D l).setIfInBounds i true := by
  apply Array.ext_getElem?
  intro k
  rw [lm_get, Array.getElem?_setIfInBounds, Array.getElem?_setIfInBounds, lm_get]
  have hs : (lm D l).size = l.size := by simp [lm]
  rw [hs]
  split
  · split <;> simp
  · rfl
theorem lm_cons (i : Nat) (D : List Nat) (l : Array Bool) : lm (i :: D) l = (lm D l).setIfInBounds i true := by
  apply Array.ext_getElem?
  intro k
  rw [lm_get, Array.getElem?_setIfInBounds, lm_get]
  have hs : (lm D l).size = l.size := by simp [lm]
  rw [hs]
  split
  · rename_i h
    subst h
    split
    · rename_i h
      simp [h]
    · rename_i h
      simp [Array.getElem?_eq_none (by omega : l.size ≤ i)]
  · rename_i h
    have e : ¬ k = i := fun hc => h hc.symm
    simp [e]
theorem lm_nil (l : Array Bool) : lm [] l = l := by
  apply Array.ext_getElem?
  intro k
  rw [lm_get]
  simp
theorem lm_drop {i : Nat} {D D' : List Nat} (l : Array Bool) (hi : i ∈ D) (hD : ∀ k, k ∈ D' ↔ k ∈ D ∧ k ≠ i) : lm D' (l.setIfInBounds i true) = lm D l := by
  apply Array.ext_getElem?
  intro k
  rw [lm_get, lm_get, Array.getElem?_setIfInBounds]
  split
  · rename_i h
    subst h
    split
    · rename_i h
      simp [h, hi]
    · rename_i h
      simp [Array.getElem?_eq_none (by omega : l.size ≤ i)]
  · rename_i h
    have : D'.contains k = D.contains k := by
      rw [Bool.eq_iff_iff]
      simp [hD k]
      exact fun _ hc => h hc.symm
    rw [this]
theorem listAll_lm : ∀ (A : List Nat) (l : Array Bool), listAll l A = lm A l
  | [], l => (lm_nil l).symm
  | i :: A, l => by
    show listAll (l.setIfInBounds i true) A = _
    rw [listAll_lm A, lm_set, lm_cons]
theorem ready_lm {ops : Array Oper} {D : List Nat} {l : Array Bool} {k : Nat} (h : k ∈ Region.ready .any ops l) (hk : k ∉ D) : k ∈ Region.ready .any ops (lm D l) := by
  rw [mem_ready] at h ⊢
  obtain ⟨h1, o, h2, h3⟩ := h
  exact ⟨lm_un.2 ⟨h1, hk⟩, o, h2, fun e he hb => lm_up (h3 e he hb)⟩
theorem ready_all {ops : Array Oper} {D A : List Nat} {l : Array Bool} {k : Nat} (h : k ∈ Region.ready .any ops (lm D l)) (hD : ∀ i ∈ D, i ∈ A) (hk : k ∉ A) : k ∈ Region.ready .any ops (lm A l) := by
  rw [mem_ready] at h ⊢
  obtain ⟨h1, o, h2, h3⟩ := h
  exact ⟨lm_un.2 ⟨(lm_un.1 h1).1, hk⟩, o, h2, fun e he hb => lm_more hD (h3 e he hb)⟩
def cnt (l : Array Bool) : Nat := l.toList.count false
theorem cnt_set {l : Array Bool} {i : Nat} (h : l.getD i true = false) : cnt (l.setIfInBounds i true) + 1 = cnt l := by
  have hi : i < l.size := by
    rcases Nat.lt_or_ge i l.size with h1 | h1
    · exact h1
    · rw [Array.getD_eq_getD_getElem?, Array.getElem?_eq_none h1] at h
      cases h
  have hv : l.toList[i]'(by simpa using hi) = false := by
    rw [Array.getD_eq_getD_getElem?, Array.getElem?_eq_getElem hi] at h
    simpa using h
  have h2 := List.count_set (a := true) (b := false) (l := l.toList) (i := i) (by simpa using hi)
  rw [hv] at h2
  have : 0 < l.toList.count false := List.count_pos_iff.2 (hv ▸ List.getElem_mem _)
  have h3 : (l.toList.set i true).count false = l.toList.count false - 1 := by rw [h2]; rfl
  unfold cnt
  rw [Array.toList_setIfInBounds, h3]
  omega
theorem ready_nodup (ops : Array Oper) (l : Array Bool) : (Region.ready .any ops l).Nodup := by
  unfold Region.ready
  exact List.Pairwise.filter _ List.nodup_range
theorem alone_spec {f : Nat → Bool} {r : Nat} {rs : List Nat} (hn : (r :: rs).Nodup) {j : Nat} {A : List Nat} (h : alone f r rs = some (j, A)) :
    j ∈ r :: rs ∧ (∀ i ∈ A, i ∈ r :: rs ∧ f i = true ∧ i ≠ j) ∧ ∀ i ∈ r :: rs, i ≠ j → i ∈ A := by
  unfold alone at h
  split at h
  · rename_i he
    injection h with h
    injection h with h1 h2
    subst h1 h2
    have hall : ∀ i ∈ r :: rs, f i = true := fun i hi => by
      cases hf : f i with
      | true => rfl
      | false =>
        have : i ∈ (r :: rs).filter (fun i => !f i) := List.mem_filter.2 ⟨hi, by simp [hf]⟩
        rw [he] at this
        cases this
    refine ⟨List.mem_cons_self .., fun i hi => ⟨List.mem_cons_of_mem _ hi, hall i (List.mem_cons_of_mem _ hi), fun hc => ?_⟩, fun i hi hne => (List.mem_cons.1 hi).resolve_left hne⟩
    subst hc
    exact (List.nodup_cons.1 hn).1 hi
  · rename_i k he
    injection h with h
    injection h with h1 h2
    subst h1 h2
    have hk : k ∈ (r :: rs).filter (fun i => !f i) := by rw [he]; exact List.mem_cons_self ..
    obtain ⟨k1, k2⟩ := List.mem_filter.1 hk
    refine ⟨k1, fun i hi => ?_, fun i hi hne => ?_⟩
    · obtain ⟨h1, h2⟩ := List.mem_filter.1 hi
      refine ⟨h1, h2, fun hc => ?_⟩
      subst hc
      simp [h2] at k2
    · refine List.mem_filter.2 ⟨hi, ?_⟩
      cases hf : f i with
      | true => rfl
      | false =>
        have : i ∈ (r :: rs).filter (fun i => !f i) := List.mem_filter.2 ⟨hi, by simp [hf]⟩
        rw [he] at this
        exact absurd (List.mem_singleton.1 this) hne
  · cases h
theorem maskT_length (ops : Array Oper) : ∀ (A : List Nat) (t : List T), (maskT ops A t).length = t.length
  | [], _ => rfl
  | i :: A, t => by
    rw [maskT, maskT_length ops A]
    split
    · simp [killRefs]
    · rfl
theorem maskT_get {ops : Array Oper} : ∀ (A : List Nat) {t : List T} {i : Nat} {x : T}, (maskT ops A t)[i]? = some x → x = .bot ∨ t[i]? = some x
  | [], _, _, _, h => .inr h
  | k :: A, t, i, x, h => by
    rw [maskT] at h
    rcases maskT_get A h with h1 | h1
    · exact .inl h1
    · split at h1
      · rw [List.getElem?_set] at h1
        split at h1
        · split at h1
          · injection h1 with h1
            exact .inl h1.symm
          · cases h1
        · obtain ⟨z, hz, h2⟩ := killRefs_get h1
          rcases h2 with h2 | ⟨rfl, _⟩
          · exact .inl h2
          · exact .inr hz
      · exact .inr h1
theorem maskT_bot' {ops : Array Oper} : ∀ (A : List Nat) {t : List T} {i : Nat}, t[i]? = some .bot → (maskT ops A t)[i]? = some .bot
  | [], _, _, h => h
  | k :: A, t, i, h => by
    rw [maskT]
    apply maskT_bot' A
    split
    · rename_i d hd
      have hk : (killRefs d t)[i]? = some .bot := by rw [killRefs, List.getElem?_map, h]; rfl
      rw [List.getElem?_set]
      split
      · rename_i hdi
        have hlt := (List.getElem?_eq_some_iff.1 hk).1
        rw [← hdi] at hlt
        rw [if_pos hlt]
      · exact hk
    · exact h
theorem maskT_bot {ops : Array Oper} : ∀ (A : List Nat) {t : List T} {i d : Nat} {o : Oper}, i ∈ A → ops[i]? = some o → o.dst = some d → d < t.length → (maskT ops A t)[d]? = some .bot
  | [], _, _, _, _, hi, _, _, _ => by cases hi
  | k :: A, t, i, d, o, hi, ho, hd, hl => by
    rw [maskT]
    rcases List.mem_cons.1 hi with rfl | hi
    · apply maskT_bot' A
      have : (ops[i]?).bind (fun o => o.dst) = some d := by rw [ho]; exact hd
      rw [this]
      show ((killRefs d t).set d .bot)[d]? = _
      rw [List.getElem?_set, if_pos rfl, if_pos (by simpa [killRefs] using hl)]
    · refine maskT_bot A hi ho hd ?_
      split
      · simpa [killRefs] using hl
      · exact hl
theorem maskT_own {ops : Array Oper} : ∀ (A : List Nat) {t : List T} {i : Nat} {x : T}, (∀ k ∈ A, ∀ o, ops[k]? = some o → o.dst ≠ some i) → t[i]? = some x → x.own = true → (maskT ops A t)[i]? = some x
  | [], _, _, _, _, h, _ => h
  | k :: A, t, i, x, hA, h, ho => by
    rw [maskT]
    refine maskT_own A (fun k hk => hA k (List.mem_cons_of_mem _ hk)) ?_ ho
    split
    · rename_i d hd
      obtain ⟨o, h1, h2⟩ := Option.bind_eq_some_iff.1 hd
      have hne : d ≠ i := fun he => hA k (List.mem_cons_self ..) o h1 (by rw [h2, he])
      rw [List.getElem?_set, if_neg hne, killRefs, List.getElem?_map, h, Option.map_some]
      cases x <;> first | rfl | cases ho
    · exact h

/-- What lies where a load reads. -/
def Where (t : List T) (β : Nat → Nat) (σ : Heap) (μ : Mu) : Pend → Nat → Prop
  | .loc d, b => ∃ x, t[d]? = some x ∧ x.own = true ∧ β d = b
  | .row r, b => ∃ row L, σ[r]? = some (some row) ∧ μ r = some L ∧ L.block = b
def PRels (t : List T) (β : Nat → Nat) (σ : Heap) (μ : Mu) (ps : List (Nat × Pend)) (qs : List (Nat × (World → Prop))) : Prop :=
  ∀ q ∈ qs, ∃ p ∈ ps, p.1 = q.1 ∧ ∃ b ob, Where t β σ μ p.2 b ∧ q.2 = fun w' => w'.heap[b]? = ob
theorem PRels.filter {t : List T} {β : Nat → Nat} {σ : Heap} {μ : Mu} (f : Nat → Bool) {ps : List (Nat × Pend)} {qs : List (Nat × (World → Prop))} (h : PRels t β σ μ ps qs) : PRels t β σ μ (ps.filter fun p => f p.1) (qs.filter fun p => f p.1) := fun q hq => by
  obtain ⟨h1, h2⟩ := List.mem_filter.1 hq
  obtain ⟨p, hp, he, hw⟩ := h q h1
  exact ⟨p, List.mem_filter.2 ⟨hp, by rw [he]; exact h2⟩, he, hw⟩
theorem PRels.sub {t : List T} {β : Nat → Nat} {σ : Heap} {μ : Mu} {ps : List (Nat × Pend)} {qs qs' : List (Nat × (World → Prop))} (h : PRels t β σ μ ps qs) (hq : ∀ q ∈ qs', q ∈ qs) : PRels t β σ μ ps qs' := fun q hq' => h q (hq q hq')
theorem PRels.step {t t' : List T} {β β' : Nat → Nat} {σ σ' : Heap} {μ μ' : Mu} {ps : List (Nat × Pend)} {qs : List (Nat × (World → Prop))} (hw : ∀ p ∈ ps, ∀ b, Where t β σ μ p.2 b → Where t' β' σ' μ' p.2 b) (h : PRels t β σ μ ps qs) : PRels t' β' σ' μ' ps qs := fun q hq => by
  obtain ⟨p, hp, he, b, ob, h1, h2⟩ := h q hq
  exact ⟨p, hp, he, b, ob, hw p hp b h1, h2⟩
theorem PRels.all {t : List T} {β : Nat → Nat} {σ : Heap} {μ : Mu} {w w' : World} {ps : List (Nat × Pend)} {qs : List (Nat × (World → Prop))} (h : PRels t β σ μ ps qs) (hw : ∀ p ∈ ps, ∀ b, Where t β σ μ p.2 b → w'.heap[b]? = w.heap[b]?) (hq : ∀ q ∈ qs, q.2 w) : ∀ q ∈ qs, q.2 w' := fun q hq' => by
  obtain ⟨p, hp, he, b, ob, h1, h2⟩ := h q hq'
  have := hq q hq'
  rw [h2] at this ⊢
  simp only at this ⊢
  rw [hw p hp b h1]
  exact this
theorem pendTouch_loc {o : Oper} {t : List T} : ∀ {ps : List (Nat × Pend)}, pendTouch o t ps = false → ∀ {i d : Nat}, (i, Pend.loc d) ∈ ps → touch o t d = false
  | [], _, _, _, h => by simp at h
  | (j, .loc e) :: ps, h, i, d, hm => by
    simp only [pendTouch, Bool.or_eq_false_iff] at h
    rcases List.mem_cons.1 hm with he | hm
    · injection he with h1 h2
      injection h2 with h2
      rw [h2]; exact h.1
    · exact pendTouch_loc h.2 hm
  | (j, .row e) :: ps, h, i, d, hm => by
    simp only [pendTouch] at h
    rcases List.mem_cons.1 hm with he | hm
    · injection he with h1 h2; cases h2
    · exact pendTouch_loc h hm
theorem pendRows_mem : ∀ {ps : List (Nat × Pend)} {i r : Nat}, (i, Pend.row r) ∈ ps → r ∈ pendRows ps
  | [], _, _, h => by simp at h
  | (j, .loc e) :: ps, i, r, hm => by
    rcases List.mem_cons.1 hm with he | hm
    · injection he with h1 h2; cases h2
    · exact pendRows_mem (ps := ps) hm
  | (j, .row e) :: ps, i, r, hm => by
    rcases List.mem_cons.1 hm with he | hm
    · injection he with h1 h2
      injection h2 with h2
      rw [h2]; exact List.mem_cons_self ..
    · exact List.mem_cons_of_mem _ (pendRows_mem hm)
/-- What is put elsewhere leaves the places. -/
theorem PRels.put {t : List T} {β : Nat → Nat} {σ : Heap} {μ : Mu} {o : Oper} {x : T} {ps : List (Nat × Pend)} {qs : List (Nat × (World → Prop))} (h : PRels t β σ μ ps qs) (ht : pendTouch o t ps = false) : PRels (putT o.dst x t) β σ μ ps qs := by
  refine h.step (fun p hp b hw => ?_)
  obtain ⟨i, p⟩ := p
  cases p with
  | row r => exact hw
  | loc d =>
    obtain ⟨z, h1, h2, h3⟩ := hw
    obtain ⟨z', h4, h5⟩ := put_own (x := x) h1 h2 (pendTouch_loc ht hp)
    exact ⟨z', h4, h5, h3⟩

/-- What an operation makes of the temporaries. -/
theorem oper_act {P : Program} {o : Oper} {a : Act} {w : World} {next : Act → World → Prop} {Q : Exit → Act → World → Prop} (h : o.wp P a w next Q) :
    o.wp P a w (fun a' w' => next a' w' ∧ ∃ (a'' : Act) (u : Value), a' = a''.put o.dst u ∧ a''.eval = a.eval ∧ a''.tmps = a.tmps) Q := by
  unfold Oper.wp at *
  generalize (execOp a.eval o).run P w = r at *
  cases r with
  | ok n w' =>
    cases n <;> simp only [Oper.upon] at h ⊢
    case value u => exact ⟨h, a, u, rfl, rfl, rfl⟩
    case skip => exact ⟨h, a, _, rfl, rfl, rfl⟩
    case defer d => exact ⟨h, _, _, rfl, rfl, rfl⟩
    case enter f args =>
      refine Calls.mono h fun e w'' he => ?_
      cases e with
      | returned u => exact ⟨he, a, u, rfl, rfl, rfl⟩
      | panicked c => exact he
      | outgrown => exact he
    case row row args => exact Rows.mono h fun u w'' he => ⟨he, a, u, rfl, rfl, rfl⟩
  | halt x w' =>
    cases x <;> simp only [Oper.upon] at h ⊢
    case panic u => exact h

/-- An operation that has laid its block before the small machine tells of it. -/
structure Ent where
  i : Nat
  o : Oper
  d : Nat
  b : Nat
  os : Array Value
  ty : TypeId
  kd : Option Nat
structure Early (E : Env) (ops : Array Oper) (C : Ctx) (listed : Array Bool) (Ps : List (Nat × (World → Prop))) (t : List T) (β : Nat → Nat) (σ : Heap) (μ : Mu) (a : Act) (w : World) (e : Ent) : Prop where
  op : ops[e.i]? = some e.o
  al : isAlloc e.o = true
  rdy : e.i ∈ Region.ready .any ops listed
  dst : e.o.dst = some e.d
  fr : ∀ j oj, ops[j]? = some oj → j ≠ e.i → listed.getD j true = false → (∀ x ∈ oj.after, Region.binds .any x = true → x.on ≠ e.i) → e.o.apart ops oj = true
  lays : Lays0 E e.o a e.os e.ty e.kd
  tmp : a.tmps[e.d]? = some (mkV e.kd e.b)
  blk : w.heap[e.b]? = some (.cells e.os e.ty (0, 0))
  low : C.w.heap.size ≤ e.b
  row : ∀ (r : Nat) row L, σ[r]? = some (some row) → μ r = some L → L.block ≠ e.b
  own : ∀ (i : Nat) x, t[i]? = some x → x.own = true → β i ≠ e.b
  pend : ∀ q ∈ Ps, dep ops e.i q.1 = false
theorem waits_not {ops : Array Oper} {l : Array Bool} {i j : Nat} {oj : Oper} (hj : j ∈ Region.ready .any ops l) (ho : ops[j]? = some oj) (hi : l.getD i true = false) : ∀ x ∈ oj.after, Region.binds .any x = true → x.on ≠ i := fun x hx hb heq => by
  obtain ⟨_, o, h1, h2⟩ := mem_ready.1 hj
  rw [ho] at h1
  injection h1 with h1
  subst h1
  have h3 := h2 x hx hb
  rw [heq] at h3
  rw [Array.getD_eq_getD_getElem?] at h3 hi
  cases hk : l[i]? with
  | none => rw [hk] at h3; simp at h3
  | some v => rw [hk] at h3 hi; simp at h3 hi; rw [h3] at hi; cases hi
theorem dep_not {ops : Array Oper} {l : Array Bool} {i j : Nat} (hj : j ∈ Region.ready .any ops l) (hi : l.getD i true = false) : dep ops j i = false := by
  obtain ⟨_, oj, ho, _⟩ := mem_ready.1 hj
  have hnot := waits_not hj ho hi
  unfold dep
  rw [ho]
  simp only [Array.any_eq_false']
  intro x hx
  have := hnot x hx
  cases hb : Region.binds .any x with
  | false => simp
  | true => simpa using this hb
section
variable {E : Env} {ops : Array Oper} {C : Ctx} {listed : Array Bool} {Ps : List (Nat × (World → Prop))} {t : List T} {β : Nat → Nat} {σ : Heap} {μ : Mu} {a : Act} {w : World} {e : Ent}
theorem Early.apart (h : Early E ops C listed Ps t β σ μ a w e) {j : Nat} {oj : Oper} (hj : j ∈ Region.ready .any ops listed) (ho : ops[j]? = some oj) (hne : j ≠ e.i) : e.o.apart ops oj = true :=
  h.fr j oj ho hne (mem_ready.1 hj).1 (waits_not hj ho (mem_ready.1 h.rdy).1)
theorem Early.keep (h : Early E ops C listed Ps t β σ μ a w e) {listed' : Array Bool} {Ps' : List (Nat × (World → Prop))} {t' : List T} {β' : Nat → Nat} {σ' : Heap} {μ' : Mu} {a' : Act} {w' : World}
    (hl : ∀ j, listed'.getD j true = false → listed.getD j true = false) (hr : e.i ∈ Region.ready .any ops listed') (hlays : Lays0 E e.o a' e.os e.ty e.kd) (htmp : a'.tmps[e.d]? = a.tmps[e.d]?) (hblk : w'.heap[e.b]? = w.heap[e.b]?)
    (hrow : ∀ (r : Nat) row L, σ'[r]? = some (some row) → μ' r = some L → L.block ≠ e.b) (hown : ∀ (i : Nat) x, t'[i]? = some x → x.own = true → β' i ≠ e.b) (hpend : ∀ q ∈ Ps', dep ops e.i q.1 = false) : Early E ops C listed' Ps' t' β' σ' μ' a' w' e where
  op := h.op
  al := h.al
  rdy := hr
  dst := h.dst
  fr := fun j oj ho hne hun hno => h.fr j oj ho hne (hl j hun) hno
  lays := hlays
  tmp := htmp.trans h.tmp
  blk := hblk.trans h.blk
  low := h.low
  row := hrow
  own := hown
  pend := hpend
/-- Another operation's value leaves what is to be laid. -/
theorem Early.act (hsel : ∀ (j : Nat) (o : Oper) cs b, ops[j]? = some o → o.op ≠ .select cs b) (h : Early E ops C listed Ps t β σ μ a w e) {oj : Oper} (hap : e.o.apart ops oj = true) {a' a'' : Act} {u : Value} (ha : a' = a''.put oj.dst u) (hev : a''.eval = a.eval) (htm : a''.tmps = a.tmps) :
    Lays0 E e.o a' e.os e.ty e.kd ∧ a'.tmps[e.d]? = a.tmps[e.d]? := by
  obtain ⟨h1, h2, h3⟩ := Oper.apart_spec hap
  subst ha
  constructor
  · intro w'
    rw [execOp_put e.o (fun cs b => hsel e.i e.o cs b h.op) a'' oj.dst u h3, hev]
    exact h.lays w'
  · cases hd : oj.dst with
    | none => simp only [Act.put, htm]
    | some d =>
      have hne : d ≠ e.d := fun he => h2 e.d h.dst (by rw [hd, he])
      simp only [Act.put, htm]
      rw [Array.getElem?_setIfInBounds_ne hne]
end
theorem isAlloc_noPR {P : Program} {o : Oper} (h : isAlloc o = true) : isPR P o = false := by
  unfold isAlloc at h
  simp only [Bool.and_eq_true] at h
  have h3 := h.2
  unfold isPR
  split at h3 <;> first | (rename_i ho; rw [ho]) | cases h3
theorem isAlloc_guard {o : Oper} (h : isAlloc o = true) : o.guard = none := by
  unfold isAlloc at h
  simp only [Bool.and_eq_true, Option.isNone_iff_eq_none] at h
  exact h.1.1
def ids (D : List Ent) : List Nat := D.map (·.i)
structure Inv (E : Env) (ops : Array Oper) (C : Ctx) (listed : Array Bool) (Ps : List (Nat × (World → Prop))) (t : List T) (β : Nat → Nat) (σ : Heap) (μ : Mu) (a : Act) (w : World) (D : List Ent) : Prop where
  each : ∀ e ∈ D, Early E ops C listed Ps t β σ μ a w e
  apart : ∀ e ∈ D, ∀ f ∈ D, e.i ≠ f.i → e.b ≠ f.b
end Go.HM
