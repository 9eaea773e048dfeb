/- Regions whose order is drawn: the small machine's order is as good as any. -/
import Derived.Test.YtghkdjfgbaoplaaHMDraw
set_option linter.unusedSimpArgs false
set_option linter.unusedVariables false
namespace Go.HM

theorem toRo_get {σ : Heap} {r k : Nat} {row' : Row} (h : (toRo σ r)[k]? = some (some row')) :
    (k = r ∧ ∃ row, σ[r]? = some (some row) ∧ row' = ⟨row.cells, row.esz, true, row.ty⟩) ∨ (k ≠ r ∧ σ[k]? = some (some row')) := by
  unfold toRo at h
  split at h
  · rename_i row hr
    rw [List.getElem?_set] at h
    split at h
    · split at h
      · injection h with h
        injection h with h
        exact .inl ⟨by omega, row, hr, h.symm⟩
      · cases h
    · exact .inr ⟨by omega, h⟩
  · rename_i hno
    refine .inr ⟨?_, h⟩
    intro he
    subst he
    exact hno row' h

theorem toRo_live {σ : Heap} {r : Nat} {row : Row} (h : σ[r]? = some (some row)) : (toRo σ r)[r]? = some (some ⟨row.cells, row.esz, true, row.ty⟩) := by
  unfold toRo
  rw [h]
  simp only [List.getElem?_set, if_true]
  rw [if_pos (List.getElem?_eq_some_iff.1 h).1]

theorem toRo_other {σ : Heap} {r k : Nat} (h : k ≠ r) : (toRo σ r)[k]? = σ[k]? := by
  unfold toRo
  split
  · rw [List.getElem?_set, if_neg (Ne.symm h)]
  · rfl

theorem toRo_length (σ : Heap) (r : Nat) : (toRo σ r).length = σ.length := by
  unfold toRo
  split <;> simp

/-- A row under protection is the row, but for the leave to write. -/
theorem prot_get : ∀ {rs : List Nat} {σ : Heap} {k : Nat} {row' : Row}, (prot rs σ)[k]? = some (some row') →
    ∃ row, σ[k]? = some (some row) ∧ row'.cells = row.cells ∧ (row'.esz = row.esz ∧ row'.ty = row.ty) ∧ (row'.ro = false → row.ro = false ∧ k ∉ rs)
  | [], σ, k, row', h => ⟨row', h, rfl, ⟨rfl, rfl⟩, fun h => ⟨h, by simp⟩⟩
  | r :: rs, σ, k, row', h => by
    rcases toRo_get h with ⟨rfl, row, hr, rfl⟩ | ⟨hne, h⟩
    · obtain ⟨row0, h1, h2, h3, h4⟩ := prot_get hr
      exact ⟨row0, h1, h2, h3, fun h => by cases h⟩
    · obtain ⟨row0, h1, h2, h3, h4⟩ := prot_get h
      exact ⟨row0, h1, h2, h3, fun h => ⟨(h4 h).1, by simp [hne, (h4 h).2]⟩⟩

theorem prot_live : ∀ {rs : List Nat} {σ : Heap} {k : Nat} {row : Row}, σ[k]? = some (some row) → ∃ row', (prot rs σ)[k]? = some (some row') ∧ (k ∈ rs → row'.ro = true)
  | [], σ, k, row, h => ⟨row, h, fun h => by simp at h⟩
  | r :: rs, σ, k, row, h => by
    obtain ⟨row', h1, h2⟩ := prot_live (rs := rs) h
    by_cases hk : k = r
    · subst hk
      exact ⟨_, toRo_live h1, fun _ => rfl⟩
    · exact ⟨row', by rw [prot, toRo_other hk]; exact h1, fun hm => h2 (by simpa [hk] using hm)⟩

theorem prot_length : ∀ (rs : List Nat) (σ : Heap), (prot rs σ).length = σ.length
  | [], _ => rfl
  | r :: rs, σ => by rw [prot, toRo_length, prot_length rs σ]

theorem At.plain {w : World} {b base size : Nat} {μ : Mu} {cells : List V} {p : Bool} {ty : Nat} (h : At w b base size μ cells p ty) : At w b base size μ cells false ty := by
  obtain ⟨cs, t, fz, h1, h2, h3, h4, h5⟩ := h
  exact ⟨cs, t, fz, h1, h2, h3, h4, (fun h => by cases h), h5.2⟩

theorem St.prot {C : Ctx} {μ : Mu} {β : Nat → Nat} {t : List T} {σ : Heap} {a : Act} {w : World} (h : St C μ β t σ a w) (rs : List Nat) : St C μ β t (prot rs σ) a w := by
  refine ⟨⟨⟨fun r hr => h.base.sim.fresh r (by rw [prot_length] at hr; exact hr), fun r row' hr => ?_, fun r r' row1 row2 L L' h1 h2 h3 h4 h5 h6 => ?_, h.base.sim.glob⟩, h.base.keep, h.base.le, fun r row' L hr hL => ?_⟩, h.size, h.tmps, fun i x hx ho => ⟨(h.mine i x hx ho).1, fun r row' L hr hL => ?_⟩, h.apart, h.defers, h.len⟩
  · obtain ⟨row, h1, h2, h3, h4⟩ := prot_get hr
    obtain ⟨L, k1, k2, k3, k4⟩ := h.base.sim.live r row h1
    refine ⟨L, k1, by rw [h3.1]; exact k2, ?_, fun hro => k4 (h4 hro).1⟩
    rw [h2, h3.2]
    cases hro : row'.ro with
    | true => exact k3.plain
    | false => rw [(h4 hro).1] at k3; exact k3
  · obtain ⟨row10, k1, _, _, k2⟩ := prot_get h1
    obtain ⟨row20, k3, _, _, _⟩ := prot_get h2
    exact h.base.sim.apart r r' row10 row20 L L' k1 k3 (k2 h3).1 h4 h5 h6
  · obtain ⟨row, h1, h2, h3, h4⟩ := prot_get hr
    rcases h.base.okb r row L h1 hL with ⟨row0, k1, k2, k3⟩ | k
    · exact .inl ⟨row0, k1, k2, fun hro => k3 (h4 hro).1⟩
    · exact .inr k
  · obtain ⟨row, h1, _⟩ := prot_get hr
    exact (h.mine i x hx ho).2 r row L h1 hL

/-- What was protected is as it was. -/
theorem St.unprot {C : Ctx} {μ μ' : Mu} {β β' : Nat → Nat} {t t' : List T} {σ σ' : Heap} {a a' : Act} {w w' : World} {ex : Nat → Bool} {ps : List Nat} (h : St C μ β t σ a w) (h' : St C μ' β' t' σ' a' w')
    (s : Step w (HM.prot ps σ) μ t β ex w' σ' μ' t' β') : ∀ (rs : List Nat), (∀ r ∈ rs, r ∈ ps) →
    St C μ' β' t' (unprot rs σ σ') a' w' ∧ (∀ (r : Nat) row L, (unprot rs σ σ')[r]? = some (some row) → μ' r = some L → (σ[r]? = some (some row) ∧ μ r = some L) ∨ (⟨w, HM.prot ps σ, μ, 0⟩ : Ctx).okr r row L) ∧ (unprot rs σ σ').length = σ'.length
  | [], _ => ⟨h', fun r row L hr hL => .inr (s.desc r row L hr hL), rfl⟩
  | r :: rs, hsub => by
    obtain ⟨ih, ihd, ihl⟩ := St.unprot h h' s rs (fun q hq => hsub q (List.mem_cons_of_mem _ hq))
    show St C μ' β' t' (back σ (HM.unprot rs σ σ') r) a' w' ∧ (∀ (k : Nat) row L, (back σ (HM.unprot rs σ σ') r)[k]? = some (some row) → μ' k = some L → _) ∧ (back σ (HM.unprot rs σ σ') r).length = _
    generalize HM.unprot rs σ σ' = τ at ih ihd ihl
    unfold back
    split
    · rename_i row hr
      obtain ⟨L, hL, hesz, hat, hb0⟩ := h.base.sim.live r row hr
      have hL' := s.le r L hL
      obtain ⟨prow, hp, hpro⟩ := prot_live (rs := ps) hr
      have hrps : r ∈ ps := hsub r (List.mem_cons_self ..)
      have hblk := s.ro r prow L hp (hpro hrps) hL
      have hat' : At w' L.block L.base L.size μ' row.cells (!row.ro) row.ty := (hat.mono s.le).keep hblk
      have hlt := hat.lt
      have hget : ∀ (k : Nat) row', (τ.set r (some row))[k]? = some (some row') → (k = r ∧ row' = row) ∨ (k ≠ r ∧ τ[k]? = some (some row')) := by
        intro k row' hk
        rw [List.getElem?_set] at hk
        split at hk
        · split at hk
          · injection hk with hk; injection hk with hk; exact .inl ⟨by omega, hk.symm⟩
          · cases hk
        · exact .inr ⟨by omega, hk⟩
      have hap : ∀ (k : Nat) row' L2, k ≠ r → τ[k]? = some (some row') → μ' k = some L2 → (row.ro = false ∨ row'.ro = false) → L.block ≠ L2.block := by
        intro k row' L2 hne hk hL2 hor
        rcases ihd k row' L2 hk hL2 with ⟨k1, k2⟩ | ⟨row0, k1, k2, k3⟩ | k1 | ⟨r0, row0, L0, k1, k2, k3, k4⟩
        · rcases hor with ho | ho
          · exact h.base.sim.apart r k row row' L L2 hr k1 ho (Ne.symm hne) hL k2
          · exact Ne.symm (h.base.sim.apart k r row' row L2 L k1 hr ho hne k2 hL)
        · obtain ⟨row00, k4, _, _, k5⟩ := prot_get k1
          rcases hor with ho | ho
          · exact h.base.sim.apart r k row row00 L L2 hr k4 ho (Ne.symm hne) hL k2
          · exact Ne.symm (h.base.sim.apart k r row00 row L2 L k4 hr (k5 (k3 ho)).1 hne k2 hL)
        · have : w.heap.size ≤ L2.block := k1
          omega
        · obtain ⟨row00, k5, _, _, k6⟩ := prot_get k1
          have k7 := k6 (k4 rfl)
          have hne0 : r0 ≠ r := fun he => k7.2 (by rw [he]; exact hrps)
          rw [← k3]
          exact Ne.symm (h.base.sim.apart r0 r row00 row L0 L k5 hr k7.1 hne0 k2 hL)
      refine ⟨⟨⟨⟨fun k hk => ih.base.sim.fresh k (by simpa using hk), fun k row' hk => ?_, fun k k' row1 row2 L1 L2 h1 h2 h3 h4 h5 h6 => ?_, ih.base.sim.glob⟩, ih.base.keep, ih.base.le, fun k row' L2 hk hL2 => ?_⟩, ih.size, ih.tmps, fun i x hx ho => ⟨(ih.mine i x hx ho).1, fun k row' L2 hk hL2 => ?_⟩, ih.apart, ih.defers, ih.len⟩, fun k row' L2 hk hL2 => ?_, by simpa using ihl⟩
      · rcases hget k row' hk with ⟨rfl, rfl⟩ | ⟨hne, hk'⟩
        · exact ⟨L, hL', hesz, hat', hb0⟩
        · exact ih.base.sim.live k row' hk'
      · rcases hget k row1 h1 with ⟨rfl, rfl⟩ | ⟨hne, h1'⟩ <;> rcases hget k' row2 h2 with ⟨rfl, rfl⟩ | ⟨hne', h2'⟩
        · exact absurd rfl h4
        · rw [hL'] at h5
          injection h5 with h5
          rw [← h5]
          exact hap k' row2 L2 hne' h2' h6 (.inl h3)
        · rw [hL'] at h6
          injection h6 with h6
          rw [← h6]
          exact Ne.symm (hap k row1 L1 hne h1' h5 (.inr h3))
        · exact ih.base.sim.apart k k' row1 row2 L1 L2 h1' h2' h3 h4 h5 h6
      · rcases hget k row' hk with ⟨rfl, rfl⟩ | ⟨hne, hk'⟩
        · rw [hL'] at hL2
          injection hL2 with hL2
          rw [← hL2]
          exact h.base.okb k row' L hr hL
        · exact ih.base.okb k row' L2 hk' hL2
      · rcases hget k row' hk with ⟨rfl, rfl⟩ | ⟨hne, hk'⟩
        · rw [hL'] at hL2
          injection hL2 with hL2
          rw [← hL2]
          rcases s.fresh i x hx ho with ⟨h1, x0, h2, h3⟩ | h1
          · rw [h1]
            exact (h.mine i x0 h2 h3).2 k row' L hr hL
          · omega
        · exact (ih.mine i x hx ho).2 k row' L2 hk' hL2
      · rcases hget k row' hk with ⟨rfl, rfl⟩ | ⟨hne, hk'⟩
        · rw [hL'] at hL2
          injection hL2 with hL2
          rw [← hL2]
          exact .inl ⟨hr, hL⟩
        · exact ihd k row' L2 hk' hL2
    · exact ⟨ih, ihd, ihl⟩

theorem unprot_live {σ σ' : Heap} : ∀ {rs : List Nat} {r : Nat} {row : Row}, r ∈ rs → σ[r]? = some (some row) → r < σ'.length → (unprot rs σ σ')[r]? = some (some row)
  | [], _, _, h, _, _ => by simp at h
  | q :: rs, r, row, h, hr, hlt => by
    have hlen : ∀ (rs : List Nat), (unprot rs σ σ').length = σ'.length := by
      intro rs
      induction rs with
      | nil => rfl
      | cons q rs ih => show (back σ (unprot rs σ σ') q).length = _; unfold back; split <;> simp [ih]
    show (back σ (unprot rs σ σ') q)[r]? = _
    by_cases hq : r = q
    · subst hq
      unfold back
      rw [hr]
      simp only [List.getElem?_set, if_true]
      rw [if_pos (by rw [hlen]; exact hlt)]
    · have ih := unprot_live (σ' := σ') (by simpa [hq] using h) hr hlt
      unfold back
      split
      · rw [List.getElem?_set, if_neg (Ne.symm hq)]; exact ih
      · exact ih

def Where (t : List T) (β : Nat → Nat) (σ : Heap) (μ : Mu) : Pend → Nat → Prop
  | .loc d, b => ∃ x, t[d]? = some x ∧ x.own = true ∧ β d = b
  | .row r, b => ∃ row L, σ[r]? = some (some row) ∧ μ r = some L ∧ L.block = b

def PRels (t : List T) (β : Nat → Nat) (σ : Heap) (μ : Mu) : List (Nat × Pend) → List (Nat × (World → Prop)) → Prop
  | [], [] => True
  | p :: ps, q :: qs => p.1 = q.1 ∧ (∃ b ob, Where t β σ μ p.2 b ∧ q.2 = fun w' => w'.heap[b]? = ob) ∧ PRels t β σ μ ps qs
  | _, _ => False

theorem PRels.filter {t : List T} {β : Nat → Nat} {σ : Heap} {μ : Mu} (f : Nat → Bool) : ∀ {ps : List (Nat × Pend)} {qs : List (Nat × (World → Prop))}, PRels t β σ μ ps qs → PRels t β σ μ (ps.filter fun p => f p.1) (qs.filter fun p => f p.1)
  | [], [], _ => trivial
  | [], _ :: _, h => h.elim
  | _ :: _, [], h => h.elim
  | p :: ps, q :: qs, ⟨h1, h2, h3⟩ => by
    simp only [List.filter_cons, h1]
    split
    · exact ⟨h1, h2, PRels.filter f h3⟩
    · exact PRels.filter f h3

theorem PRels.step {t t' : List T} {β β' : Nat → Nat} {σ σ' : Heap} {μ μ' : Mu} : ∀ {ps : List (Nat × Pend)} {qs : List (Nat × (World → Prop))}, (∀ p ∈ ps, ∀ b, Where t β σ μ p.2 b → Where t' β' σ' μ' p.2 b) → PRels t β σ μ ps qs → PRels t' β' σ' μ' ps qs
  | [], [], _, _ => trivial
  | [], _ :: _, _, h => h.elim
  | _ :: _, [], _, h => h.elim
  | p :: ps, q :: qs, hw, ⟨h1, ⟨b, ob, h2, h3⟩, h4⟩ => ⟨h1, ⟨b, ob, hw p (List.mem_cons_self ..) b h2, h3⟩, PRels.step (fun p hp => hw p (List.mem_cons_of_mem _ hp)) h4⟩

theorem PRels.all {t : List T} {β : Nat → Nat} {σ : Heap} {μ : Mu} {w w' : World} : ∀ {ps : List (Nat × Pend)} {qs : List (Nat × (World → Prop))}, PRels t β σ μ ps qs → (∀ p ∈ ps, ∀ b, Where t β σ μ p.2 b → w'.heap[b]? = w.heap[b]?) → (∀ q ∈ qs, q.2 w) → ∀ q ∈ qs, q.2 w'
  | [], [], _, _, _, _, hq => by simp at hq
  | [], _ :: _, h, _, _, _, _ => h.elim
  | _ :: _, [], h, _, _, _, _ => h.elim
  | p :: ps, q :: qs, ⟨h1, ⟨b, ob, h2, h3⟩, h4⟩, hw, hq, q', hq' => by
    rcases List.mem_cons.1 hq' with rfl | hq''
    · have := hq q' (List.mem_cons_self ..)
      rw [h3] at this ⊢
      simp only at this ⊢
      rw [hw p (List.mem_cons_self ..) b h2]
      exact this
    · exact PRels.all h4 (fun p hp => hw p (List.mem_cons_of_mem _ hp)) (fun q hq1 => hq q (List.mem_cons_of_mem _ hq1)) q' hq''

theorem pendTouch_loc {o : Oper} {t : List T} : ∀ {ps : List (Nat × Pend)}, pendTouch o t ps = false → ∀ {i d : Nat}, (i, Pend.loc d) ∈ ps → touch o t d = false
  | [], _, _, _, h => by simp at h
  | (j, .loc e) :: ps, h, i, d, hm => by
    simp only [pendTouch, Bool.or_eq_false_iff] at h
    rcases List.mem_cons.1 hm with he | hm
    · injection he with h1 h2
      injection h2 with h2
      rw [h2]; exact h.1
    · exact pendTouch_loc h.2 hm
  | (j, .row e) :: ps, h, i, d, hm => by
    simp only [pendTouch] at h
    rcases List.mem_cons.1 hm with he | hm
    · injection he with h1 h2; cases h2
    · exact pendTouch_loc h hm

theorem pendRows_mem : ∀ {ps : List (Nat × Pend)} {i r : Nat}, (i, Pend.row r) ∈ ps → r ∈ pendRows ps
  | [], _, _, h => by simp at h
  | (j, .loc e) :: ps, i, r, hm => by
    rcases List.mem_cons.1 hm with he | hm
    · injection he with h1 h2; cases h2
    · exact pendRows_mem (ps := ps) hm
  | (j, .row e) :: ps, i, r, hm => by
    rcases List.mem_cons.1 hm with he | hm
    · injection he with h1 h2
      injection h2 with h2
      rw [h2]; exact List.mem_cons_self ..
    · exact List.mem_cons_of_mem _ (pendRows_mem hm)

/-- What is put elsewhere leaves the places. -/
theorem PRels.put {t : List T} {β : Nat → Nat} {σ : Heap} {μ : Mu} {o : Oper} {x : T} {ps : List (Nat × Pend)} {qs : List (Nat × (World → Prop))} (h : PRels t β σ μ ps qs) (ht : pendTouch o t ps = false) : PRels (putT o.dst x t) β σ μ ps qs := by
  refine h.step (fun p hp b hw => ?_)
  obtain ⟨i, p⟩ := p
  cases p with
  | row r => exact hw
  | loc d =>
    obtain ⟨z, h1, h2, h3⟩ := hw
    obtain ⟨z', h4, h5⟩ := put_own (x := x) h1 h2 (pendTouch_loc ht hp)
    exact ⟨z', h4, h5, h3⟩

section
variable {α : Type} {E : Env} {r : α} {C : Ctx}

theorem hdraw_sound (ok : EnvOk E) {ops : Array Oper} (hsel : ∀ (j : Nat) (o : Oper) cs b, ops[j]? = some o → o.op ≠ .select cs b) {Q : Exit → Act → World → Prop} (hQ : ∀ c a w, ¬ Q (.panic c) a w) {K : List T → Heap → Option α}
    (hk : ∀ t' σ' μ' β' a' w', St C μ' β' t' σ' a' w' → K t' σ' = some r → Q .normal a' w') :
    ∀ (n : Nat) (listed : Array Bool) (ps : List (Nat × Pend)) {t σ μ β a w} (Ps : List (Nat × (World → Prop))), St C μ β t σ a w → PRels t β σ μ ps Ps → (∀ q ∈ Ps, q.2 w) → hdraw E ops K n listed ps t σ = some r → wpAnyL E.P ops Q n listed Ps a w
  | 0, listed, ps, t, σ, μ, β, a, w, Ps, st, hp, hq, h => by
    unfold hdraw at h
    cases he : (Region.ready .any ops listed).isEmpty with
    | false => rw [he] at h; cases h
    | true =>
      rw [he, cond_true] at h
      exact ⟨by simpa using he, hk _ _ _ _ _ _ st h⟩
  | n + 1, listed, ps, t, σ, μ, β, a, w, Ps, st, hp, hq, h => by
    unfold hdraw at h
    split at h
    · rename_i hr
      exact ⟨fun _ => hk _ _ _ _ _ _ st h, fun j hj => by rw [hr] at hj; cases hj⟩
    · rename_i j0 rs hr
      split at h
      · rename_i i hf
        have hmem := List.mem_of_find?_eq_some hf
        have hprop := List.find?_some hf
        simp only [Bool.and_eq_true] at hprop
        rw [← hr] at hmem
        split at h
        · rename_i o hio
          have hpr : isPR E.P o = true := by
            have := hprop.1
            unfold isPRat at this
            rw [hio] at this
            exact this
          have hfree := Region.free_spec hio hprop.2
          have hQ' : ∀ (v : Value) c a w, Q (.panic c) (a.put o.dst v) w → Q (.panic c) a w := fun v c a w hh => absurd hh (hQ _ _ _)
          rcases hguard_some st h with ⟨hw, h1⟩ | ⟨hw, h1⟩
          · split at h1
            · rename_i hl
              cases ht : pendTouch o t ps with
              | true => rw [ht] at h1; cases h1
              | false =>
                rw [ht, cond_false] at h1
                obtain ⟨x, y, hx, hr1, hK, he⟩ := hop_pure (S := fun _ => True) hpr hl st h1
                refine wpAnyL_take hio hsel (hQ' y) hprop.1 n listed Ps a w hfree hmem (S := fun _ => True) (v := y) (.inl ⟨hw, fun w _ => he w trivial⟩) trivial hq ?_
                exact wpAnyL_true _ _ _ _ _ _ (hdraw_sound ok hsel hQ hk n _ ps Ps (st.put o.dst x y hx hr1) (hp.put ht) hq hK)
            · rename_i x hl
              have hld : ∃ ty, o.op = .load ty x := by
                unfold loadOf at hl
                split at hl
                · rename_i ty x' ho; injection hl with hl; exact ⟨ty, by rw [ho, hl]⟩
                · cases hl
              obtain ⟨ty, hld⟩ := hld
              have hpo : ∃ p, (bif pendTouch o t ((i, p) :: ps) then none else hop E o t σ (fun t σ => hdraw E ops K n (listed.setIfInBounds i true) ((i, p) :: ps) t σ)) = some r ∧
                  ((∃ d off, HM.ev t x = .ref d off ∧ p = .loc d) ∨ (∃ q off, HM.ev t x = .v (.ptr q off) ∧ p = .row q)) := by
                unfold pendOf at h1
                split at h1
                · rename_i d off he; exact ⟨_, h1, .inl ⟨d, off, he, rfl⟩⟩
                · rename_i v he
                  obtain ⟨q, off, rfl, h2⟩ := castPtr_some h1
                  exact ⟨_, h2, .inr ⟨q, off, he, rfl⟩⟩
                · cases h1
              obtain ⟨p, h2, hp2⟩ := hpo
              cases ht : pendTouch o t ((i, p) :: ps) with
              | true => rw [ht] at h2; cases h2
              | false =>
                rw [ht, cond_false] at h2
                obtain ⟨b, hreads, x', y, hx, hr1, hK, he⟩ := pure_load st hld h2
                have hwhere : Where t β σ μ p b := by
                  rcases hreads with ⟨d, off, cs, k1, k2, k3⟩ | ⟨q, off, row, L, k1, k2, k3, k4⟩
                  · rcases hp2 with ⟨d', off', k5, rfl⟩ | ⟨q', off', k5, rfl⟩
                    · rw [k1] at k5
                      injection k5 with k5 _
                      subst k5
                      exact ⟨_, k2, rfl, k3.symm⟩
                    · rw [k1] at k5; cases k5
                  · rcases hp2 with ⟨d', off', k5, rfl⟩ | ⟨q', off', k5, rfl⟩
                    · rw [k1] at k5; cases k5
                    · rw [k1] at k5
                      injection k5 with k5
                      injection k5 with k5 _
                      subst k5
                      exact ⟨row, L, k2, k3, k4.symm⟩
                have hp3 : PRels t β σ μ ((i, p) :: ps) ((i, fun w' => w'.heap[b]? = w.heap[b]?) :: Ps) := ⟨rfl, ⟨b, _, hwhere, rfl⟩, hp⟩
                refine wpAnyL_take hio hsel (hQ' y) hprop.1 n listed Ps a w hfree hmem (S := fun w' => w'.heap[b]? = w.heap[b]?) (v := y) (.inl ⟨hw, fun w' hS => he w' hS⟩) rfl hq ?_
                refine hdraw_sound ok hsel hQ hk n _ _ _ (st.put o.dst x' y hx hr1) (hp3.put ht) (fun q hq1 => ?_) hK
                rcases List.mem_cons.1 hq1 with rfl | hq1
                · rfl
                · exact hq q hq1
          · cases ht : pendTouch o t ps with
            | true => rw [ht] at h1; cases h1
            | false =>
              rw [ht, cond_false] at h1
              refine wpAnyL_take hio hsel (hQ' undef) hprop.1 n listed Ps a w hfree hmem (S := fun _ => True) (v := undef) (.inr ⟨hw, rfl⟩) trivial hq ?_
              exact wpAnyL_true _ _ _ _ _ _ (hdraw_sound ok hsel hQ hk n _ ps Ps (st.put o.dst undefT undef rfl rel_undef) (hp.put ht) hq h1)
        · cases h
      · split at h
        · split at h
          · rename_i o hio
            cases hpr : isPR E.P o with
            | true => rw [hpr] at h; cases h
            | false =>
              rw [hpr, cond_false] at h
              have hkeep : keepL E.P ops j0 Ps = Ps.filter fun p => !dep ops j0 p.1 := by
                unfold keepL isPRat
                rw [hio]
                simp only [hpr, cond_false]
              have hp' : PRels t β σ μ (dropP ops j0 ps) (keepL E.P ops j0 Ps) := by
                rw [hkeep]
                exact hp.filter fun i => !dep ops j0 i
              have hq' : ∀ q ∈ keepL E.P ops j0 Ps, q.2 w := fun q hq1 => by
                rw [hkeep] at hq1
                exact hq q (List.mem_filter.1 hq1).1
              refine ⟨fun h0 => (by rw [hr] at h0; cases h0), fun j hj => ?_⟩
              rw [hr] at hj
              have hjj : j = j0 := by simpa using hj
              subst hjj
              unfold wpOp
              rw [hio]
              simp only
              rcases hguard_some st h with ⟨hw, h1⟩ | ⟨hw, h1⟩
              · cases ht : pendTouch o t (dropP ops j ps) with
                | true => rw [ht] at h1; cases h1
                | false =>
                  rw [ht, cond_false] at h1
                  rw [if_pos hw]
                  refine .inl (hop_sound ok (st.prot _) h1 (fun t' σ' μ' β' a' w' st' s h' => ?_))
                  obtain ⟨st2, _, hlen⟩ := St.unprot st st' s _ (fun q hq => hq)
                  have hblk : ∀ p ∈ dropP ops j ps, ∀ b, Where t β σ μ p.2 b → w'.heap[b]? = w.heap[b]? := by
                    rintro ⟨i, p⟩ hpm b hwh
                    cases p with
                    | loc d =>
                      obtain ⟨z, k1, k2, k3⟩ := hwh
                      rw [← k3]
                      exact (s.own d z k1 k2 (pendTouch_loc ht hpm)).1
                    | row q =>
                      obtain ⟨row, L, k1, k2, k3⟩ := hwh
                      obtain ⟨row', k4, k5⟩ := prot_live (rs := pendRows (dropP ops j ps)) k1
                      rw [← k3]
                      exact s.ro q row' L k4 (k5 (pendRows_mem hpm)) k2
                  refine ⟨hp'.all hblk hq', hdraw_sound ok hsel hQ hk n _ _ _ st2 (hp'.step ?_) (hp'.all hblk hq') h'⟩
                  rintro ⟨i, p⟩ hpm b hwh
                  cases p with
                  | loc d =>
                    obtain ⟨z, k1, k2, k3⟩ := hwh
                    obtain ⟨_, k4, z', k5, k6⟩ := s.own d z k1 k2 (pendTouch_loc ht hpm)
                    exact ⟨z', k5, k6, by rw [k4, k3]⟩
                  | row q =>
                    obtain ⟨row, L, k1, k2, k3⟩ := hwh
                    have hL' := s.le q L k2
                    have hlt : q < σ'.length := by
                      rcases Nat.lt_or_ge q σ'.length with h1 | h1
                      · exact h1
                      · rw [st'.base.sim.fresh q h1] at hL'; cases hL'
                    exact ⟨row, L, unprot_live (pendRows_mem hpm) k1 hlt, hL', k3⟩
              · cases ht : pendTouch o t (dropP ops j ps) with
                | true => rw [ht] at h1; cases h1
                | false =>
                  rw [ht, cond_false] at h1
                  rw [if_neg (by rw [hw]; simp)]
                  exact ⟨hq', hdraw_sound ok hsel hQ hk n _ _ _ (st.put o.dst undefT undef rfl rel_undef) (hp'.put ht) hq' h1⟩
          · cases h
        · cases h

theorem draw_sound (ok : EnvOk E) (hmix : E.P.follows .mixedOrders = true) {id : Nat} {ops : Array Oper} {Q : Exit → Act → World → Prop} {K : List T → Heap → Option α} {t σ μ β a w} (st : St C μ β t σ a w)
    (h : (bif Region.noSelect ops then hdraw E ops K ops.size (Array.replicate ops.size false) [] t σ else none) = some r)
    (hk : ∀ t' σ' μ' β' a' w', St C μ' β' t' σ' a' w' → K t' σ' = some r → Q .normal a' w') : (Code.region id ops true).wp E.P Q a w := by
  cases hs : Region.noSelect ops with
  | false => rw [hs] at h; cases h
  | true =>
    rw [hs, cond_true] at h
    refine wp_mono (Q := fun e a w => match e with | .normal => Q .normal a w | _ => False) ?_ (fun e a w hq => by cases e <;> first | exact hq | exact hq.elim)
    refine wp_region_any hmix (wpAny_of_L _ _ [] _ _ ?_)
    exact hdraw_sound (Q := fun e a w => match e with | .normal => Q .normal a w | _ => False) ok (Region.noSelect_spec hs) (fun c a w hh => hh) hk _ _ [] [] (st.grew (Grew.drawn w _)) trivial (fun q hq => by cases hq) h
end
end Go.HM
