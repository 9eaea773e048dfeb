/- Regions whose order is drawn: the small machine's order is as good as any. -/
import Derived.Test.YtoakhfnojbmhgaaGreatHMDraw2
set_option linter.unusedSimpArgs false
set_option linter.unusedVariables false
namespace Go.HM
section
variable {α : Type} {E : Env} {r : α} {C : Ctx}
theorem hdraw_end {ops : Array Oper} {Q : Exit → Act → World → Prop} {listed : Array Bool} {Ps : List (Nat × (World → Prop))} {a : Act} {w : World} (hr : Region.ready .any ops listed = []) (h : Q .normal a w) : ∀ m, wpAnyL E.P ops Q m listed Ps a w
  | 0 => ⟨hr, h⟩
  | m + 1 => ⟨fun _ => h, fun j hj => by rw [hr] at hj; cases hj⟩
theorem Inv.none {ops : Array Oper} {listed : Array Bool} {Ps : List (Nat × (World → Prop))} {t : List T} {β : Nat → Nat} {σ : Heap} {μ : Mu} {a : Act} {w : World} {D : List Ent} (h : Inv E ops C listed Ps t β σ μ a w D) (hr : Region.ready .any ops listed = []) : D = [] := by
  cases D with
  | nil => rfl
  | cons e D =>
    have := (h.each e (List.mem_cons_self ..)).rdy
    rw [hr] at this
    cases this
theorem ids_mem {D : List Ent} {k : Nat} : k ∈ ids D ↔ ∃ e ∈ D, e.i = k := by simp [ids]
theorem free_fr {ops : Array Oper} {listed : Array Bool} {i : Nat} {oi : Oper} (hi : ops[i]? = some oi) (h : Region.free .any ops listed i = true) :
    ∀ j oj, ops[j]? = some oj → j ≠ i → listed.getD j true = false → (∀ x ∈ oj.after, Region.binds .any x = true → x.on ≠ i) → oi.apart ops oj = true := fun j oj hj hne hun hno => Region.free_spec hi h j oj hj hne hun hno
theorem filter_lt {A D : List Nat} {k : Nat} (hk : k ∈ A) (hD : k ∉ D) : (A.filter fun i => !(k :: D).contains i).length < (A.filter fun i => !D.contains i).length := by
  have h1 : (A.filter fun i => !(k :: D).contains i) = (A.filter fun i => !D.contains i).filter fun i => !(i == k) := by
    rw [List.filter_filter]
    congr 1
    funext i
    by_cases h : i = k <;> by_cases h' : i ∈ D <;> simp [h, h', List.contains_cons]
  rw [h1]
  have h2 : k ∈ A.filter fun i => !D.contains i := List.mem_filter.2 ⟨hk, by simpa using hD⟩
  generalize A.filter (fun i => !D.contains i) = l at h2
  clear h1
  induction l with
  | nil => cases h2
  | cons x l ih =>
    rw [List.filter_cons]
    rcases List.mem_cons.1 h2 with rfl | h2
    · simp
      exact Nat.lt_succ_of_le (List.length_filter_le ..)
    · have := ih h2
      split
      · simp only [List.length_cons]; omega
      · simp
        omega
theorem hdraw_sound (ok : EnvOk E) {ops : Array Oper} (hsel : ∀ (j : Nat) (o : Oper) cs b, ops[j]? = some o → o.op ≠ .select cs b) {Q : Exit → Act → World → Prop} (hQ : ∀ c a w, ¬ Q (.panic c) a w) {K : List T → Heap → Option α}
    (hk : ∀ t' σ' μ' β' a' w', St C μ' β' t' σ' a' w' → K t' σ' = some r → Q .normal a' w') :
    ∀ (n : Nat) (listed : Array Bool) (ps : List (Nat × Pend)) {t σ μ β a w} (Ps : List (Nat × (World → Prop))) (D : List Ent) (m : Nat), St C μ β t σ a w → PRels t β σ μ ps Ps → (∀ q ∈ Ps, q.2 w) → Inv E ops C listed Ps t β σ μ a w D → cnt (lm (ids D) listed) ≤ m →
      hdraw E ops K n listed ps t σ = some r → wpAnyL E.P ops Q m (lm (ids D) listed) Ps a w
  | 0, listed, ps, t, σ, μ, β, a, w, Ps, D, m, st, hp, hq, hD, hc, h => by
    unfold hdraw at h
    cases he : (Region.ready .any ops listed).isEmpty with
    | false => rw [he] at h; cases h
    | true =>
      rw [he, cond_true] at h
      have hr : Region.ready .any ops listed = [] := by simpa using he
      obtain rfl := hD.none hr
      rw [show ids [] = [] from rfl, lm_nil]
      exact hdraw_end hr (hk _ _ _ _ _ _ st h) m
  | n + 1, listed, ps, t, σ, μ, β, a, w, Ps, D, m, st, hp, hq, hD, hc, h => by
    unfold hdraw at h
    split at h
    · rename_i hr
      obtain rfl := hD.none hr
      rw [show ids [] = [] from rfl, lm_nil]
      exact hdraw_end hr (hk _ _ _ _ _ _ st h) m
    · rename_i j0 rs hr
      split at h
      · rename_i i hf
        have hmem := List.mem_of_find?_eq_some hf
        have hprop := List.find?_some hf
        simp only [Bool.and_eq_true] at hprop
        rw [← hr] at hmem
        split at h
        · rename_i o hio
          have hpr : isPR E.P o = true := by
            have := hprop.1
            unfold isPRat at this
            rw [hio] at this
            exact this
          have hiD : i ∉ ids D := fun hi => by
            obtain ⟨e, he, hei⟩ := ids_mem.1 hi
            have h1 := (hD.each e he).op
            rw [hei, hio] at h1
            injection h1 with h1
            have h2 := isAlloc_noPR (P := E.P) (hD.each e he).al
            rw [← h1, hpr] at h2
            cases h2
          have hrdyM := ready_lm (D := ids D) hmem hiD
          have hunM := (mem_ready.1 hrdyM).1
          have hcs := cnt_set hunM
          obtain ⟨m', rfl⟩ : ∃ m', m = m' + 1 := ⟨m - 1, by omega⟩
          have hfree := Region.free_spec hio hprop.2
          have hfreeM : ∀ j oj, ops[j]? = some oj → j ≠ i → (lm (ids D) listed).getD j true = false → (∀ e ∈ oj.after, Region.binds .any e = true → e.on ≠ i) → o.apart ops oj = true := fun j oj hj hne hun hno => hfree j oj hj hne (lm_un.1 hun).1 hno
          have hQ' : ∀ (v : Value) c a w, Q (.panic c) (a.put o.dst v) w → Q (.panic c) a w := fun v c a w hh => absurd hh (hQ _ _ _)
          have hcnt : cnt (lm (ids D) (listed.setIfInBounds i true)) ≤ m' := by rw [lm_set]; omega
          have hinv : ∀ (x : T) (y : Value) (Ps' : List (Nat × (World → Prop))), x.own = false → (∀ q ∈ Ps', q ∈ Ps ∨ q.1 = i) → Inv E ops C (listed.setIfInBounds i true) Ps' (putT o.dst x t) β σ μ (a.put o.dst y) w D := fun x y Ps' hx hPs => by
            refine ⟨fun e he => ?_, hD.apart⟩
            have h1 := hD.each e he
            have hne : i ≠ e.i := fun hc => hiD (ids_mem.2 ⟨e, he, hc.symm⟩)
            have hap := h1.apart hmem hio hne
            obtain ⟨h2, h3⟩ := h1.act hsel hap (a' := a.put o.dst y) (u := y) rfl rfl rfl
            refine h1.keep (fun j hj => ?_) (ready_mono h1.rdy (Ne.symm hne)) h2 h3 rfl h1.row (fun k z hz ho => ?_) (fun q hq' => ?_)
            · by_cases hij : i = j
              · subst hij; exact (mem_ready.1 hmem).1
              · rwa [getD_set_ne true hij] at hj
            · cases hd : o.dst with
              | none => rw [hd] at hz; exact h1.own k z hz ho
              | some d =>
                rw [hd] at hz
                simp only [putT, List.getElem?_set] at hz
                split at hz
                · split at hz
                  · injection hz with hz; rw [← hz, hx] at ho; cases ho
                  · cases hz
                · exact h1.own k z hz ho
            · rcases hPs q hq' with h4 | h4
              · exact h1.pend q h4
              · rw [h4]
                exact dep_not h1.rdy (mem_ready.1 hmem).1
          rcases hguard_some st h with ⟨hw, h1⟩ | ⟨hw, h1⟩
          · split at h1
            · rename_i hl
              cases ht : pendTouch o t ps with
              | true => rw [ht] at h1; cases h1
              | false =>
                rw [ht, cond_false] at h1
                obtain ⟨x, y, hx, hr1, hK, he⟩ := hop_pure (S := fun _ => True) hpr hl st h1
                refine wpAnyL_take hio hsel (hQ' y) hprop.1 m' _ Ps a w hfreeM hrdyM (S := fun _ => True) (v := y) (.inl ⟨hw, fun w _ => he w trivial⟩) trivial hq ?_
                rw [← lm_set]
                exact wpAnyL_true _ _ _ _ _ _ (hdraw_sound ok hsel hQ hk n _ ps Ps D m' (st.put o.dst x y hx hr1) (hp.put ht) hq (hinv x y Ps hx fun q hq => .inl hq) hcnt hK)
            · rename_i x hl
              have hld : ∃ ty, o.op = .load ty x := by
                unfold loadOf at hl
                split at hl
                · rename_i ty x' ho; injection hl with hl; exact ⟨ty, by rw [ho, hl]⟩
                · cases hl
              obtain ⟨ty, hld⟩ := hld
              have hpo : ∃ p, (bif pendTouch o t ((i, p) :: ps) then none else hop E o t σ (fun t σ => hdraw E ops K n (listed.setIfInBounds i true) ((i, p) :: ps) t σ)) = some r ∧
                  ((∃ d off, HM.ev t x = .ref d off ∧ p = .loc d) ∨ (∃ q off, HM.ev t x = .v (.ptr q off) ∧ p = .row q)) := by
                unfold pendOf at h1
                split at h1
                · rename_i d off he; exact ⟨_, h1, .inl ⟨d, off, he, rfl⟩⟩
                · rename_i v he
                  obtain ⟨q, off, rfl, h2⟩ := castPtr_some h1
                  exact ⟨_, h2, .inr ⟨q, off, he, rfl⟩⟩
                · cases h1
              obtain ⟨p, h2, hp2⟩ := hpo
              cases ht : pendTouch o t ((i, p) :: ps) with
              | true => rw [ht] at h2; cases h2
              | false =>
                rw [ht, cond_false] at h2
                obtain ⟨b, hreads, x', y, hx, hr1, hK, he⟩ := pure_load st hld h2
                have hwhere : Where t β σ μ p b := by
                  rcases hreads with ⟨d, off, cs, k1, k2, k3⟩ | ⟨q, off, row, L, k1, k2, k3, k4⟩
                  · rcases hp2 with ⟨d', off', k5, rfl⟩ | ⟨q', off', k5, rfl⟩
                    · rw [k1] at k5
                      injection k5 with k5 _
                      subst k5
                      exact ⟨_, k2, rfl, k3.symm⟩
                    · rw [k1] at k5; cases k5
                  · rcases hp2 with ⟨d', off', k5, rfl⟩ | ⟨q', off', k5, rfl⟩
                    · rw [k1] at k5; cases k5
                    · rw [k1] at k5
                      injection k5 with k5
                      injection k5 with k5 _
                      subst k5
                      exact ⟨row, L, k2, k3, k4.symm⟩
                have hp3 : PRels t β σ μ ((i, p) :: ps) ((i, fun w' => w'.heap[b]? = w.heap[b]?) :: Ps) := fun q hq' => by
                  rcases List.mem_cons.1 hq' with rfl | hq'
                  · exact ⟨(i, p), List.mem_cons_self .., rfl, b, _, hwhere, rfl⟩
                  · obtain ⟨p', h3, h4⟩ := hp q hq'
                    exact ⟨p', List.mem_cons_of_mem _ h3, h4⟩
                refine wpAnyL_take hio hsel (hQ' y) hprop.1 m' _ Ps a w hfreeM hrdyM (S := fun w' => w'.heap[b]? = w.heap[b]?) (v := y) (.inl ⟨hw, fun w' hS => he w' hS⟩) rfl hq ?_
                rw [← lm_set]
                refine hdraw_sound ok hsel hQ hk n _ _ _ D m' (st.put o.dst x' y hx hr1) (hp3.put ht) (fun q hq1 => ?_) (hinv x' y _ hx fun q hq => ?_) hcnt hK
                · rcases List.mem_cons.1 hq1 with rfl | hq1
                  · rfl
                  · exact hq q hq1
                · rcases List.mem_cons.1 hq with rfl | hq
                  · exact .inr rfl
                  · exact .inl hq
          · cases ht : pendTouch o t ps with
            | true => rw [ht] at h1; cases h1
            | false =>
              rw [ht, cond_false] at h1
              refine wpAnyL_take hio hsel (hQ' undef) hprop.1 m' _ Ps a w hfreeM hrdyM (S := fun _ => True) (v := undef) (.inr ⟨hw, rfl⟩) trivial hq ?_
              rw [← lm_set]
              exact wpAnyL_true _ _ _ _ _ _ (hdraw_sound ok hsel hQ hk n _ ps Ps D m' (st.put o.dst undefT undef rfl rel_undef) (hp.put ht) hq (hinv undefT undef Ps rfl fun q hq => .inl hq) hcnt h1)
        · cases h
      · split at h
        · rename_i j A hal
          obtain ⟨hj, hA, hrest⟩ := alone_spec (by rw [← hr]; exact ready_nodup ops listed) hal
          rw [← hr] at hj hA hrest
          split at h
          · rename_i o hjo
            cases hb : (isPR E.P o || !laterOk E ops listed ps (maskT ops A t) σ j A) with
            | true => rw [hb] at h; cases h
            | false =>
              rw [hb, cond_false] at h
              simp only [Bool.or_eq_false_iff, Bool.not_eq_false'] at hb
              obtain ⟨hpr, hlater⟩ := hb
              unfold laterOk at hlater
              simp only [Bool.and_eq_true] at hlater
              obtain ⟨hlate, hnext⟩ := hlater
              have hAll : ∀ i ∈ A, ∃ oi d, ops[i]? = some oi ∧ isAlloc oi = true ∧ Region.free .any ops listed i = true ∧ pendTouch oi (maskT ops A t) ps = false ∧ oi.dst = some d ∧ (d < t.length ∧ d ∉ oi.looksAt ops) ∧ (hop E oi (maskT ops A t) σ (fun _ _ => some ())).isSome = true := fun i hi => by
                have h1 := List.all_eq_true.1 hlate i hi
                have h2 := (hA i hi).2.1
                unfold isAllocAt at h2
                cases ho : ops[i]? with
                | none => rw [ho] at h2; cases h2
                | some oi =>
                  rw [ho] at h1 h2
                  simp only [Bool.and_eq_true, Bool.not_eq_true'] at h1
                  obtain ⟨g1, ⟨g2, g3⟩, g4⟩ := h1
                  cases hd : oi.dst with
                  | none => rw [hd] at g3; cases g3
                  | some d =>
                    rw [hd] at g3
                    exact ⟨oi, d, rfl, h2, g1, g2, hd, by
                      simp only [Bool.and_eq_true, Bool.not_eq_true', decide_eq_true_eq] at g3
                      exact ⟨by rw [← maskT_length ops A t]; exact g3.1, by simpa using g3.2⟩, g4⟩
              -- the places are kept by the mask
              have hmaskW : ∀ p ∈ ps, ∀ b, Where t β σ μ p.2 b → Where (maskT ops A t) β σ μ p.2 b := by
                rintro ⟨i, p⟩ hpm b hwh
                cases p with
                | row q => exact hwh
                | loc d =>
                  obtain ⟨z, h1, h2, h3⟩ := hwh
                  refine ⟨z, maskT_own A (fun k hk o hko hdst => ?_) h1 h2, h2, h3⟩
                  obtain ⟨oi, d', g1, _, _, g2, _⟩ := hAll k hk
                  rw [hko] at g1
                  injection g1 with g1
                  subst g1
                  have := pendTouch_loc g2 hpm
                  simp [touch, hdst] at this
              have stm : St C μ β (maskT ops A t) σ a w := st.weaken (maskT_length ops A t) (fun i x hx => maskT_get A hx)
              have hpm := hp.step hmaskW
              have hDm : Inv E ops C listed Ps (maskT ops A t) β σ μ a w D := ⟨fun e he => by
                have h1 := hD.each e he
                exact h1.keep (fun _ h => h) h1.rdy h1.lays rfl rfl h1.row (fun i x hx ho => by
                  rcases maskT_get A hx with rfl | hx
                  · cases ho
                  · exact h1.own i x hx ho) h1.pend, hD.apart⟩
              clear hp hD st hmaskW
              generalize htm : maskT ops A t = tm at *
              have hbot : ∀ i ∈ A, ∀ oi d, ops[i]? = some oi → oi.dst = some d → tm[d]? = some .bot := fun i hi oi d ho hd => by
                obtain ⟨oi', d', g1, _, _, _, g2, g3, _⟩ := hAll i hi
                rw [ho] at g1
                injection g1 with g1
                subst g1
                rw [hd] at g2
                injection g2 with g2
                subst g2
                rw [← htm]
                exact maskT_bot A hi ho hd g3.1
              have inner : ∀ (c : Nat) {β a w} (Ps : List (Nat × (World → Prop))) (D : List Ent) (m : Nat), (A.filter fun i => !(ids D).contains i).length ≤ c → St C μ β tm σ a w → PRels tm β σ μ ps Ps → (∀ q ∈ Ps, q.2 w) → Inv E ops C listed Ps tm β σ μ a w D →
                  cnt (lm (ids D) listed) ≤ m → wpAnyL E.P ops Q m (lm (ids D) listed) Ps a w := by
                intro c
                induction c using Nat.strongRecOn with
                | ind c ih =>
                intro β a w Ps D m hlen st hp hq hD hc
                have hsub : ∀ e ∈ D, e.i ∈ A ∨ e.i = j := fun e he => by
                  by_cases hej : e.i = j
                  · exact .inr hej
                  · exact .inl (hrest e.i (hD.each e he).rdy hej)
                by_cases hjD : j ∈ ids D
                · -- the block was laid before
                  obtain ⟨e, he, hej⟩ := ids_mem.1 hjD
                  have h1 := hD.each e he
                  have hoe : e.o = o := by
                    have := h1.op
                    rw [hej, hjo] at this
                    injection this with this
                    exact this.symm
                  have hal' : isAlloc o = true := by rw [← hoe]; exact h1.al
                  have hd' : o.dst = some e.d := by rw [← hoe]; exact h1.dst
                  have hyes : (bif pendTouch o tm (dropP ops j ps) then none else hop E o tm (prot (pendRows (dropP ops j ps)) σ) (fun t' σ' => hdraw E ops K n (listed.setIfInBounds j true) (dropP ops j ps) t' (unprot (pendRows (dropP ops j ps)) σ σ'))) = some r := by
                    unfold hguard at h
                    rw [isAlloc_guard hal'] at h
                    exact h
                  cases ht : pendTouch o tm (dropP ops j ps) with
                  | true => rw [ht] at hyes; cases hyes
                  | false =>
                    rw [ht, cond_false] at hyes
                    obtain ⟨t', σ', μ', β', st', hK, hle, hrows, hkeep, hown, hownk⟩ := late (K := fun t' σ' => hdraw E ops K n (listed.setIfInBounds j true) (dropP ops j ps) t' σ') st (pendRows (dropP ops j ps)) hal' rfl hyes hd' (by rw [← hoe]; exact h1.lays) h1.tmp h1.blk h1.low h1.row h1.own
                    have hdrop : ∀ k, k ∈ ids (D.filter fun f => !(f.i == j)) ↔ k ∈ ids D ∧ k ≠ j := fun k => by
                      simp only [ids_mem, List.mem_filter, Bool.not_eq_true', beq_eq_false_iff_ne]
                      constructor
                      · rintro ⟨f, ⟨h2, h3⟩, rfl⟩
                        exact ⟨⟨f, h2, rfl⟩, h3⟩
                      · rintro ⟨⟨f, h2, rfl⟩, h3⟩
                        exact ⟨f, ⟨h2, h3⟩, rfl⟩
                    have hlm := lm_drop listed hjD hdrop
                    rw [← hlm]
                    refine hdraw_sound ok hsel hQ hk n _ _ Ps _ m st' ?_ hq ?_ (by rw [hlm]; exact hc) hK
                    · intro q hq'
                      obtain ⟨p, hpm, hpe, b, ob, hwh, hqe⟩ := hp q hq'
                      have hpd : p ∈ dropP ops j ps := List.mem_filter.2 ⟨hpm, by rw [hpe, ← hej, h1.pend q hq']; rfl⟩
                      refine ⟨p, hpd, hpe, b, ob, ?_, hqe⟩
                      obtain ⟨i, p⟩ := p
                      cases p with
                      | row q0 =>
                        obtain ⟨row, L, k1, k2, k3⟩ := hwh
                        exact ⟨row, L, hkeep q0 row k1, hle _ _ k2, k3⟩
                      | loc d0 =>
                        obtain ⟨z, k1, k2, k3⟩ := hwh
                        have hne : d0 ≠ e.d := fun hc => by
                          have := pendTouch_loc ht hpd
                          simp [touch, hd', hc] at this
                        obtain ⟨k4, z', k5, k6⟩ := hownk d0 z hne k1 k2
                        exact ⟨z', k5, k6, by rw [k4, k3]⟩
                    · refine ⟨fun f hf => ?_, fun f hf g hg => hD.apart f (List.mem_filter.1 hf).1 g (List.mem_filter.1 hg).1⟩
                      obtain ⟨hf1, hf2⟩ := List.mem_filter.1 hf
                      have hfj : f.i ≠ j := by simpa using hf2
                      have h2 := hD.each f hf1
                      have hbne : e.b ≠ f.b := hD.apart e he f hf1 (by rw [hej]; exact Ne.symm hfj)
                      refine h2.keep (fun k hk' => ?_) (ready_mono h2.rdy hfj) h2.lays rfl rfl (fun q row L k1 k2 => ?_) (fun i x hx ho => ?_) h2.pend
                      · by_cases hjk : j = k
                        · subst hjk; exact (mem_ready.1 hj).1
                        · rwa [getD_set_ne true hjk] at hk'
                      · rcases hrows q row L k1 k2 with ⟨k3, k4⟩ | k3
                        · exact h2.row q row L k3 k4
                        · rw [k3]; exact hbne
                      · rcases hown i x hx ho with ⟨k3, x', k4, k5⟩ | k3
                        · rw [k3]; exact h2.own i x' k4 k5
                        · rw [k3]; exact hbne
                · have hrdyM := ready_lm (D := ids D) hj hjD
                  have hcs := cnt_set (mem_ready.1 hrdyM).1
                  obtain ⟨m', rfl⟩ : ∃ m', m = m' + 1 := ⟨m - 1, by omega⟩
                  refine ⟨fun h0 => (by rw [h0] at hrdyM; cases hrdyM), fun k hkM => ?_⟩
                  have hkcase : k = j ∨ (k ∈ A ∧ k ∉ ids D) := by
                    have hun := lm_un.1 (mem_ready.1 hkM).1
                    by_cases hkA : k ∈ A
                    · exact .inr ⟨hkA, hun.2⟩
                    · have h1 := ready_all hkM (A := A) (fun i hi => by
                        obtain ⟨e, he, hei⟩ := ids_mem.1 hi
                        rcases hsub e he with h2 | h2
                        · rw [← hei]; exact h2
                        · exact absurd (ids_mem.2 ⟨e, he, h2⟩) hjD) hkA
                      rw [← listAll_lm] at h1
                      have := List.all_eq_true.1 hnext k h1
                      exact .inl (by simpa using this)
                  rcases hkcase with rfl | ⟨hkA, hkD⟩
                  · -- what is done now
                    have hkeepL : keepL E.P ops k Ps = Ps.filter fun p => !dep ops k p.1 := by
                      unfold keepL isPRat
                      rw [hjo]
                      simp only [hpr, cond_false]
                    have hp' : PRels tm β σ μ (dropP ops k ps) (keepL E.P ops k Ps) := by
                      rw [hkeepL]
                      exact hp.filter fun i => !dep ops k i
                    have hq' : ∀ q ∈ keepL E.P ops k Ps, q.2 w := fun q hq1 => by
                      rw [hkeepL] at hq1
                      exact hq q (List.mem_filter.1 hq1).1
                    have hPsub : ∀ q ∈ keepL E.P ops k Ps, q ∈ Ps := fun q hq1 => by
                      rw [hkeepL] at hq1
                      exact (List.mem_filter.1 hq1).1
                    have hcnt : cnt (lm (ids D) (listed.setIfInBounds k true)) ≤ m' := by rw [lm_set]; omega
                    have hapart : ∀ e ∈ D, e.o.apart ops o = true := fun e he => (hD.each e he).apart hj hjo (fun hc => hjD (ids_mem.2 ⟨e, he, hc.symm⟩))
                    have hlist : ∀ i, (listed.setIfInBounds k true).getD i true = false → listed.getD i true = false := fun i hi => by
                      by_cases hki : k = i
                      · subst hki; exact (mem_ready.1 hj).1
                      · rwa [getD_set_ne true hki] at hi
                    unfold wpOp
                    rw [hjo]
                    simp only
                    rcases hguard_some st h with ⟨hw, h1⟩ | ⟨hw, h1⟩
                    · cases ht : pendTouch o tm (dropP ops k ps) with
                      | true => rw [ht] at h1; cases h1
                      | false =>
                        rw [ht, cond_false] at h1
                        rw [if_pos hw]
                        refine .inl ?_
                        have hgo := hop_sound ok (Q := Q) (next := fun a' w' => ∃ t' σ' μ' β', St C μ' β' t' σ' a' w' ∧ Step w (prot (pendRows (dropP ops k ps)) σ) μ tm β (touch o tm) w' σ' μ' t' β' ∧ hdraw E ops K n (listed.setIfInBounds k true) (dropP ops k ps) t' (unprot (pendRows (dropP ops k ps)) σ σ') = some r) (st.prot _) h1 (fun t' σ' μ' β' a' w' st' s h' => ⟨t', σ', μ', β', st', s, h'⟩)
                        refine Oper.wp_mono (fun a' w' hh => ?_) (oper_act hgo)
                        obtain ⟨⟨t', σ', μ', β', st', s, h'⟩, a'', u, ha1, ha2, ha3⟩ := hh
                        obtain ⟨st2, hrows2, hlen2⟩ := St.unprot st st' s _ (fun q hq => hq)
                        have hblk : ∀ p ∈ dropP ops k ps, ∀ b, Where tm β σ μ p.2 b → w'.heap[b]? = w.heap[b]? := by
                          rintro ⟨i, p⟩ hpm b hwh
                          cases p with
                          | loc d =>
                            obtain ⟨z, k1, k2, k3⟩ := hwh
                            rw [← k3]
                            exact (s.own d z k1 k2 (pendTouch_loc ht hpm)).1
                          | row q =>
                            obtain ⟨row, L, k1, k2, k3⟩ := hwh
                            obtain ⟨row', k4, k5⟩ := prot_live (rs := pendRows (dropP ops k ps)) k1
                            rw [← k3]
                            exact s.ro q row' L k4 (k5 (pendRows_mem hpm)) k2
                        have hqw := hp'.all hblk hq'
                        refine ⟨hqw, ?_⟩
                        rw [← lm_set]
                        refine hdraw_sound ok hsel hQ hk n _ _ _ D m' st2 (hp'.step ?_) hqw ?_ hcnt h'
                        · rintro ⟨i, p⟩ hpm b hwh
                          cases p with
                          | loc d =>
                            obtain ⟨z, k1, k2, k3⟩ := hwh
                            obtain ⟨_, k4, z', k5, k6⟩ := s.own d z k1 k2 (pendTouch_loc ht hpm)
                            exact ⟨z', k5, k6, by rw [k4, k3]⟩
                          | row q =>
                            obtain ⟨row, L, k1, k2, k3⟩ := hwh
                            have hL' := s.le q L k2
                            have hlt : q < σ'.length := by
                              rcases Nat.lt_or_ge q σ'.length with h1 | h1
                              · exact h1
                              · rw [st'.base.sim.fresh q h1] at hL'; cases hL'
                            exact ⟨row, L, unprot_live (pendRows_mem hpm) k1 hlt, hL', k3⟩
                        · refine ⟨fun e he => ?_, hD.apart⟩
                          have h2 := hD.each e he
                          have hne : e.i ≠ k := fun hc => hjD (ids_mem.2 ⟨e, he, hc⟩)
                          obtain ⟨k1, k2⟩ := h2.act hsel (hapart e he) ha1 ha2 ha3
                          have hlt : e.b < w.heap.size := by
                            rcases Nat.lt_or_ge e.b w.heap.size with h3 | h3
                            · exact h3
                            · have := h2.blk
                              rw [Array.getElem?_eq_none h3] at this
                              cases this
                          have hprow : ∀ (q : Nat) row L, (prot (pendRows (dropP ops k ps)) σ)[q]? = some (some row) → μ q = some L → L.block ≠ e.b := fun q row L k3 k4 => by
                            obtain ⟨row0, k5, _⟩ := prot_get k3
                            exact h2.row q row0 L k5 k4
                          refine h2.keep hlist (ready_mono h2.rdy hne) k1 k2 (s.keepb e.b hlt (fun q row L k3 _ k4 => hprow q row L k3 k4) h2.own) (fun q row L k3 k4 => ?_) (fun i x hx ho => ?_) (fun q hq1 => h2.pend q (hPsub q hq1))
                          · rcases hrows2 q row L k3 k4 with ⟨k5, k6⟩ | ⟨row0, k5, k6, k7⟩ | k5 | ⟨r0, row0, L0, k5, k6, k7, k8⟩
                            · exact h2.row q row L k5 k6
                            · exact hprow q row0 L k5 k6
                            · have : w.heap.size ≤ L.block := k5
                              omega
                            · rw [← k7]
                              exact hprow r0 row0 L0 k5 k6
                          · rcases s.fresh i x hx ho with ⟨k3, x', k4, k5⟩ | k3
                            · rw [k3]; exact h2.own i x' k4 k5
                            · omega
                    · cases ht : pendTouch o tm (dropP ops k ps) with
                      | true => rw [ht] at h1; cases h1
                      | false =>
                        rw [ht, cond_false] at h1
                        rw [if_neg (by rw [hw]; simp)]
                        refine ⟨hq', ?_⟩
                        rw [← lm_set]
                        refine hdraw_sound ok hsel hQ hk n _ _ _ D m' (st.put o.dst undefT undef rfl rel_undef) (hp'.put ht) hq' ?_ hcnt h1
                        refine ⟨fun e he => ?_, hD.apart⟩
                        have h2 := hD.each e he
                        have hne : e.i ≠ k := fun hc => hjD (ids_mem.2 ⟨e, he, hc⟩)
                        obtain ⟨k1, k2⟩ := h2.act hsel (hapart e he) (a' := a.put o.dst undef) (u := undef) rfl rfl rfl
                        refine h2.keep hlist (ready_mono h2.rdy hne) k1 k2 rfl h2.row (fun i x hx ho => ?_) (fun q hq1 => h2.pend q (hPsub q hq1))
                        cases hd : o.dst with
                        | none => rw [hd] at hx; exact h2.own i x hx ho
                        | some d =>
                          rw [hd] at hx
                          simp only [putT, List.getElem?_set] at hx
                          split at hx
                          · split at hx
                            · injection hx with hx; rw [← hx] at ho; cases ho
                            · cases hx
                          · exact h2.own i x hx ho
                  · -- a block laid ahead
                    obtain ⟨oi, d, hio, hoal, hofree, hotouch, hod, hodlt, hoev⟩ := hAll k hkA
                    obtain ⟨_, hop1⟩ := Option.isSome_iff_exists.1 hoev
                    obtain ⟨xs, os, ty, kd, d', hd', hrc, hlays, _⟩ := alloc_parts st hoal hop1
                    rw [hod] at hd'
                    injection hd' with hd'
                    subst hd'
                    have hkrdy := (hA k hkA).1
                    have hPR : isPRat E.P ops k = false := by
                      unfold isPRat
                      rw [hio]
                      exact isAlloc_noPR hoal
                    have hkeepL : keepL E.P ops k Ps = Ps.filter fun p => !dep ops k p.1 := by
                      unfold keepL
                      rw [hPR]
                      rfl
                    have hPsub : ∀ q ∈ keepL E.P ops k Ps, q ∈ Ps := fun q hq1 => by
                      rw [hkeepL] at hq1
                      exact (List.mem_filter.1 hq1).1
                    have hwant : Region.wanted oi (yielded ops a.tmps) = true := by
                      simp [Region.wanted, isAlloc_guard hoal]
                    unfold wpOp
                    rw [hio]
                    simp only [hwant, if_true]
                    refine .inl ?_
                    unfold Oper.wp
                    rw [hlays w]
                    simp only [Oper.upon]
                    have hgrew : Grew w { w with heap := w.heap.push (.cells os ty) } := Grew.push w _
                    have hq2 : ∀ q ∈ keepL E.P ops k Ps, q.2 { w with heap := w.heap.push (.cells os ty) } := (hp.sub hPsub).all (fun p hpm b hwh => by
                      refine hgrew.block b ?_
                      obtain ⟨i, p⟩ := p
                      cases p with
                      | loc d0 =>
                        obtain ⟨z, k1, k2, k3⟩ := hwh
                        rw [← k3]
                        exact st.lt k1 k2
                      | row q0 =>
                        obtain ⟨row, L, k1, k2, k3⟩ := hwh
                        rw [← k3]
                        exact st.base.sim.block_lt k1 k2) (fun q hq1 => hq q (hPsub q hq1))
                    refine ⟨hq2, ?_⟩
                    have hlm2 : (lm (ids D) listed).setIfInBounds k true = lm (ids (⟨k, oi, d, w.heap.size, os, ty, kd⟩ :: D)) listed := (lm_cons k (ids D) listed).symm
                    rw [hlm2]
                    have hmb := hbot k hkA oi d hio hod
                    have hputm : putT oi.dst .bot tm = tm := by
                      rw [hod]
                      show tm.set d .bot = tm
                      apply List.ext_getElem?
                      intro i
                      rw [List.getElem?_set]
                      split
                      · rename_i hdi
                        subst hdi
                        rw [if_pos (List.getElem?_eq_some_iff.1 hmb).1, hmb]
                      · rfl
                    have st2 := (st.grew hgrew).put oi.dst .bot (mkV kd w.heap.size) rfl trivial
                    rw [hputm] at st2
                    have hkrdyM := ready_lm (D := ids D) hkrdy hkD
                    have hcs2 := cnt_set (mem_ready.1 hkrdyM).1
                    refine ih _ ?_ (keepL E.P ops k Ps) (⟨k, oi, d, w.heap.size, os, ty, kd⟩ :: D) m' (Nat.le_refl _) st2 (hp.sub hPsub) hq2 ?_ ?_
                    · exact Nat.lt_of_lt_of_le (filter_lt hkA hkD) hlen
                    · have hlow : C.w.heap.size ≤ w.heap.size := st.base.keep.size
                      have hrowlt : ∀ (q : Nat) row L, σ[q]? = some (some row) → μ q = some L → L.block < w.heap.size := fun q row L k1 k2 => st.base.sim.block_lt k1 k2
                      have hdlt : d < a.tmps.size := by rw [st.size, ← htm, maskT_length]; exact hodlt.1
                      have hent : Early E ops C listed (keepL E.P ops k Ps) tm β σ μ (a.put oi.dst (mkV kd w.heap.size)) { w with heap := w.heap.push (.cells os ty) } ⟨k, oi, d, w.heap.size, os, ty, kd⟩ := by
                        refine ⟨hio, hoal, hkrdy, hod, free_fr hio hofree, fun w' => ?_, ?_, push_eq w _, hlow, fun q row L k1 k2 => Nat.ne_of_lt (hrowlt q row L k1 k2), fun i x hx ho => Nat.ne_of_lt (st.lt hx ho), fun q hq1 => ?_⟩
                        · have hself : execOp (a.put oi.dst (mkV kd w.heap.size)).eval oi = execOp a.eval oi := by
                            refine execOp_put (ops := ops) oi (fun cs b => hsel k oi cs b hio) a oi.dst _ (fun d' hd' => ?_)
                            rw [hod] at hd'
                            injection hd' with hd'
                            rw [← hd']
                            exact hodlt.2
                          rw [hself]
                          exact hlays w'
                        · show (a.put oi.dst (mkV kd w.heap.size)).tmps[d]? = _
                          rw [hod]
                          simp [Act.put, hdlt]
                        · rw [hkeepL] at hq1
                          have := (List.mem_filter.1 hq1).2
                          simpa using this
                      refine ⟨fun e he => ?_, fun e he f hf hne => ?_⟩
                      · rcases List.mem_cons.1 he with rfl | he
                        · exact hent
                        · have h2 := hD.each e he
                          have hne : k ≠ e.i := fun hc => hkD (ids_mem.2 ⟨e, he, hc.symm⟩)
                          obtain ⟨k1, k2⟩ := h2.act hsel (h2.apart hkrdy hio hne) (a' := a.put oi.dst (mkV kd w.heap.size)) (u := mkV kd w.heap.size) rfl rfl rfl
                          have hlt : e.b < w.heap.size := by
                            rcases Nat.lt_or_ge e.b w.heap.size with h3 | h3
                            · exact h3
                            · have := h2.blk
                              rw [Array.getElem?_eq_none h3] at this
                              cases this
                          exact h2.keep (fun _ h => h) h2.rdy k1 k2 (hgrew.block _ hlt) h2.row h2.own (fun q hq1 => h2.pend q (hPsub q hq1))
                      · have hblt : ∀ g ∈ D, g.b < w.heap.size := fun g hg => by
                          rcases Nat.lt_or_ge g.b w.heap.size with h3 | h3
                          · exact h3
                          · have := (hD.each g hg).blk
                            rw [Array.getElem?_eq_none h3] at this
                            cases this
                        rcases List.mem_cons.1 he with rfl | he <;> rcases List.mem_cons.1 hf with rfl | hf
                        · exact absurd rfl hne
                        · exact Ne.symm (Nat.ne_of_lt (hblt f hf))
                        · exact Nat.ne_of_lt (hblt e he)
                        · exact hD.apart e he f hf hne
                    · have : cnt (lm (ids (⟨k, oi, d, w.heap.size, os, ty, kd⟩ :: D)) listed) = cnt ((lm (ids D) listed).setIfInBounds k true) := by rw [hlm2]
                      omega
              exact inner _ Ps D m (Nat.le_refl _) stm hpm hq hDm hc
          · cases h
        · cases h
theorem draw_sound (ok : EnvOk E) (hmix : E.P.follows .mixedOrders = true) {id : Nat} {ops : Array Oper} {Q : Exit → Act → World → Prop} {K : List T → Heap → Option α} {t σ μ β a w} (st : St C μ β t σ a w)
    (h : (bif Region.noSelect ops then hdraw E ops K ops.size (Array.replicate ops.size false) [] t σ else none) = some r)
    (hk : ∀ t' σ' μ' β' a' w', St C μ' β' t' σ' a' w' → K t' σ' = some r → Q .normal a' w') : (Code.region id ops true).wp E.P Q a w := by
  cases hs : Region.noSelect ops with
  | false => rw [hs] at h; cases h
  | true =>
    rw [hs, cond_true] at h
    refine wp_mono (Q := fun e a w => match e with | .normal => Q .normal a w | _ => False) ?_ (fun e a w hq => by cases e <;> first | exact hq | exact hq.elim)
    have h0 : ∀ w1, Grew w w1 → wpAnyL E.P ops (fun e a w => match e with | .normal => Q .normal a w | _ => False) ops.size (Array.replicate ops.size false) [] a w1 := fun w1 hg => by
      have h1 := hdraw_sound (Q := fun e a w => match e with | .normal => Q .normal a w | _ => False) ok (Region.noSelect_spec hs) (fun c a w hh => hh) hk _ (Array.replicate ops.size false) [] [] [] ops.size (st.grew hg) (fun q hq => nomatch hq) (fun q hq => nomatch hq) ⟨(fun e he => nomatch he), (fun e he => nomatch he)⟩ (by
        rw [show ids [] = [] from rfl, lm_nil]
        simp [cnt]) h
      rw [show ids [] = [] from rfl, lm_nil] at h1
      exact h1
    exact wp_region_any hmix (wpAny_of_L _ _ [] _ _ (h0 _ (Grew.drawn w _)))
end
end Go.HM
