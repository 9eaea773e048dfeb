/- What the small machine computes, the model's machine computes. -/
import Derived.Test.YtoakhfnojbmhgaaGreatHMDraw3
set_option linter.unusedSimpArgs false
set_option linter.unusedVariables false
namespace Go.HM

section
variable {α : Type} {E : Env} {o : Oper} {t : List T} {σ : Heap} {r : α} {C : Ctx} {μ : Mu} {β : Nat → Nat} {a : Act} {w : World}
def exOf : Ex → Exit
  | .normal => .normal
  | .exit i => .exit i
  | .ret => .ret

theorem pick_get {ks : List Nat} {t : List T} (i : Nat) : (pick ks t)[i]? = (ks[i]?).map fun k => (t[k]?).getD .bot := by
  simp [pick]

theorem unpick_length (n : Nat) : ∀ (ks : List Nat) (xs : List T), (unpick n ks xs).length = n
  | [], _ => by simp [unpick]
  | _ :: _, [] => by simp [unpick]
  | k :: ks, x :: xs => by simp [unpick, unpick_length n ks xs]

theorem unpick_get (n : Nat) : ∀ (ks : List Nat) (xs : List T) (i : Nat) x, (unpick n ks xs)[i]? = some x → x = .bot ∨ ∃ j : Nat, ks[j]? = some i ∧ xs[j]? = some x
  | [], _, i, x, h => by
    left
    simp [unpick, List.getElem?_replicate] at h
    exact h.2.symm
  | _ :: _, [], i, x, h => by
    left
    simp [unpick, List.getElem?_replicate] at h
    exact h.2.symm
  | k :: ks, y :: xs, i, x, h => by
    simp only [unpick, List.getElem?_set] at h
    split at h
    · rename_i he
      split at h
      · injection h with h
        exact .inr ⟨0, by simp [he], by simp [h]⟩
      · cases h
    · rcases unpick_get n ks xs i x h with h1 | ⟨j, h1, h2⟩
      · exact .inl h1
      · exact .inr ⟨j + 1, by simpa using h1, by simpa using h2⟩

/-- What is picked and put back is what was, or nothing is known of it. -/
theorem St.picked (st : St C μ β t σ a w) (ks : List Nat) : St C μ β (unpick t.length ks (pick ks t)) σ a w := by
  refine st.weaken (unpick_length _ _ _) (fun i x hx => ?_)
  rcases unpick_get _ _ _ _ _ hx with h | ⟨j, h1, h2⟩
  · exact .inl h
  · rw [pick_get, h1] at h2
    simp at h2
    cases ht : t[i]? with
    | none => rw [ht] at h2; simp at h2; exact .inl h2.symm
    | some z => rw [ht] at h2; simp at h2; exact .inr (by rw [h2])
end

/-- A round, and the loop again. -/
theorem wp_loop_again {P : Program} {c : Code} {Q : Exit → Act → World → Prop} (n : Nat) (R : Nat → Act → World → Prop) (h0 : ∀ a w, ¬ R 0 a w)
    (round : ∀ n a w, R (n + 1) a w → c.wp P (Exit.then (R n) Q) a w) : ∀ a w, R n a w → (Code.loop c).wp P Q a w := by
  intro a w hr b k cs
  have key : ∀ n a w, R n a w → ∃ e a' w', Q e a' w' ∧ Arrives P (lone (b.at a (.code c :: .inLoop c :: k)) cs w) b k cs e a' w' := by
    intro n
    induction n with
    | zero => intro a w h; exact absurd h (h0 a w)
    | succ n ih =>
      intro a w h
      obtain ⟨e, a₁, w₁, hq, harr⟩ := round n a w h b (.inLoop c :: k) cs
      cases e with
      | normal =>
        obtain ⟨e₂, a₂, w₂, hq₂, harr₂⟩ := ih a₁ w₁ hq
        exact ⟨e₂, a₂, w₂, hq₂, .of_steps (Steps.trans harr (.one step_inLoop)) harr₂⟩
      | exit id => exact ⟨_, a₁, w₁, hq, .pass (x := .inLoop c) rfl (fun _ _ => .inl (by simp)) harr⟩
      | goto l => exact ⟨_, a₁, w₁, hq, .pass (x := .inLoop c) rfl (fun _ _ => .inl (by simp)) harr⟩
      | ret => exact ⟨_, a₁, w₁, hq, .pass (x := .inLoop c) rfl (fun _ _ => .inl (by simp)) harr⟩
      | panic ch => exact ⟨_, a₁, w₁, hq, .pass (x := .inLoop c) rfl (fun _ _ => .inl (by simp)) harr⟩
      | outgrown => exact ⟨_, a₁, w₁, hq, .pass (x := .inLoop c) rfl (fun _ _ => .inl (by simp)) harr⟩
  obtain ⟨e, a', w', hq, harr⟩ := key n a w hr
  exact ⟨e, a', w', hq, .of_steps (.one step_loop) harr⟩

theorem hx_sound {E : Env} (ok : EnvOk E) (hmix : E.P.follows .mixedOrders = true) {C : Ctx} (k n : Nat) : ∀ (c : Code) (cur : Nat) {α : Type} {K : Ex → List T → Heap → Option α} {r : α} {t σ μ β a w}, C.n = n → St C μ β t σ a w → hx E k n c cur K t σ = some r →
    ∀ {Q : Exit → Act → World → Prop}, (∀ e t' σ' μ' β' a' w', St C μ' β' t' σ' a' w' → K e t' σ' = some r → Q (exOf e) a' w') → c.wp E.P Q a w := by
  intro c
  induction c with
  | skip => intro cur α K r t σ μ β a w hn st h Q hk; exact wp_skip (hk .normal _ _ _ _ _ _ st h)
  | exit id => intro cur α K r t σ μ β a w hn st h Q hk; exact wp_exit (hk (.exit id) _ _ _ _ _ _ st h)
  | ret => intro cur α K r t σ μ β a w hn st h Q hk; exact wp_ret (hk .ret _ _ _ _ _ _ st h)
  | seq x y ihx ihy =>
    intro cur α K r t σ μ β a w hn st h Q hk
    refine wp_seq (ihx cur hn st h (fun e t' σ' μ' β' a' w' st' h' => ?_))
    cases e with
    | normal => exact ihy cur hn st' h' hk
    | exit id => exact hk (.exit id) _ _ _ _ _ _ st' h'
    | ret => exact hk .ret _ _ _ _ _ _ st' h'
  | cond c x y ihx ihy =>
    intro cur α K r t σ μ β a w hn st h Q hk
    obtain ⟨v, h1, rv⟩ := evV_some st h
    obtain ⟨b, rfl, h2⟩ := castBool_some h1
    refine wp_cond (rel_bool rv) ?_
    cases b with
    | true => exact ihx cur hn st h2 hk
    | false => exact ihy cur hn st h2 hk
  | block id c ih =>
    intro cur α K r t σ μ β a w hn st h Q hk
    refine wp_block (ih id hn st h (fun e t' σ' μ' β' a' w' st' h' => ?_))
    cases e with
    | normal => exact hk .normal _ _ _ _ _ _ st' h'
    | ret => exact hk .ret _ _ _ _ _ _ st' h'
    | exit j =>
      simp only at h'
      show Exit.inBlock id Q (.exit j) a' w'
      unfold Exit.inBlock
      by_cases hj : j = id
      · rw [if_pos hj] at h'
        simp only [if_pos hj]
        exact hk .normal _ _ _ _ _ _ st' h'
      · rw [if_neg hj] at h'
        simp only [if_neg hj]
        exact hk (.exit j) _ _ _ _ _ _ st' h'
  | loop c ih =>
    intro cur α K r t σ μ β a w hn st h Q hk
    simp only [hx] at h
    obtain ⟨q, hq, h1⟩ := Option.bind_eq_some_iff.1 h
    obtain ⟨e0, vals0, σ0⟩ := q
    refine wp_loop_again (Q := Q) k (fun m a w => ∃ μ β vals σ, St C μ β (unpick n (E.msk cur).1 vals) σ a w ∧ hloop (hx E k n c cur) n (E.msk cur).1 (E.msk cur).2 m vals σ = some (e0, vals0, σ0)) ?_ ?_ a w
      ⟨μ, β, _, σ, by rw [← hn, ← st.len]; exact st.picked _, hq⟩
    · rintro a w ⟨μ, β, vals, σ, _, h0⟩
      simp [hloop] at h0
    · rintro m a w ⟨μ, β, vals, σ, st1, h2⟩
      rw [hloop] at h2
      refine ih cur hn st1 h2 (fun e t' σ' μ' β' a' w' st' h' => ?_)
      cases e with
      | normal => exact ⟨μ', β', _, σ', by rw [← hn, ← st'.len]; exact st'.picked _, h'⟩
      | exit j =>
        simp only [Option.some.injEq, Prod.mk.injEq] at h'
        obtain ⟨rfl, rfl, rfl⟩ := h'
        exact hk (.exit j) _ _ _ _ _ _ (st'.picked (E.msk cur).2) (by rw [st'.len, hn]; exact h1)
      | ret =>
        simp only [Option.some.injEq, Prod.mk.injEq] at h'
        obtain ⟨rfl, rfl, rfl⟩ := h'
        exact hk .ret _ _ _ _ _ _ (st'.picked (E.msk cur).2) (by rw [st'.len, hn]; exact h1)
  | region id ops dr =>
    intro cur α K r t σ μ β a w hn st h Q hk
    cases dr with
    | false => exact region_sound ok st h (fun t' σ' μ' β' a' w' st' h' => hk .normal _ _ _ _ _ _ st' h')
    | true => exact draw_sound ok hmix st h (fun t' σ' μ' β' a' w' st' h' => hk .normal _ _ _ _ _ _ st' h')
  | _ => intro cur α K r t σ μ β a w hn st h Q hk; simp [hx] at h

section
variable {C : Ctx} {μ : Mu} {β : Nat → Nat} {t : List T} {σ : Heap} {a : Act} {w : World}
theorem hread_some {P : Program} (st : St C μ β t σ a w) {ty : TypeId} {x : Operand} {v : V} (h : hread P t σ ty x = some v) : ∃ y, (do loadVar ty (← asAddr (a.eval x)) : Sem Value).run P w = .ok y w ∧ Rel μ v y := by
  unfold hread at h
  obtain ⟨ag, hag0, h0⟩ := Option.bind_eq_some_iff.1 h
  have hag := aggOf_run hag0
  obtain ⟨ii, hi⟩ := aggOf_info hag0
  have hn : nsize P ty = ii.size := nsize_of hi
  rcases evP_some st h0 with ⟨d, off, cs, h1, h2, h3, h4, hev⟩ | ⟨q, off, L, h1, h2, h3, hev⟩
  · rw [h2] at h1
    obtain ⟨y0, hy0, hbox⟩ := st.tmps d _ h2
    have hat := hbox.2
    cases ag with
    | true =>
      simp only [cond_true] at h1
      split at h1
      · rename_i hle
        injection h1 with h1
        subst h1
        obtain ⟨ys, hl, hr, hc⟩ := hat.range off _ hle
        rw [Nat.zero_add] at hc
        exact ⟨.agg ys.toArray, by simp [h3, asAddr, run_loadVar_agg hag hi (by rw [hl, hn]) hc], RelC.agg (by simpa using hr)⟩
      · cases h1
    | false =>
      simp only [cond_false] at h1
      obtain ⟨y, hy, hr, _⟩ := hat.cellAt h1
      rw [Nat.zero_add] at hy
      exact ⟨y, by simp [h3, asAddr, loadVar, hag, hy], hr⟩
  · cases ag with
    | true =>
      simp only [cond_true] at h1
      obtain ⟨cs, hcs, h1⟩ := Option.bind_eq_some_iff.1 h1
      injection h1 with h1
      subst h1
      obtain ⟨row, hrow, hle, rfl⟩ := rdc_some hcs
      obtain ⟨_, hat, _⟩ := st.base.sim.row hrow h2
      obtain ⟨ys, hl, hr, hc⟩ := hat.range off _ hle
      exact ⟨.agg ys.toArray, by simp [h3, asAddr, run_loadVar_agg hag hi (by rw [hl, hn]) hc], RelC.agg (by simpa using hr)⟩
    | false =>
      simp only [cond_false] at h1
      obtain ⟨cs, hcs, h1⟩ := Option.bind_eq_some_iff.1 h1
      obtain ⟨row, hrow, hle, rfl⟩ := rdc_some hcs
      obtain ⟨_, hat, _⟩ := st.base.sim.row hrow h2
      have hlt : off < row.cells.length := by omega
      rw [take1 _ _ hlt] at h1
      simp at h1
      subst h1
      obtain ⟨y, hy, hr, _⟩ := hat.cellAt (List.getElem?_eq_getElem hlt)
      exact ⟨y, by simp [h3, asAddr, loadVar, hag, hy], hr⟩

theorem hresL_some {P : Program} (st : St C μ β t σ a w) : ∀ {rs : List ResultVar} {xs : List V}, hresL P t σ rs = some xs →
    ∃ ys : List Value, (rs.mapM fun | .tmp t => pure (a.tmps.getD t undef) | .cell x ty => do loadVar ty (← asAddr (a.tmps.getD x undef)) : Sem (List Value)).run P w = .ok ys w ∧ Rels μ xs ys
  | [], xs, h => by
    simp [hresL] at h
    subst h
    exact ⟨[], rfl, rfl, fun i x y hx => by simp at hx⟩
  | .tmp i :: rs, xs, h => by
    simp only [hresL] at h
    obtain ⟨x, h1, rx⟩ := evV_some st h
    obtain ⟨l, h2, h3⟩ := Option.bind_eq_some_iff.1 h1
    injection h3 with h3
    subst h3
    obtain ⟨ys, h4, h5, h6⟩ := hresL_some (P := P) st h2
    refine ⟨a.eval (.tmp i) :: ys, ?_, by simp [h5], fun j u v hu hv => ?_⟩
    · rw [List.mapM_cons]
      simp only [Sem.run_bind, Sem.run_pure, Result.andThen_ok, h4]
      rfl
    · cases j with
      | zero => simp at hu hv; subst hu hv; exact rx
      | succ j => exact h6 j u v (by simpa using hu) (by simpa using hv)
  | .cell i ty :: rs, xs, h => by
    simp only [hresL] at h
    obtain ⟨x, h1, h2⟩ := Option.bind_eq_some_iff.1 h
    obtain ⟨y, hy, rx⟩ := hread_some (P := P) st h1
    obtain ⟨l, h20, h3⟩ := Option.bind_eq_some_iff.1 h2
    injection h3 with h3
    subst h3
    obtain ⟨ys, h4, h5, h6⟩ := hresL_some (P := P) st h20
    refine ⟨y :: ys, ?_, by simp [h5], fun j u v hu hv => ?_⟩
    · rw [List.mapM_cons]
      have hy' : (do loadVar ty (← asAddr (a.tmps.getD i undef)) : Sem Value).run P w = .ok y w := hy
      rw [Sem.run_bind, hy', Result.andThen_ok, Sem.run_bind, h4]
      rfl
    · cases j with
      | zero => simp at hu hv; subst hu hv; exact rx
      | succ j => exact h6 j u v (by simpa using hu) (by simpa using hv)

theorem hresults_some {P : Program} (st : St C μ β t σ a w) {fn : Func} {v : V} (h : hresults P fn t σ = some v) : ∃ y, (results fn a.tmps).run P w = .ok y w ∧ Rel μ v y := by
  unfold hresults at h
  obtain ⟨xs, h1, h2⟩ := Option.bind_eq_some_iff.1 h
  obtain ⟨ys, h3, h4, h5⟩ := hresL_some (P := P) st h1
  have hrun : (results fn a.tmps).run P w = .ok (if h : ys.toArray.size = 1 then ys.toArray[0] else .tuple ys.toArray) w := by
    unfold results
    rw [Array.mapM_eq_mapM_toList, Sem.run_bind, Sem.run_map]
    exact congrArg (fun r : Result (List Value) => (r.andThen (fun a w' => Result.ok a.toArray w')).andThen (fun a w' => Sem.run P (pure (if h : a.size = 1 then a[0] else .tuple a)) w')) h3
  refine ⟨_, hrun, ?_⟩
  split at h2
  · rename_i x
    injection h2 with h2
    subst h2
    match ys, h4, h5 with
    | [y], _, h5 => exact h5 0 _ _ rfl rfl
    | [], h4, _ => simp at h4
    | _ :: _ :: _, h4, _ => simp at h4
  · rename_i hne
    injection h2 with h2
    subst h2
    have : ¬ ys.toArray.size = 1 := by
      intro h1
      simp at h1
      match xs, h4, hne with
      | [x], _, hne => exact hne x rfl
      | [], h4, _ => simp at h4; omega
      | _ :: _ :: _, h4, _ => simp at h4; omega
    rw [dif_neg this]
    exact Rel.tuple (by simpa using h4) (fun i x y hx hy => h5 i x y hx (by simpa using hy))
end

/-- What is known of the program, and of what is called by a contract. -/
structure GlobOk (G : Glob) : Prop where
  mixed : G.P.follows .mixedOrders = true
  names : ∀ (f : Nat) fn, G.P.funcs[f]? = some fn → fn.body.isSome = true → (fn.name == "runtime.NumGoroutine") = false
  hook : ∀ f h, G.hook f = some h → ∀ args σ v σ', h args σ = some (v, σ') → ∀ μ w (vs : Array Value), Sim μ σ w → Rels μ args vs.toList →
    (callFunc f vs).run G.P w = .ok (.enter f vs) w ∧ Calls G.P f vs w (Post ⟨w, σ, μ, 0⟩ v σ')

theorem Base.zero {w w' : World} {σ σ' : Heap} {μ μ' : Mu} {n : Nat} (h : Base ⟨w, σ, μ, n⟩ μ' σ' w') : Base ⟨w, σ, μ, 0⟩ μ' σ' w' where
  sim := h.sim
  keep := ⟨h.keep.os, h.keep.tape, h.keep.output, h.keep.size, h.keep.block⟩
  le := h.le
  okb := h.okb

theorem hcall_sound {G : Glob} (ok : GlobOk G) : ∀ k f args σ v σ', hcall G k f args σ = some (v, σ') → ∀ μ w (vs : Array Value), Sim μ σ w → Rels μ args vs.toList →
    (callFunc f vs).run G.P w = .ok (.enter f vs) w ∧ Calls G.P f vs w (Post ⟨w, σ, μ, 0⟩ v σ') := by
  intro k
  induction k with
  | zero => intro f args σ v σ' h; simp [hcall] at h
  | succ k ih =>
    intro f args σ v σ' h μ w vs hsim hrels
    rw [hcall] at h
    split at h
    · rename_i hk hhook
      exact ok.hook f hk hhook args σ v σ' h μ w vs hsim hrels
    · split at h
      · rename_i fn hf
        split at h
        · cases h
        · rename_i hlen
          split at h
          · rename_i c hc
            have hname := ok.names f fn hf (by simp [hc])
            have hsz : vs.size = args.length := by have := hrels.1; simp at this; omega
            constructor
            · have hname' : ¬ fn.name = "runtime.NumGoroutine" := by simpa using hname
              simp [callFunc, hf, hname', hc]
            · refine calls_of_wp hf hc ?_
              have envok : EnvOk ⟨G.P, hcall G k, G.lo f, G.msk f, G.tyd⟩ := ⟨fun f' args' σ1 v' σ1' h' => ih f' args' σ1 v' σ1' h'⟩
              have st : St ⟨w, σ, μ, fn.ntmps⟩ μ (fun _ => 0) (initT fn.ntmps args) σ { tmps := vs ++ Array.replicate (fn.ntmps - vs.size) undef, defers := [] } w := by
                have hown : ∀ (i : Nat) x, (initT fn.ntmps args)[i]? = some x → x.own = false ∧ ∃ y, (vs ++ Array.replicate (fn.ntmps - vs.size) undef)[i]? = some y ∧ TRel μ (fun _ => 0) (initT fn.ntmps args) i w x y := by
                  intro i x hx
                  unfold initT at hx
                  rcases Nat.lt_or_ge i args.length with hlt | hge
                  · rw [List.getElem?_append_left (by simpa using hlt), List.getElem?_map] at hx
                    obtain ⟨u, hu, rfl⟩ := Option.map_eq_some_iff.1 hx
                    have hi : i < vs.size := by omega
                    refine ⟨rfl, vs[i], by rw [Array.getElem?_append_left hi, Array.getElem?_eq_getElem hi], ?_⟩
                    exact hrels.2 i u _ hu (by simp [hi])
                  · rw [List.getElem?_append_right (by simpa using hge)] at hx
                    simp [List.getElem?_replicate] at hx
                    obtain ⟨h1, rfl⟩ := hx
                    refine ⟨rfl, undef, ?_, trivial⟩
                    rw [Array.getElem?_append_right (by omega), Array.getElem?_replicate, if_pos (by omega)]
                refine ⟨hsim.base _, ?_, fun i x hx => (hown i x hx).2, fun i x hx ho => ?_, fun i j x y hx hy ho => ?_, rfl, ?_⟩
                · simp [initT, hsz]
                · rw [(hown i x hx).1] at ho; cases ho
                · rw [(hown i x hx).1] at ho; cases ho
                · simp [initT]; omega
              refine hx_sound envok ok.mixed k fn.ntmps c 0 rfl st h (fun e t' σ1 μ' β' a' w' st' h' => ?_)
              cases e with
              | exit id => simp at h'
              | normal =>
                obtain ⟨v1, hv1, h2⟩ := Option.bind_eq_some_iff.1 h'
                injection h2 with h2
                injection h2 with h2 h3
                subst h2 h3
                obtain ⟨y, hy, hr⟩ := hresults_some (P := G.P) st' hv1
                exact ⟨st'.defers, y, hy, μ', st'.base.zero, hr⟩
              | ret =>
                obtain ⟨v1, hv1, h2⟩ := Option.bind_eq_some_iff.1 h'
                injection h2 with h2
                injection h2 with h2 h3
                subst h2 h3
                obtain ⟨y, hy, hr⟩ := hresults_some (P := G.P) st' hv1
                exact ⟨st'.defers, y, hy, μ', st'.base.zero, hr⟩
          · cases h
      · cases h
end Go.HM
