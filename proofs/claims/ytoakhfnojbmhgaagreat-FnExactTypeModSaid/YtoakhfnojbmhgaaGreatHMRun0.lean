/- What the small machine computes, the model's machine computes. -/
import Derived.Test.YtoakhfnojbmhgaaGreatHMOps5
set_option linter.unusedSimpArgs false
set_option linter.unusedVariables false
namespace Go.HM

section
variable {α : Type} {E : Env} {o : Oper} {t : List T} {σ : Heap} {r : α} {C : Ctx} {μ : Mu} {β : Nat → Nat} {a : Act} {w : World}

theorem hop_pure {K : List T → Heap → Option α} (hp : isPR E.P o = true) (hl : loadOf o = none) {S : World → Prop} (st : St C μ β t σ a w) (h : hop E o t σ K = some r) : PureStep E o t σ μ β K r a w S := by
  cases ho : o.op with
  | move x => exact pure_move st (.inl ho) h
  | assign x => exact pure_move st (.inr ho) h
  | pick c x y => exact pure_pick st ho h
  | build ty ps => exact pure_build st ho h
  | load ty x => simp [loadOf, ho] at hl
  | nilCheck x => exact pure_nilCheck st ho h
  | binOp op ty x y ty2 => exact pure_binOp st ho h
  | unOp op ty x =>
    cases op with
    | not => exact pure_unOp st ho h
    | neg => exact pure_neg st ho h
    | _ => simp [hop, ho] at h
  | convert src dst x => exact pure_convert st ho (by simpa [isPR, ho] using hp) h
  | makeInterface ty x => exact pure_makeInterface st ho h
  | makeFunc fn first captured =>
    cases fn with
    | func f => exact pure_makeFunc st ho h
    | _ => simp [hop, ho] at h
  | slice ty x lo hi mx =>
    cases mx with
    | none => exact pure_slice st ho h
    | some m => simp [hop, ho] at h
  | fieldAddr ty x i => exact pure_fieldAddr st ho h
  | field ty x i => exact pure_field st ho h
  | indexAddr ty x i => exact pure_indexAddr st ho h
  | index ty x i => exact pure_index st ho h
  | extract x i => exact pure_extract st ho h
  | call c =>
    obtain ⟨callee, args, ats⟩ := c
    cases callee with
    | builtin b =>
      refine pure_builtin st ho (fun hb => ?_) (fun hb => ?_) (by simpa only [hop, ho] using h)
      · subst hb
        simp [isPR, ho] at hp
      · subst hb
        simp [isPR, ho] at hp
    | value f => simp [isPR, ho] at hp
    | invoke x m => simp [isPR, ho] at hp
  | _ => simp [isPR, ho] at hp

theorem hop_sound (ok : EnvOk E) {K : List T → Heap → Option α} {next : Act → World → Prop} {Q : Exit → Act → World → Prop} (st : St C μ β t σ a w) (h : hop E o t σ K = some r) : Goes E o t σ μ β K r C a w next Q := by
  by_cases hp : isPR E.P o = true
  · cases hl : loadOf o with
    | none => exact (hop_pure hp hl (S := fun _ => True) st h).goes st trivial
    | some x =>
      cases ho : o.op with
      | load ty x' =>
        obtain ⟨b, _, h1⟩ := pure_load st ho h
        exact h1.goes st rfl
      | _ => simp [loadOf, ho] at hl
  · cases ho : o.op with
    | alloc ty => exact goes_alloc st ho h
    | box ty x => exact goes_box st ho h
    | buildSlice ty n ps => exact goes_buildSlice st ho h
    | store ty x y => exact goes_store st ho h
    | makeSlice ty l c => exact goes_makeSlice st ho h
    | convert src dst x => exact goes_bytes st ho (by simpa [isPR, ho] using hp) h
    | call c =>
      obtain ⟨callee, args, ats⟩ := c
      cases callee with
      | builtin b =>
        cases b with
        | append => exact goes_append st ho (by simpa only [hop, ho] using h)
        | copy => exact goes_copy st ho (by simpa only [hop, ho] using h)
        | _ => simp [isPR, ho] at hp
      | value f => exact goes_call ok st ho (by simpa only [hop, ho] using h)
      | invoke x m => simp [hop, ho] at h
    | _ => first | (simp [isPR, ho] at hp; done) | (simp [hop, ho] at h)

/-- A temporary's bool, told. -/
theorem St.told (st : St C μ β t σ a w) {d : Nat} {b : Bool} (h : t[d]? = some (.v (.bool b))) : t.set d (.v (.bool b)) = t := by
  apply List.ext_getElem?
  intro i
  rw [List.getElem?_set]
  split
  · rename_i he
    subst he
    have := (List.getElem?_eq_some_iff.1 h).1
    rw [if_pos this, h]
  · rfl

theorem rel_undef : Rel μ (.tuple []) undef := Rel.tuple rfl (fun i x y hx => by simp at hx)

theorem hguard_some (st : St C μ β t σ a w) {ops : Array Oper} {yes no : List T → Option α} (h : hguard ops o t yes no = some r) :
    (Region.wanted o (yielded ops a.tmps) = true ∧ yes t = some r) ∨ (Region.wanted o (yielded ops a.tmps) = false ∧ no t = some r) := by
  unfold hguard at h
  split at h
  · rename_i hg
    exact .inl ⟨by simp [Region.wanted, hg], h⟩
  · rename_i j want hg
    split at h
    · rename_i d hd
      split at h
      · rename_i b hb
        obtain ⟨y, hy, hr⟩ := st.tmps d _ hb
        have hy' : y = .bool b := rel_bool hr
        have hyl : yielded ops a.tmps j = some b := by
          unfold yielded
          rw [hd]
          simp [hy, hy']
        have hset := st.told hb
        have hw : Region.wanted o (yielded ops a.tmps) = (b == want) := by
          simp only [Region.wanted, hg, hyl]
          cases b <;> cases want <;> rfl
        rw [hw]
        cases b <;> cases want <;> simp only [cond_true, cond_false, hset] at h <;> simp [h]
      · rename_i hb
        obtain ⟨y, hy, hr⟩ := st.tmps d _ hb
        have hy' : y = .tuple #[] := by
          have hr' : Rel μ (.tuple []) y := hr
          cases hr' with
          | tuple hl _ =>
            congr 1
            exact Array.eq_empty_of_size_eq_zero (by simpa using hl.symm)
        have hyl : yielded ops a.tmps j = none := by
          unfold yielded
          rw [hd]
          simp [hy, hy']
        have hw : Region.wanted o (yielded ops a.tmps) = false := by
          simp only [Region.wanted, hg, hyl]
          rfl
        exact .inr ⟨hw, h⟩
      · cases h
    · cases h

theorem hops_sound (ok : EnvOk E) {all : Array Oper} {Q : Exit → Act → World → Prop} {K : List T → Heap → Option α} : ∀ (l : List Nat) (os : List Oper), (∀ (i : Nat) k o, l[i]? = some k → os[i]? = some o → all[k]? = some o) → l.length = os.length →
    ∀ {t σ μ β a w}, St C μ β t σ a w → hops E all os K t σ = some r → (∀ t' σ' μ' β' a' w', St C μ' β' t' σ' a' w' → K t' σ' = some r → Q .normal a' w') → wpOps E.P all Q l a w
  | [], [], _, _, t, σ, μ, β, a, w, st, h, hk => hk _ _ _ _ _ _ st h
  | [], _ :: _, _, hl, _, _, _, _, _, _, _, _, _ => by simp at hl
  | _ :: _, [], _, hl, _, _, _, _, _, _, _, _, _ => by simp at hl
  | i :: l, o :: os, hall, hl, t, σ, μ, β, a, w, st, h, hk => by
    have hio : all[i]? = some o := hall 0 i o rfl rfl
    have ih : ∀ {t σ μ β a w}, St C μ β t σ a w → hops E all os K t σ = some r → wpOps E.P all Q l a w := fun st h =>
      hops_sound ok l os (fun j k o hk ho => hall (j + 1) k o (by simpa using hk) (by simpa using ho)) (by simpa using hl) st h hk
    rw [hops] at h
    unfold wpOps
    rw [hio]
    rcases hguard_some st h with ⟨hw, h1⟩ | ⟨hw, h1⟩
    · simp only [hw, if_true]
      exact .inl (hop_sound ok st h1 (fun t' σ' μ' β' a' w' st' _ h' => ih st' h'))
    · simp only [hw, Bool.false_eq_true, if_false]
      exact ih (st.put o.dst undefT undef rfl (rel_undef)) h1

theorem region_sound (ok : EnvOk E) {id : Nat} {ops : Array Oper} {Q : Exit → Act → World → Prop} {K : List T → Heap → Option α} (st : St C μ β t σ a w) (h : hops E ops ops.toList K t σ = some r)
    (hk : ∀ t' σ' μ' β' a' w', St C μ' β' t' σ' a' w' → K t' σ' = some r → Q .normal a' w') : (Code.region id ops false).wp E.P Q a w := by
  refine wp_region (hops_sound ok (List.range ops.size) ops.toList (fun i k o h1 h2 => ?_) (by simp) st h hk)
  have hi : i < ops.size := by
    have := (List.getElem?_eq_some_iff.1 h2).1
    simpa using this
  have hk : k = i := by
    rw [List.getElem?_range hi] at h1
    injection h1 with h1
    exact h1.symm
  subst hk
  simpa using h2
end
end Go.HM
