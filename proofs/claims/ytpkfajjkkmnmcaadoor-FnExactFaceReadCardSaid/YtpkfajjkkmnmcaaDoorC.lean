/- The contracts of the laws' own functions: how long, a copy, whether alike. -/
import Derived.Test.YtpkfajjkkmnmcaaDoorT
import Derived.Test.YtpkfajjkkmnmcaaDoorEF0
import Derived.Test.YtpkfajjkkmnmcaaDoorEF1
namespace Go.R
open Go.HM Go.Proofs
set_option linter.unusedVariables false
set_option linter.unusedSimpArgs false
set_option maxHeartbeats 1000000
theorem eqIntS_loop {σ : Heap} {v v' : V} {l l' : List Int} (hf : l.length ≤ 9223372036854775807) (hll : l'.length = l.length) (h : RepS 1 IntRep σ v l) (h' : RepS 1 IntRep σ v' l') :
    ∀ (d i : Nat), i + d = l.length → ∃ b, (b = true ↔ l.drop i = l'.drop i) ∧ Ev fun k => ∀ m, d < m → (laws_eqIntS.L0 k m [.v v, .v v', .v (.int .i64 i)] σ).bind (laws_eqIntS.A0 k) = some (.bool b, σ)
  | 0, i, hi => ⟨true, by rw [List.drop_eq_nil_of_le (show l.length ≤ i by omega), List.drop_eq_nil_of_le (show l'.length ≤ i by omega)]; simp, Ev.now fun k m hm => by
    obtain ⟨m, rfl⟩ : ∃ j, m = j + 1 := ⟨m - 1, by omega⟩
    rw [laws_eqIntS.L0_step, h.vlen]
    have : ¬ i < l.length := by omega
    simp [this, laws_eqIntS.A0_x0]⟩
  | d + 1, i, hi => by
    have hlt : i < l.length := by omega
    have hlt' : i < l'.length := by omega
    obtain ⟨r, o, hv, cs, hr, hP⟩ := h.at hlt
    obtain ⟨r', o', hv', cs', hr', hP'⟩ := h'.at hlt'
    have hm : l[i] ∈ l := List.getElem_mem hlt
    have hd : l.drop i = l[i] :: l.drop (i + 1) := List.drop_eq_getElem_cons hlt
    have hd' : l'.drop i = l'[i] :: l'.drop (i + 1) := List.drop_eq_getElem_cons hlt'
    generalize l[i] = x at hP hm hd
    generalize l'[i] = y at hP' hd'
    have hw : IntKind.wrap .i64 ((i : Int) + 1) = ((i + 1 : Nat) : Int) := wrap_id (by omega) (by omega)
    obtain ⟨b2, i2, c2⟩ := eqIntS_loop hf hll h h' d (i + 1) (by omega)
    unfold IntRep at hP hP'
    subst hP hP'
    by_cases hxy : x = y
    · refine ⟨b2, ?_, c2.mono fun k e2 m hm => ?_⟩
      · rw [hd, hd', i2, hxy]; simp
      · obtain ⟨m, rfl⟩ : ∃ j, m = j + 1 := ⟨m - 1, by omega⟩
        rw [laws_eqIntS.L0_step, h.vlen]
        simp [hlt, hv, hr, hv', hr', hxy]
        rw [hw]
        exact e2 m (by omega)
    · refine ⟨false, ?_, Ev.now fun k m hm => ?_⟩
      · rw [hd, hd']; simp; intro hc; exact absurd hc hxy
      · obtain ⟨m, rfl⟩ : ∃ j, m = j + 1 := ⟨m - 1, by omega⟩
        rw [laws_eqIntS.L0_step, h.vlen]
        simp [hlt, hv, hr, hv', hr', hxy, laws_eqIntS.A0_ret]
theorem eqIntS_runs {σ : Heap} {v v' : V} {l l' : List Int} (hf : l.length ≤ 9223372036854775807) (h : RepS 1 IntRep σ v l) (h' : RepS 1 IntRep σ v' l') :
    ∃ b, Runs G n_laws_eqIntS [v, v'] σ (.bool b) σ ∧ (b = true ↔ l = l') := by
  by_cases hll : l'.length = l.length
  · obtain ⟨b, i1, c1⟩ := eqIntS_loop hf hll h h' l.length 0 (by omega)
    refine ⟨b, Runs.mk ((Ev.far l.length c1).mono fun k ⟨e1, hk⟩ => ?_), by simpa using i1⟩
    have e2 := e1 k hk
    rw [laws_eqIntS.eq, h.vlen, h'.vlen]
    simp only [Option.bind_some, hll, decide_true, Bool.not_true, cond_false]
    exact e2
  · refine ⟨false, Runs.mk (Ev.now fun k => ?_), by simp; intro hc; rw [hc] at hll; exact hll rfl⟩
    rw [laws_eqIntS.eq, h.vlen, h'.vlen]
    have : ¬ (l.length : Int) = (l'.length : Int) := by omega
    simp [this]
theorem eqFaceSig_runs {σ : Heap} (e e' : FaceSig) (hf : e.Fit) {cs cs' : List V} (hr : FaceSig.Rep σ cs e) (hr' : FaceSig.Rep σ cs' e') : ∃ b, Runs G n_laws_eqFaceSig [.agg cs, .agg cs'] σ (.bool b) σ ∧ (b = true ↔ e = e') := by
  cases hf with
  | mk f0 f1 f2 f3 =>
  cases hr with
  | mk r0 =>
  cases hr' with
  | mk t0 =>
  by_cases nn : ¬ e.name = e'.name
  · refine ⟨false, Runs.mk (Ev.now fun k => ?_), by simp; intro hc; rw [hc] at nn; exact absurd rfl nn⟩
    rw [laws_eqFaceSig.eq]
    simp [nn]
  have q1 := Classical.not_not.1 nn
  clear nn
  obtain ⟨b2, c2, i2⟩ := eqIntS_runs (l := e.args) (l' := e'.args) f1 r0 t0
  by_cases u2 : b2 = false
  · have nn : ¬ e.args = e'.args := fun hc => by have := i2.2 hc; rw [u2] at this; cases this
    subst u2
    refine ⟨false, Runs.mk (Ev.mono c2 fun k e2 => ?_), by simp; intro hc; rw [hc] at nn; exact absurd rfl nn⟩
    rw [laws_eqFaceSig.eq]
    simp [q1, e2]
  have u2' : b2 = true := by cases b2 <;> simp_all
  clear u2
  have q2 := i2.1 u2'
  subst u2'
  by_cases nn : ¬ e.type = e'.type
  · refine ⟨false, Runs.mk (Ev.mono c2 fun k e2 => ?_), by simp; intro hc; rw [hc] at nn; exact absurd rfl nn⟩
    rw [laws_eqFaceSig.eq]
    simp [q1, e2, nn]
  have q3 := Classical.not_not.1 nn
  clear nn
  refine ⟨true, Runs.mk (Ev.mono c2 fun k e2 => ?_), by simp; cases e; cases e'; simp at q1 q2 q3 ⊢; exact ⟨q1, q2, q3⟩⟩
  rw [laws_eqFaceSig.eq]
  simp [q1, e2, q3]
theorem eqFaceSigS_loop {σ : Heap} {v v' : V} {l l' : List FaceSig} (hf : l.length ≤ 9223372036854775807) (hll : l'.length = l.length) (h : RepS 3 (FaceSig.Rep σ) σ v l) (h' : RepS 3 (FaceSig.Rep σ) σ v' l')
    (hx : ∀ x, x ∈ l → ∀ y cs cs', FaceSig.Rep σ cs x → FaceSig.Rep σ cs' y → ∃ b, Runs G n_laws_eqFaceSig [.agg cs, .agg cs'] σ (.bool b) σ ∧ (b = true ↔ x = y)) :
    ∀ (d i : Nat), i + d = l.length → ∃ b, (b = true ↔ l.drop i = l'.drop i) ∧ Ev fun k => ∀ m, d < m → (laws_eqFaceSigS.L0 k m [.v v, .v v', .v (.int .i64 i)] σ).bind (laws_eqFaceSigS.A0 k) = some (.bool b, σ)
  | 0, i, hi => ⟨true, by rw [List.drop_eq_nil_of_le (show l.length ≤ i by omega), List.drop_eq_nil_of_le (show l'.length ≤ i by omega)]; simp, Ev.now fun k m hm => by
    obtain ⟨m, rfl⟩ : ∃ j, m = j + 1 := ⟨m - 1, by omega⟩
    rw [laws_eqFaceSigS.L0_step, h.vlen]
    have : ¬ i < l.length := by omega
    simp [this, laws_eqFaceSigS.A0_x0]⟩
  | d + 1, i, hi => by
    have hlt : i < l.length := by omega
    have hlt' : i < l'.length := by omega
    obtain ⟨r, o, hv, cs, hr, hP⟩ := h.at hlt
    obtain ⟨r', o', hv', cs', hr', hP'⟩ := h'.at hlt'
    have hm : l[i] ∈ l := List.getElem_mem hlt
    have hd : l.drop i = l[i] :: l.drop (i + 1) := List.drop_eq_getElem_cons hlt
    have hd' : l'.drop i = l'[i] :: l'.drop (i + 1) := List.drop_eq_getElem_cons hlt'
    generalize l[i] = x at hP hm hd
    generalize l'[i] = y at hP' hd'
    have hw : IntKind.wrap .i64 ((i : Int) + 1) = ((i + 1 : Nat) : Int) := wrap_id (by omega) (by omega)
    obtain ⟨b2, i2, c2⟩ := eqFaceSigS_loop hf hll h h' hx d (i + 1) (by omega)
    obtain ⟨b1, c1, i1⟩ := hx x hm y cs cs' hP hP'
    cases hP with
    | mk =>
    cases hP' with
    | mk =>
    cases b1 with
    | false =>
      refine ⟨false, ?_, c1.mono fun k e1 m hm => ?_⟩
      · rw [hd, hd']; simp at i1 ⊢; intro hc; exact absurd hc i1
      · obtain ⟨m, rfl⟩ : ∃ j, m = j + 1 := ⟨m - 1, by omega⟩
        rw [laws_eqFaceSigS.L0_step, h.vlen]
        simp [hlt, hv, hr, hv', hr', e1, laws_eqFaceSigS.A0_ret]
    | true =>
      refine ⟨b2, ?_, (c1.and c2).mono fun k ⟨e1, e2⟩ m hm => ?_⟩
      · have hxy : x = y := i1.1 rfl
        rw [hd, hd', i2, hxy]; simp
      · obtain ⟨m, rfl⟩ : ∃ j, m = j + 1 := ⟨m - 1, by omega⟩
        rw [laws_eqFaceSigS.L0_step, h.vlen]
        simp [hlt, hv, hr, hv', hr', e1]
        rw [hw]
        exact e2 m (by omega)
theorem eqFaceSigS_runs {σ : Heap} {v v' : V} {l l' : List FaceSig} (hf : l.length ≤ 9223372036854775807) (h : RepS 3 (FaceSig.Rep σ) σ v l) (h' : RepS 3 (FaceSig.Rep σ) σ v' l')
    (hx : ∀ x, x ∈ l → ∀ y cs cs', FaceSig.Rep σ cs x → FaceSig.Rep σ cs' y → ∃ b, Runs G n_laws_eqFaceSig [.agg cs, .agg cs'] σ (.bool b) σ ∧ (b = true ↔ x = y)) :
    ∃ b, Runs G n_laws_eqFaceSigS [v, v'] σ (.bool b) σ ∧ (b = true ↔ l = l') := by
  by_cases hll : l'.length = l.length
  · obtain ⟨b, i1, c1⟩ := eqFaceSigS_loop hf hll h h' hx l.length 0 (by omega)
    refine ⟨b, Runs.mk ((Ev.far l.length c1).mono fun k ⟨e1, hk⟩ => ?_), by simpa using i1⟩
    have e2 := e1 k hk
    rw [laws_eqFaceSigS.eq, h.vlen, h'.vlen]
    simp only [Option.bind_some, hll, decide_true, Bool.not_true, cond_false]
    exact e2
  · refine ⟨false, Runs.mk (Ev.now fun k => ?_), by simp; intro hc; rw [hc] at hll; exact hll rfl⟩
    rw [laws_eqFaceSigS.eq, h.vlen, h'.vlen]
    have : ¬ (l.length : Int) = (l'.length : Int) := by omega
    simp [this]
end Go.R
