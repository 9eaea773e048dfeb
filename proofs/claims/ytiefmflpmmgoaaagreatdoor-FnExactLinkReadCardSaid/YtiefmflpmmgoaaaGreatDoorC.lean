/- The contracts of the laws' own functions: how long, a copy, whether alike. -/
import Derived.Test.YtiefmflpmmgoaaaGreatDoorT
import Derived.Test.YtiefmflpmmgoaaaGreatDoorEF0
import Derived.Test.YtiefmflpmmgoaaaGreatDoorEF1
import Derived.Test.YtiefmflpmmgoaaaGreatDoorEF2
namespace Go.F
open Go.HM Go.Proofs
set_option linter.unusedVariables false
set_option linter.unusedSimpArgs false
set_option maxHeartbeats 1000000
theorem eqIntS_loop {σ : Heap} {v v' : V} {l l' : List Int} (hf : l.length ≤ 9223372036854775807) (hll : l'.length = l.length) (h : RepS 1 IntRep σ v l) (h' : RepS 1 IntRep σ v' l') :
    ∀ (d i : Nat), i + d = l.length → ∃ b, (b = true ↔ l.drop i = l'.drop i) ∧ Ev fun k => ∀ m, d < m → (laws_eqIntS.L0 k m [.v v, .v v', .v (.int .i64 i)] σ).bind (laws_eqIntS.A0 k) = some (.bool b, σ)
  | 0, i, hi => ⟨true, by rw [List.drop_eq_nil_of_le (show l.length ≤ i by omega), List.drop_eq_nil_of_le (show l'.length ≤ i by omega)]; simp, Ev.now fun k m hm => by
    obtain ⟨m, rfl⟩ : ∃ j, m = j + 1 := ⟨m - 1, by omega⟩
    rw [laws_eqIntS.L0_step, h.vlen]
    have : ¬ i < l.length := by omega
    simp [this, laws_eqIntS.A0_x0]⟩
  | d + 1, i, hi => by
    have hlt : i < l.length := by omega
    have hlt' : i < l'.length := by omega
    obtain ⟨r, o, hv, cs, hr, hP⟩ := h.at hlt
    obtain ⟨r', o', hv', cs', hr', hP'⟩ := h'.at hlt'
    have hm : l[i] ∈ l := List.getElem_mem hlt
    have hd : l.drop i = l[i] :: l.drop (i + 1) := List.drop_eq_getElem_cons hlt
    have hd' : l'.drop i = l'[i] :: l'.drop (i + 1) := List.drop_eq_getElem_cons hlt'
    generalize l[i] = x at hP hm hd
    generalize l'[i] = y at hP' hd'
    have hw : IntKind.wrap .i64 ((i : Int) + 1) = ((i + 1 : Nat) : Int) := wrap_id (by omega) (by omega)
    obtain ⟨b2, i2, c2⟩ := eqIntS_loop hf hll h h' d (i + 1) (by omega)
    unfold IntRep at hP hP'
    subst hP hP'
    by_cases hxy : x = y
    · refine ⟨b2, ?_, c2.mono fun k e2 m hm => ?_⟩
      · rw [hd, hd', i2, hxy]; simp
      · obtain ⟨m, rfl⟩ : ∃ j, m = j + 1 := ⟨m - 1, by omega⟩
        rw [laws_eqIntS.L0_step, h.vlen]
        simp [hlt, hv, hr, hv', hr', hxy]
        rw [hw]
        exact e2 m (by omega)
    · refine ⟨false, ?_, Ev.now fun k m hm => ?_⟩
      · rw [hd, hd']; simp; intro hc; exact absurd hc hxy
      · obtain ⟨m, rfl⟩ : ∃ j, m = j + 1 := ⟨m - 1, by omega⟩
        rw [laws_eqIntS.L0_step, h.vlen]
        simp [hlt, hv, hr, hv', hr', hxy, laws_eqIntS.A0_ret]
theorem eqIntS_runs {σ : Heap} {v v' : V} {l l' : List Int} (hf : l.length ≤ 9223372036854775807) (h : RepS 1 IntRep σ v l) (h' : RepS 1 IntRep σ v' l') :
    ∃ b, Runs G n_laws_eqIntS [v, v'] σ (.bool b) σ ∧ (b = true ↔ l = l') := by
  by_cases hll : l'.length = l.length
  · obtain ⟨b, i1, c1⟩ := eqIntS_loop hf hll h h' l.length 0 (by omega)
    refine ⟨b, Runs.mk ((Ev.far l.length c1).mono fun k ⟨e1, hk⟩ => ?_), by simpa using i1⟩
    have e2 := e1 k hk
    rw [laws_eqIntS.eq, h.vlen, h'.vlen]
    simp only [Option.bind_some, hll, decide_true, Bool.not_true, cond_false]
    exact e2
  · refine ⟨false, Runs.mk (Ev.now fun k => ?_), by simp; intro hc; rw [hc] at hll; exact hll rfl⟩
    rw [laws_eqIntS.eq, h.vlen, h'.vlen]
    have : ¬ (l.length : Int) = (l'.length : Int) := by omega
    simp [this]
theorem eqCodeIns_runs {σ : Heap} (e e' : CodeIns) (hf : e.Fit) {cs cs' : List V} (hr : CodeIns.Rep σ cs e) (hr' : CodeIns.Rep σ cs' e') : ∃ b, Runs G n_laws_eqCodeIns [.agg cs, .agg cs'] σ (.bool b) σ ∧ (b = true ↔ e = e') := by
  cases hf with
  | mk f0 f1 =>
  cases hr with
  | mk =>
  cases hr' with
  | mk =>
  by_cases nn : ¬ e.op = e'.op
  · refine ⟨false, Runs.mk (Ev.now fun k => ?_), by simp; intro hc; rw [hc] at nn; exact absurd rfl nn⟩
    rw [laws_eqCodeIns.eq]
    simp [nn]
  have q1 := Classical.not_not.1 nn
  clear nn
  by_cases nn : ¬ e.a = e'.a
  · refine ⟨false, Runs.mk (Ev.now fun k => ?_), by simp; intro hc; rw [hc] at nn; exact absurd rfl nn⟩
    rw [laws_eqCodeIns.eq]
    simp [q1, nn]
  have q2 := Classical.not_not.1 nn
  clear nn
  refine ⟨true, Runs.mk (Ev.now fun k => ?_), by simp; cases e; cases e'; simp at q1 q2 ⊢; exact ⟨q1, q2⟩⟩
  rw [laws_eqCodeIns.eq]
  simp [q1, q2]
theorem eqCodeInsS_loop {σ : Heap} {v v' : V} {l l' : List CodeIns} (hf : l.length ≤ 9223372036854775807) (hll : l'.length = l.length) (h : RepS 2 (CodeIns.Rep σ) σ v l) (h' : RepS 2 (CodeIns.Rep σ) σ v' l')
    (hx : ∀ x, x ∈ l → ∀ y cs cs', CodeIns.Rep σ cs x → CodeIns.Rep σ cs' y → ∃ b, Runs G n_laws_eqCodeIns [.agg cs, .agg cs'] σ (.bool b) σ ∧ (b = true ↔ x = y)) :
    ∀ (d i : Nat), i + d = l.length → ∃ b, (b = true ↔ l.drop i = l'.drop i) ∧ Ev fun k => ∀ m, d < m → (laws_eqCodeInsS.L0 k m [.v v, .v v', .v (.int .i64 i)] σ).bind (laws_eqCodeInsS.A0 k) = some (.bool b, σ)
  | 0, i, hi => ⟨true, by rw [List.drop_eq_nil_of_le (show l.length ≤ i by omega), List.drop_eq_nil_of_le (show l'.length ≤ i by omega)]; simp, Ev.now fun k m hm => by
    obtain ⟨m, rfl⟩ : ∃ j, m = j + 1 := ⟨m - 1, by omega⟩
    rw [laws_eqCodeInsS.L0_step, h.vlen]
    have : ¬ i < l.length := by omega
    simp [this, laws_eqCodeInsS.A0_x0]⟩
  | d + 1, i, hi => by
    have hlt : i < l.length := by omega
    have hlt' : i < l'.length := by omega
    obtain ⟨r, o, hv, cs, hr, hP⟩ := h.at hlt
    obtain ⟨r', o', hv', cs', hr', hP'⟩ := h'.at hlt'
    have hm : l[i] ∈ l := List.getElem_mem hlt
    have hd : l.drop i = l[i] :: l.drop (i + 1) := List.drop_eq_getElem_cons hlt
    have hd' : l'.drop i = l'[i] :: l'.drop (i + 1) := List.drop_eq_getElem_cons hlt'
    generalize l[i] = x at hP hm hd
    generalize l'[i] = y at hP' hd'
    have hw : IntKind.wrap .i64 ((i : Int) + 1) = ((i + 1 : Nat) : Int) := wrap_id (by omega) (by omega)
    obtain ⟨b2, i2, c2⟩ := eqCodeInsS_loop hf hll h h' hx d (i + 1) (by omega)
    obtain ⟨b1, c1, i1⟩ := hx x hm y cs cs' hP hP'
    cases hP with
    | mk =>
    cases hP' with
    | mk =>
    cases b1 with
    | false =>
      refine ⟨false, ?_, c1.mono fun k e1 m hm => ?_⟩
      · rw [hd, hd']; simp at i1 ⊢; intro hc; exact absurd hc i1
      · obtain ⟨m, rfl⟩ : ∃ j, m = j + 1 := ⟨m - 1, by omega⟩
        rw [laws_eqCodeInsS.L0_step, h.vlen]
        simp [hlt, hv, hr, hv', hr', e1, laws_eqCodeInsS.A0_ret]
    | true =>
      refine ⟨b2, ?_, (c1.and c2).mono fun k ⟨e1, e2⟩ m hm => ?_⟩
      · have hxy : x = y := i1.1 rfl
        rw [hd, hd', i2, hxy]; simp
      · obtain ⟨m, rfl⟩ : ∃ j, m = j + 1 := ⟨m - 1, by omega⟩
        rw [laws_eqCodeInsS.L0_step, h.vlen]
        simp [hlt, hv, hr, hv', hr', e1]
        rw [hw]
        exact e2 m (by omega)
theorem eqCodeInsS_runs {σ : Heap} {v v' : V} {l l' : List CodeIns} (hf : l.length ≤ 9223372036854775807) (h : RepS 2 (CodeIns.Rep σ) σ v l) (h' : RepS 2 (CodeIns.Rep σ) σ v' l')
    (hx : ∀ x, x ∈ l → ∀ y cs cs', CodeIns.Rep σ cs x → CodeIns.Rep σ cs' y → ∃ b, Runs G n_laws_eqCodeIns [.agg cs, .agg cs'] σ (.bool b) σ ∧ (b = true ↔ x = y)) :
    ∃ b, Runs G n_laws_eqCodeInsS [v, v'] σ (.bool b) σ ∧ (b = true ↔ l = l') := by
  by_cases hll : l'.length = l.length
  · obtain ⟨b, i1, c1⟩ := eqCodeInsS_loop hf hll h h' hx l.length 0 (by omega)
    refine ⟨b, Runs.mk ((Ev.far l.length c1).mono fun k ⟨e1, hk⟩ => ?_), by simpa using i1⟩
    have e2 := e1 k hk
    rw [laws_eqCodeInsS.eq, h.vlen, h'.vlen]
    simp only [Option.bind_some, hll, decide_true, Bool.not_true, cond_false]
    exact e2
  · refine ⟨false, Runs.mk (Ev.now fun k => ?_), by simp; intro hc; rw [hc] at hll; exact hll rfl⟩
    rw [laws_eqCodeInsS.eq, h.vlen, h'.vlen]
    have : ¬ (l.length : Int) = (l'.length : Int) := by omega
    simp [this]
theorem eqLinkFun_runs {σ : Heap} (e e' : LinkFun) (hf : e.Fit) {cs cs' : List V} (hr : LinkFun.Rep σ cs e) (hr' : LinkFun.Rep σ cs' e') : ∃ b, Runs G n_laws_eqLinkFun [.agg cs, .agg cs'] σ (.bool b) σ ∧ (b = true ↔ e = e') := by
  cases hf with
  | mk f0 f1 f2 f3 f4 f5 f6 f7 =>
  cases hr with
  | mk r0 r1 =>
  cases hr' with
  | mk t0 t1 =>
  by_cases nn : ¬ e.mod = e'.mod
  · refine ⟨false, Runs.mk (Ev.now fun k => ?_), by simp; intro hc; rw [hc] at nn; exact absurd rfl nn⟩
    rw [laws_eqLinkFun.eq]
    simp [nn]
  have q1 := Classical.not_not.1 nn
  clear nn
  by_cases nn : ¬ e.name = e'.name
  · refine ⟨false, Runs.mk (Ev.now fun k => ?_), by simp; intro hc; rw [hc] at nn; exact absurd rfl nn⟩
    rw [laws_eqLinkFun.eq]
    simp [q1, nn]
  have q2 := Classical.not_not.1 nn
  clear nn
  obtain ⟨b3, c3, i3⟩ := eqIntS_runs (l := e.args) (l' := e'.args) f2 r0 t0
  by_cases u3 : b3 = false
  · have nn : ¬ e.args = e'.args := fun hc => by have := i3.2 hc; rw [u3] at this; cases this
    subst u3
    refine ⟨false, Runs.mk (Ev.mono c3 fun k e3 => ?_), by simp; intro hc; rw [hc] at nn; exact absurd rfl nn⟩
    rw [laws_eqLinkFun.eq]
    simp [q1, q2, e3]
  have u3' : b3 = true := by cases b3 <;> simp_all
  clear u3
  have q3 := i3.1 u3'
  subst u3'
  by_cases nn : ¬ e.type = e'.type
  · refine ⟨false, Runs.mk (Ev.mono c3 fun k e3 => ?_), by simp; intro hc; rw [hc] at nn; exact absurd rfl nn⟩
    rw [laws_eqLinkFun.eq]
    simp [q1, q2, e3, nn]
  have q4 := Classical.not_not.1 nn
  clear nn
  by_cases nn : ¬ e.slots = e'.slots
  · refine ⟨false, Runs.mk (Ev.mono c3 fun k e3 => ?_), by simp; intro hc; rw [hc] at nn; exact absurd rfl nn⟩
    rw [laws_eqLinkFun.eq]
    simp [q1, q2, e3, q4, nn]
  have q5 := Classical.not_not.1 nn
  clear nn
  obtain ⟨b6, c6, i6⟩ := eqCodeInsS_runs (l := e.code) (l' := e'.code) f6 r1 t1 (fun x hx y cs cs' hr hr' => eqCodeIns_runs x y (f7 x hx) hr hr')
  by_cases u6 : b6 = false
  · have nn : ¬ e.code = e'.code := fun hc => by have := i6.2 hc; rw [u6] at this; cases this
    subst u6
    refine ⟨false, Runs.mk (Ev.mono (Ev.and c3 c6) fun k ⟨e3, e6⟩ => ?_), by simp; intro hc; rw [hc] at nn; exact absurd rfl nn⟩
    rw [laws_eqLinkFun.eq]
    simp [q1, q2, e3, q4, q5, e6]
  have u6' : b6 = true := by cases b6 <;> simp_all
  clear u6
  have q6 := i6.1 u6'
  subst u6'
  refine ⟨true, Runs.mk (Ev.mono (Ev.and c3 c6) fun k ⟨e3, e6⟩ => ?_), by simp; cases e; cases e'; simp at q1 q2 q3 q4 q5 q6 ⊢; exact ⟨q1, q2, q3, q4, q5, q6⟩⟩
  rw [laws_eqLinkFun.eq]
  simp [q1, q2, e3, q4, q5, e6]
theorem eqLinkFunS_loop {σ : Heap} {v v' : V} {l l' : List LinkFun} (hf : l.length ≤ 9223372036854775807) (hll : l'.length = l.length) (h : RepS 6 (LinkFun.Rep σ) σ v l) (h' : RepS 6 (LinkFun.Rep σ) σ v' l')
    (hx : ∀ x, x ∈ l → ∀ y cs cs', LinkFun.Rep σ cs x → LinkFun.Rep σ cs' y → ∃ b, Runs G n_laws_eqLinkFun [.agg cs, .agg cs'] σ (.bool b) σ ∧ (b = true ↔ x = y)) :
    ∀ (d i : Nat), i + d = l.length → ∃ b, (b = true ↔ l.drop i = l'.drop i) ∧ Ev fun k => ∀ m, d < m → (laws_eqLinkFunS.L0 k m [.v v, .v v', .v (.int .i64 i)] σ).bind (laws_eqLinkFunS.A0 k) = some (.bool b, σ)
  | 0, i, hi => ⟨true, by rw [List.drop_eq_nil_of_le (show l.length ≤ i by omega), List.drop_eq_nil_of_le (show l'.length ≤ i by omega)]; simp, Ev.now fun k m hm => by
    obtain ⟨m, rfl⟩ : ∃ j, m = j + 1 := ⟨m - 1, by omega⟩
    rw [laws_eqLinkFunS.L0_step, h.vlen]
    have : ¬ i < l.length := by omega
    simp [this, laws_eqLinkFunS.A0_x0]⟩
  | d + 1, i, hi => by
    have hlt : i < l.length := by omega
    have hlt' : i < l'.length := by omega
    obtain ⟨r, o, hv, cs, hr, hP⟩ := h.at hlt
    obtain ⟨r', o', hv', cs', hr', hP'⟩ := h'.at hlt'
    have hm : l[i] ∈ l := List.getElem_mem hlt
    have hd : l.drop i = l[i] :: l.drop (i + 1) := List.drop_eq_getElem_cons hlt
    have hd' : l'.drop i = l'[i] :: l'.drop (i + 1) := List.drop_eq_getElem_cons hlt'
    generalize l[i] = x at hP hm hd
    generalize l'[i] = y at hP' hd'
    have hw : IntKind.wrap .i64 ((i : Int) + 1) = ((i + 1 : Nat) : Int) := wrap_id (by omega) (by omega)
    obtain ⟨b2, i2, c2⟩ := eqLinkFunS_loop hf hll h h' hx d (i + 1) (by omega)
    obtain ⟨b1, c1, i1⟩ := hx x hm y cs cs' hP hP'
    cases hP with
    | mk =>
    cases hP' with
    | mk =>
    cases b1 with
    | false =>
      refine ⟨false, ?_, c1.mono fun k e1 m hm => ?_⟩
      · rw [hd, hd']; simp at i1 ⊢; intro hc; exact absurd hc i1
      · obtain ⟨m, rfl⟩ : ∃ j, m = j + 1 := ⟨m - 1, by omega⟩
        rw [laws_eqLinkFunS.L0_step, h.vlen]
        simp [hlt, hv, hr, hv', hr', e1, laws_eqLinkFunS.A0_ret]
    | true =>
      refine ⟨b2, ?_, (c1.and c2).mono fun k ⟨e1, e2⟩ m hm => ?_⟩
      · have hxy : x = y := i1.1 rfl
        rw [hd, hd', i2, hxy]; simp
      · obtain ⟨m, rfl⟩ : ∃ j, m = j + 1 := ⟨m - 1, by omega⟩
        rw [laws_eqLinkFunS.L0_step, h.vlen]
        simp [hlt, hv, hr, hv', hr', e1]
        rw [hw]
        exact e2 m (by omega)
theorem eqLinkFunS_runs {σ : Heap} {v v' : V} {l l' : List LinkFun} (hf : l.length ≤ 9223372036854775807) (h : RepS 6 (LinkFun.Rep σ) σ v l) (h' : RepS 6 (LinkFun.Rep σ) σ v' l')
    (hx : ∀ x, x ∈ l → ∀ y cs cs', LinkFun.Rep σ cs x → LinkFun.Rep σ cs' y → ∃ b, Runs G n_laws_eqLinkFun [.agg cs, .agg cs'] σ (.bool b) σ ∧ (b = true ↔ x = y)) :
    ∃ b, Runs G n_laws_eqLinkFunS [v, v'] σ (.bool b) σ ∧ (b = true ↔ l = l') := by
  by_cases hll : l'.length = l.length
  · obtain ⟨b, i1, c1⟩ := eqLinkFunS_loop hf hll h h' hx l.length 0 (by omega)
    refine ⟨b, Runs.mk ((Ev.far l.length c1).mono fun k ⟨e1, hk⟩ => ?_), by simpa using i1⟩
    have e2 := e1 k hk
    rw [laws_eqLinkFunS.eq, h.vlen, h'.vlen]
    simp only [Option.bind_some, hll, decide_true, Bool.not_true, cond_false]
    exact e2
  · refine ⟨false, Runs.mk (Ev.now fun k => ?_), by simp; intro hc; rw [hc] at hll; exact hll rfl⟩
    rw [laws_eqLinkFunS.eq, h.vlen, h'.vlen]
    have : ¬ (l.length : Int) = (l'.length : Int) := by omega
    simp [this]
theorem eqLinkImage_runs {σ : Heap} (e e' : LinkImage) (hf : e.Fit) {cs cs' : List V} (hr : LinkImage.Rep σ cs e) (hr' : LinkImage.Rep σ cs' e') : ∃ b, Runs G n_laws_eqLinkImage [.agg cs, .agg cs'] σ (.bool b) σ ∧ (b = true ↔ e = e') := by
  cases hf with
  | mk f0 f1 f2 f3 =>
  cases hr with
  | mk r0 r1 =>
  cases hr' with
  | mk t0 t1 =>
  obtain ⟨b1, c1, i1⟩ := eqLinkFunS_runs (l := e.funs) (l' := e'.funs) f0 r0 t0 (fun x hx y cs cs' hr hr' => eqLinkFun_runs x y (f1 x hx) hr hr')
  by_cases u1 : b1 = false
  · have nn : ¬ e.funs = e'.funs := fun hc => by have := i1.2 hc; rw [u1] at this; cases this
    subst u1
    refine ⟨false, Runs.mk (Ev.mono c1 fun k e1 => ?_), by simp; intro hc; rw [hc] at nn; exact absurd rfl nn⟩
    rw [laws_eqLinkImage.eq]
    simp [e1]
  have u1' : b1 = true := by cases b1 <;> simp_all
  clear u1
  have q1 := i1.1 u1'
  subst u1'
  obtain ⟨b2, c2, i2⟩ := eqIntS_runs (l := e.mains) (l' := e'.mains) f2 r1 t1
  by_cases u2 : b2 = false
  · have nn : ¬ e.mains = e'.mains := fun hc => by have := i2.2 hc; rw [u2] at this; cases this
    subst u2
    refine ⟨false, Runs.mk (Ev.mono (Ev.and c1 c2) fun k ⟨e1, e2⟩ => ?_), by simp; intro hc; rw [hc] at nn; exact absurd rfl nn⟩
    rw [laws_eqLinkImage.eq]
    simp [e1, e2]
  have u2' : b2 = true := by cases b2 <;> simp_all
  clear u2
  have q2 := i2.1 u2'
  subst u2'
  refine ⟨true, Runs.mk (Ev.mono (Ev.and c1 c2) fun k ⟨e1, e2⟩ => ?_), by simp; cases e; cases e'; simp at q1 q2 ⊢; exact ⟨q1, q2⟩⟩
  rw [laws_eqLinkImage.eq]
  simp [e1, e2]
end Go.F
