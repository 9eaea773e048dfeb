/- The contracts of the laws' own functions: how long, a copy, whether alike. -/
import Derived.Test.YtoakhfnojbmhgaaGreatT
import Derived.Test.YtoakhfnojbmhgaaGreatEF0
import Derived.Test.YtoakhfnojbmhgaaGreatEF1
import Derived.Test.YtoakhfnojbmhgaaGreatEF2
import Derived.Test.YtoakhfnojbmhgaaGreatEF3
import Derived.Test.YtoakhfnojbmhgaaGreatEF4
namespace Go.G
open Go.HM Go.Proofs
set_option linter.unusedVariables false
set_option linter.unusedSimpArgs false
set_option maxHeartbeats 1000000
theorem szStringS_loop {σ : Heap} {v : V} {l : List ByteArray} (hf : l.length ≤ 9223372036854775807) (h : RepS 1 StrRep σ v l)
    (hx : ∀ x, x ∈ l → x.size ≤ 9223372036854775807) :
    ∀ (d i : Nat) (b : Int), i + d = l.length → 0 ≤ b → b ≤ 1099511627776 → Ev fun k => ∀ m, d < m →
      (laws_szStringS.L0 k m [.v v, .v (.int .i64 b), .v (.int .i64 i)] σ).bind (laws_szStringS.A0 k) = some (.int .i64 (sub b (totS ByteArray.size (l.drop i))), σ)
  | 0, i, b, hi, h0, h1 => Ev.now fun k m hm => by
    obtain ⟨m, rfl⟩ : ∃ j, m = j + 1 := ⟨m - 1, by omega⟩
    rw [laws_szStringS.L0_step, h.vlen]
    have : ¬ i < l.length := by omega
    simp [this, laws_szStringS.A0_x0, List.drop_eq_nil_of_le (show l.length ≤ i by omega), totS, sub]
    omega
  | d + 1, i, b, hi, h0, h1 => by
    have hlt : i < l.length := by omega
    obtain ⟨r, o, hv, cs, hr, hP⟩ := h.at hlt
    have hm : l[i] ∈ l := List.getElem_mem hlt
    have hc := hx _ hm
    have hd : l.drop i = l[i] :: l.drop (i + 1) := List.drop_eq_getElem_cons hlt
    generalize l[i] = x at hP hm hc hd
    obtain ⟨c, hcx⟩ : ∃ c, c = sub b x.size := ⟨_, rfl⟩
    unfold StrRep at hP
    subst hP
    have hw0 : IntKind.wrap .i64 (b - (x.size : Int)) = b - (x.size : Int) := wrap_id (by omega) (by omega)
    have hsc := sub_cases b x.size
    rw [← hcx] at hsc
    have hw : IntKind.wrap .i64 ((i : Int) + 1) = ((i + 1 : Nat) : Int) := wrap_id (by omega) (by omega)
    by_cases hneg : c < 0
    · refine Ev.now fun k m hm => ?_
      obtain ⟨m, rfl⟩ : ∃ j, m = j + 1 := ⟨m - 1, by omega⟩
      rw [laws_szStringS.L0_step, h.vlen]
      have hlt0 : b - (x.size : Int) < 0 := by omega
      have hres : sub b (x.size + totS ByteArray.size (l.drop (i + 1))) = -1 := by rw [← sub_add, ← hcx, if_pos hneg]
      simp [hlt, hv, hr, hw0, hlt0, laws_szStringS.A0_ret, hd, totS, hres]
    · have hres : sub b (x.size + totS ByteArray.size (l.drop (i + 1))) = sub c (totS ByteArray.size (l.drop (i + 1))) := by rw [← sub_add, ← hcx, if_neg hneg]
      refine Ev.mono (szStringS_loop hf h hx d (i + 1) c (by omega) (by omega) (by omega)) fun k e2 m hm => ?_
      obtain ⟨m, rfl⟩ : ∃ j, m = j + 1 := ⟨m - 1, by omega⟩
      rw [laws_szStringS.L0_step, h.vlen]
      have hlt0 : ¬ b - (x.size : Int) < 0 := by omega
      have hwc : IntKind.wrap .i64 (b - (x.size : Int)) = c := by rw [hw0]; omega
      simp [hlt, hv, hr, hwc, hneg, hd, totS, hres]
      rw [hw]
      exact e2 m (by omega)
theorem szStringS_runs {σ : Heap} {v : V} {l : List ByteArray} (hf : l.length ≤ 9223372036854775807) (h : RepS 1 StrRep σ v l)
    (hx : ∀ x, x ∈ l → x.size ≤ 9223372036854775807) {b : Int} (h0 : 0 ≤ b) (h1 : b ≤ 1099511627776) :
    Runs G n_laws_szStringS [v, .int .i64 b] σ (.int .i64 (sub b (l.length + totS ByteArray.size l))) σ := by
  refine Runs.mk ?_
  obtain ⟨c, hc⟩ : ∃ c, c = sub b l.length := ⟨_, rfl⟩
  have hsc := sub_cases b l.length
  rw [← hc] at hsc
  have hw : IntKind.wrap .i64 (b - (l.length : Int)) = b - (l.length : Int) := wrap_id (by omega) (by omega)
  by_cases hneg : c < 0
  · refine Ev.now fun k => ?_
    have hlt0 : b - (l.length : Int) < 0 := by omega
    have hres : sub b (l.length + totS ByteArray.size l) = -1 := by rw [← sub_add, ← hc, if_pos hneg]
    rw [laws_szStringS.eq, h.vlen]
    simp [hw, hlt0, hres]
  · have hlt0 : ¬ b - (l.length : Int) < 0 := by omega
    have hwc : IntKind.wrap .i64 (b - (l.length : Int)) = c := by rw [hw]; omega
    have hres : sub b (l.length + totS ByteArray.size l) = sub c (totS ByteArray.size l) := by rw [← sub_add, ← hc, if_neg hneg]
    refine (Ev.far l.length (szStringS_loop hf h hx l.length 0 c (by omega) (by omega) (by omega))).mono fun k ⟨e1, hk⟩ => ?_
    have e2 := e1 k hk
    rw [laws_szStringS.eq, h.vlen]
    simp only [Option.bind_some, hwc, hneg, decide_false, cond_false, hres]
    exact e2
theorem toStringS_loop {σe : Heap} {v : V} {l : List ByteArray} (hf : l.length + totS ByteArray.size l ≤ 1048576) (h : RepS 1 StrRep σe v l) {r : Nat} (hre : σe.length ≤ r) :
    ∀ (d i : Nat) (σ : Heap), i + d = l.length → Lh σe σ → r < σ.length → Under 1 StrRep σ r i l → ∃ σ', Lh σe σ' ∧ r < σ'.length ∧ Under 1 StrRep σ' r l.length l ∧
      Ev fun k => ∀ m, d < m → (laws_toStringS.L0 k m [.v v, .v (.sl r 0 l.length true), .v (.int .i64 i)] σ).bind (laws_toStringS.A0 k) = some (.sl r 0 l.length true, σ')
  | 0, i, σ, hi, hl, hr, hu => ⟨σ, hl, hr, (show i = l.length by omega) ▸ hu, Ev.now fun k m hm => by
    obtain ⟨m, rfl⟩ : ∃ j, m = j + 1 := ⟨m - 1, by omega⟩
    rw [laws_toStringS.L0_step, h.vlen]
    have : ¬ i < l.length := by omega
    simp [this, laws_toStringS.A0_x0]⟩
  | d + 1, i, σ, hi, hl, hr0, hu => by
    have hlt : i < l.length := by omega
    obtain ⟨r', o, hv, cs, hr, hP⟩ := h.at hlt
    have hm : l[i] ∈ l := List.getElem_mem hlt
    have hg : l[i]? = some l[i] := List.getElem?_eq_getElem hlt
    have htx : ByteArray.size l[i] ≤ 1048576 := Nat.le_trans (totS_mem ByteArray.size hm) (by omega)
    generalize l[i] = x at hP hm hg htx
    have hr2 := hl.rdc hr
    have hw : IntKind.wrap .i64 ((i : Int) + 1) = ((i + 1 : Nat) : Int) := wrap_id (by omega) (by omega)
    have hv2 : vidx 1 (.sl r 0 l.length true) (i : Int) = some (r, i * 1) := by simp [vidx, hlt]
    obtain ⟨row, hwr, hu2⟩ := hu.step hg (cs := cs) (by rw [hP]; rfl) hP
    obtain ⟨σ', g1, g2, g3, g4⟩ := toStringS_loop hf h hre d (i + 1) (σ.set r (some row)) (by omega) (hl.set hre _) (by rw [List.length_set]; exact hr0) hu2
    refine ⟨σ', g1, g2, g3, Ev.mono g4 fun k e2 m hm => ?_⟩
    obtain ⟨m, rfl⟩ : ∃ j, m = j + 1 := ⟨m - 1, by omega⟩
    unfold StrRep at hP
    subst hP
    rw [laws_toStringS.L0_step, h.vlen]
    simp at hv2 hwr
    simp [hlt, hv, hr2, hv2, hwr]
    rw [hw]
    exact e2 m (by omega)
theorem toStringS_runs {σ : Heap} {v : V} {l : List ByteArray} (hf : l.length + totS ByteArray.size l ≤ 1048576) (h : RepS 1 StrRep σ v l) :
    ∃ v' σ', Runs G n_laws_toStringS [v] σ v' σ' ∧ Lh σ σ' ∧ RepS 1 StrRep (wipe σ.length σ') v' l := by
  obtain ⟨σ', g1, g2, g3, g4⟩ := toStringS_loop hf h (Nat.le_refl _) l.length 0 (hnew σ 1 (List.replicate l.length [.str (⟨#[]⟩ : ByteArray)]).flatten) (by omega) (Lh.new _ _ _) (by simp [hnew]) (Under.new _ (by simp))
  refine ⟨_, σ', Runs.mk ?_, g1, (g3.mono (Lh.refl _) fun cs x hx hc => hc).done (fun row hro hrow => wipe_get.2 ⟨Nat.le_refl _, hrow, hro⟩) true⟩
  refine (Ev.far l.length g4).mono fun k ⟨e1, hk⟩ => ?_
  have e2 := e1 k hk
  rw [laws_toStringS.eq, h.vlen]
  simp only [Option.bind_some, Int.toNat_natCast]
  rw [if_pos (by omega)]
  exact e2
theorem eqStringS_loop {σ : Heap} {v v' : V} {l l' : List ByteArray} (hf : l.length ≤ 9223372036854775807) (hll : l'.length = l.length) (h : RepS 1 StrRep σ v l) (h' : RepS 1 StrRep σ v' l') :
    ∀ (d i : Nat), i + d = l.length → ∃ b, (b = true ↔ l.drop i = l'.drop i) ∧ Ev fun k => ∀ m, d < m → (laws_eqStringS.L0 k m [.v v, .v v', .v (.int .i64 i)] σ).bind (laws_eqStringS.A0 k) = some (.bool b, σ)
  | 0, i, hi => ⟨true, by rw [List.drop_eq_nil_of_le (show l.length ≤ i by omega), List.drop_eq_nil_of_le (show l'.length ≤ i by omega)]; simp, Ev.now fun k m hm => by
    obtain ⟨m, rfl⟩ : ∃ j, m = j + 1 := ⟨m - 1, by omega⟩
    rw [laws_eqStringS.L0_step, h.vlen]
    have : ¬ i < l.length := by omega
    simp [this, laws_eqStringS.A0_x0]⟩
  | d + 1, i, hi => by
    have hlt : i < l.length := by omega
    have hlt' : i < l'.length := by omega
    obtain ⟨r, o, hv, cs, hr, hP⟩ := h.at hlt
    obtain ⟨r', o', hv', cs', hr', hP'⟩ := h'.at hlt'
    have hm : l[i] ∈ l := List.getElem_mem hlt
    have hd : l.drop i = l[i] :: l.drop (i + 1) := List.drop_eq_getElem_cons hlt
    have hd' : l'.drop i = l'[i] :: l'.drop (i + 1) := List.drop_eq_getElem_cons hlt'
    generalize l[i] = x at hP hm hd
    generalize l'[i] = y at hP' hd'
    have hw : IntKind.wrap .i64 ((i : Int) + 1) = ((i + 1 : Nat) : Int) := wrap_id (by omega) (by omega)
    obtain ⟨b2, i2, c2⟩ := eqStringS_loop hf hll h h' d (i + 1) (by omega)
    unfold StrRep at hP hP'
    subst hP hP'
    by_cases hxy : x = y
    · refine ⟨b2, ?_, c2.mono fun k e2 m hm => ?_⟩
      · rw [hd, hd', i2, hxy]; simp
      · obtain ⟨m, rfl⟩ : ∃ j, m = j + 1 := ⟨m - 1, by omega⟩
        rw [laws_eqStringS.L0_step, h.vlen]
        simp [hlt, hv, hr, hv', hr', hxy]
        rw [hw]
        exact e2 m (by omega)
    · refine ⟨false, ?_, Ev.now fun k m hm => ?_⟩
      · rw [hd, hd']; simp; intro hc; exact absurd hc hxy
      · obtain ⟨m, rfl⟩ : ∃ j, m = j + 1 := ⟨m - 1, by omega⟩
        rw [laws_eqStringS.L0_step, h.vlen]
        simp [hlt, hv, hr, hv', hr', hxy, laws_eqStringS.A0_ret]
theorem eqStringS_runs {σ : Heap} {v v' : V} {l l' : List ByteArray} (hf : l.length ≤ 9223372036854775807) (h : RepS 1 StrRep σ v l) (h' : RepS 1 StrRep σ v' l') :
    ∃ b, Runs G n_laws_eqStringS [v, v'] σ (.bool b) σ ∧ (b = true ↔ l = l') := by
  by_cases hll : l'.length = l.length
  · obtain ⟨b, i1, c1⟩ := eqStringS_loop hf hll h h' l.length 0 (by omega)
    refine ⟨b, Runs.mk ((Ev.far l.length c1).mono fun k ⟨e1, hk⟩ => ?_), by simpa using i1⟩
    have e2 := e1 k hk
    rw [laws_eqStringS.eq, h.vlen, h'.vlen]
    simp only [Option.bind_some, hll, decide_true, Bool.not_true, cond_false]
    exact e2
  · refine ⟨false, Runs.mk (Ev.now fun k => ?_), by simp; intro hc; rw [hc] at hll; exact hll rfl⟩
    rw [laws_eqStringS.eq, h.vlen, h'.vlen]
    have : ¬ (l.length : Int) = (l'.length : Int) := by omega
    simp [this]
theorem szIntS_runs {σ : Heap} {v : V} {l : List Int} (hf : l.length ≤ 9223372036854775807) (h : RepS 1 IntRep σ v l) {b : Int} (h0 : 0 ≤ b) (h1 : b ≤ 1099511627776) :
    Runs G n_laws_szIntS [v, .int .i64 b] σ (.int .i64 (sub b (l.length + totS (fun _ => 0) l))) σ := by
  refine Runs.mk (Ev.now fun k => ?_)
  have hz : totS (fun _ => 0) l = 0 := totS_zero _ (fun x => rfl) l
  have hw : IntKind.wrap .i64 (b - (l.length : Int)) = b - (l.length : Int) := wrap_id (by omega) (by omega)
  rw [laws_szIntS.eq, h.vlen]
  simp only [Option.bind_some, hw, hz, Nat.add_zero]
  have hs := sub_cases b l.length
  by_cases hneg : b - (l.length : Int) < 0
  · have : sub b l.length = -1 := by omega
    simp [hneg, this]
  · have : sub b l.length = b - l.length := by omega
    simp [hneg, this]
theorem toIntS_loop {σe : Heap} {v : V} {l : List Int} (hf : l.length + totS (fun _ => 0) l ≤ 1048576) (h : RepS 1 IntRep σe v l) {r : Nat} (hre : σe.length ≤ r) :
    ∀ (d i : Nat) (σ : Heap), i + d = l.length → Lh σe σ → r < σ.length → Under 1 IntRep σ r i l → ∃ σ', Lh σe σ' ∧ r < σ'.length ∧ Under 1 IntRep σ' r l.length l ∧
      Ev fun k => ∀ m, d < m → (laws_toIntS.L0 k m [.v v, .v (.sl r 0 l.length true), .v (.int .i64 i)] σ).bind (laws_toIntS.A0 k) = some (.sl r 0 l.length true, σ')
  | 0, i, σ, hi, hl, hr, hu => ⟨σ, hl, hr, (show i = l.length by omega) ▸ hu, Ev.now fun k m hm => by
    obtain ⟨m, rfl⟩ : ∃ j, m = j + 1 := ⟨m - 1, by omega⟩
    rw [laws_toIntS.L0_step, h.vlen]
    have : ¬ i < l.length := by omega
    simp [this, laws_toIntS.A0_x0]⟩
  | d + 1, i, σ, hi, hl, hr0, hu => by
    have hlt : i < l.length := by omega
    obtain ⟨r', o, hv, cs, hr, hP⟩ := h.at hlt
    have hm : l[i] ∈ l := List.getElem_mem hlt
    have hg : l[i]? = some l[i] := List.getElem?_eq_getElem hlt
    have htx : (fun _ => 0) l[i] ≤ 1048576 := Nat.le_trans (totS_mem (fun _ => 0) hm) (by omega)
    generalize l[i] = x at hP hm hg htx
    have hr2 := hl.rdc hr
    have hw : IntKind.wrap .i64 ((i : Int) + 1) = ((i + 1 : Nat) : Int) := wrap_id (by omega) (by omega)
    have hv2 : vidx 1 (.sl r 0 l.length true) (i : Int) = some (r, i * 1) := by simp [vidx, hlt]
    obtain ⟨row, hwr, hu2⟩ := hu.step hg (cs := cs) (by rw [hP]; rfl) hP
    obtain ⟨σ', g1, g2, g3, g4⟩ := toIntS_loop hf h hre d (i + 1) (σ.set r (some row)) (by omega) (hl.set hre _) (by rw [List.length_set]; exact hr0) hu2
    refine ⟨σ', g1, g2, g3, Ev.mono g4 fun k e2 m hm => ?_⟩
    obtain ⟨m, rfl⟩ : ∃ j, m = j + 1 := ⟨m - 1, by omega⟩
    unfold IntRep at hP
    subst hP
    rw [laws_toIntS.L0_step, h.vlen]
    simp at hv2 hwr
    simp [hlt, hv, hr2, hv2, hwr]
    rw [hw]
    exact e2 m (by omega)
theorem toIntS_runs {σ : Heap} {v : V} {l : List Int} (hf : l.length + totS (fun _ => 0) l ≤ 1048576) (h : RepS 1 IntRep σ v l) :
    ∃ v' σ', Runs G n_laws_toIntS [v] σ v' σ' ∧ Lh σ σ' ∧ RepS 1 IntRep (wipe σ.length σ') v' l := by
  obtain ⟨σ', g1, g2, g3, g4⟩ := toIntS_loop hf h (Nat.le_refl _) l.length 0 (hnew σ 1 (List.replicate l.length [.int .i64 0]).flatten) (by omega) (Lh.new _ _ _) (by simp [hnew]) (Under.new _ (by simp))
  refine ⟨_, σ', Runs.mk ?_, g1, (g3.mono (Lh.refl _) fun cs x hx hc => hc).done (fun row hro hrow => wipe_get.2 ⟨Nat.le_refl _, hrow, hro⟩) true⟩
  refine (Ev.far l.length g4).mono fun k ⟨e1, hk⟩ => ?_
  have e2 := e1 k hk
  rw [laws_toIntS.eq, h.vlen]
  simp only [Option.bind_some, Int.toNat_natCast]
  rw [if_pos (by omega)]
  exact e2
theorem eqIntS_loop {σ : Heap} {v v' : V} {l l' : List Int} (hf : l.length ≤ 9223372036854775807) (hll : l'.length = l.length) (h : RepS 1 IntRep σ v l) (h' : RepS 1 IntRep σ v' l') :
    ∀ (d i : Nat), i + d = l.length → ∃ b, (b = true ↔ l.drop i = l'.drop i) ∧ Ev fun k => ∀ m, d < m → (laws_eqIntS.L0 k m [.v v, .v v', .v (.int .i64 i)] σ).bind (laws_eqIntS.A0 k) = some (.bool b, σ)
  | 0, i, hi => ⟨true, by rw [List.drop_eq_nil_of_le (show l.length ≤ i by omega), List.drop_eq_nil_of_le (show l'.length ≤ i by omega)]; simp, Ev.now fun k m hm => by
    obtain ⟨m, rfl⟩ : ∃ j, m = j + 1 := ⟨m - 1, by omega⟩
    rw [laws_eqIntS.L0_step, h.vlen]
    have : ¬ i < l.length := by omega
    simp [this, laws_eqIntS.A0_x0]⟩
  | d + 1, i, hi => by
    have hlt : i < l.length := by omega
    have hlt' : i < l'.length := by omega
    obtain ⟨r, o, hv, cs, hr, hP⟩ := h.at hlt
    obtain ⟨r', o', hv', cs', hr', hP'⟩ := h'.at hlt'
    have hm : l[i] ∈ l := List.getElem_mem hlt
    have hd : l.drop i = l[i] :: l.drop (i + 1) := List.drop_eq_getElem_cons hlt
    have hd' : l'.drop i = l'[i] :: l'.drop (i + 1) := List.drop_eq_getElem_cons hlt'
    generalize l[i] = x at hP hm hd
    generalize l'[i] = y at hP' hd'
    have hw : IntKind.wrap .i64 ((i : Int) + 1) = ((i + 1 : Nat) : Int) := wrap_id (by omega) (by omega)
    obtain ⟨b2, i2, c2⟩ := eqIntS_loop hf hll h h' d (i + 1) (by omega)
    unfold IntRep at hP hP'
    subst hP hP'
    by_cases hxy : x = y
    · refine ⟨b2, ?_, c2.mono fun k e2 m hm => ?_⟩
      · rw [hd, hd', i2, hxy]; simp
      · obtain ⟨m, rfl⟩ : ∃ j, m = j + 1 := ⟨m - 1, by omega⟩
        rw [laws_eqIntS.L0_step, h.vlen]
        simp [hlt, hv, hr, hv', hr', hxy]
        rw [hw]
        exact e2 m (by omega)
    · refine ⟨false, ?_, Ev.now fun k m hm => ?_⟩
      · rw [hd, hd']; simp; intro hc; exact absurd hc hxy
      · obtain ⟨m, rfl⟩ : ∃ j, m = j + 1 := ⟨m - 1, by omega⟩
        rw [laws_eqIntS.L0_step, h.vlen]
        simp [hlt, hv, hr, hv', hr', hxy, laws_eqIntS.A0_ret]
theorem eqIntS_runs {σ : Heap} {v v' : V} {l l' : List Int} (hf : l.length ≤ 9223372036854775807) (h : RepS 1 IntRep σ v l) (h' : RepS 1 IntRep σ v' l') :
    ∃ b, Runs G n_laws_eqIntS [v, v'] σ (.bool b) σ ∧ (b = true ↔ l = l') := by
  by_cases hll : l'.length = l.length
  · obtain ⟨b, i1, c1⟩ := eqIntS_loop hf hll h h' l.length 0 (by omega)
    refine ⟨b, Runs.mk ((Ev.far l.length c1).mono fun k ⟨e1, hk⟩ => ?_), by simpa using i1⟩
    have e2 := e1 k hk
    rw [laws_eqIntS.eq, h.vlen, h'.vlen]
    simp only [Option.bind_some, hll, decide_true, Bool.not_true, cond_false]
    exact e2
  · refine ⟨false, Runs.mk (Ev.now fun k => ?_), by simp; intro hc; rw [hc] at hll; exact hll rfl⟩
    rw [laws_eqIntS.eq, h.vlen, h'.vlen]
    have : ¬ (l.length : Int) = (l'.length : Int) := by omega
    simp [this]
theorem szFaceSig_runs {σ : Heap} (e : FaceSig) (hf : e.Fit) {cs : List V} (hr : FaceSig.Rep σ cs e) {b : Int} (h0 : 0 ≤ b) (h1 : b ≤ 1099511627776) : Runs G n_laws_szFaceSig [.agg cs, .int .i64 b] σ (.int .i64 (sub b e.total)) σ := by
  have ht := FaceSig.total_eq e
  cases hf with
  | mk f0 f1 f2 f3 =>
  cases hr with
  | mk r0 =>
  have hs := sub_cases b e.total
  refine Runs.mk ?_
  obtain ⟨b1, w1⟩ : ∃ x, x = b - (e.name.size : Int) := ⟨_, rfl⟩
  have v1 : IntKind.wrap .i64 (b - (e.name.size : Int)) = b1 := by rw [w1]; exact wrap_id (by omega) (by omega)
  by_cases n1 : b1 < 0
  · refine Ev.now fun k => ?_
    have hres : sub b e.total = -1 := by omega
    rw [laws_szFaceSig.eq]
    simp [v1, n1, hres]
  have p1 : 0 ≤ b1 := by omega
  obtain ⟨b2, w2⟩ : ∃ x, x = sub b1 (e.args.length + totS (fun _ => 0) e.args) := ⟨_, rfl⟩
  have c2 := szIntS_runs (l := e.args) f1 r0  (b := b1) (by omega) (by omega)
  rw [← w2] at c2
  have s2 := sub_cases b1 (e.args.length + totS (fun _ => 0) e.args)
  rw [← w2] at s2
  by_cases n2 : b2 < 0
  · refine Ev.mono c2 fun k e2 => ?_
    have hres : sub b e.total = -1 := by omega
    rw [laws_szFaceSig.eq]
    simp [v1, n1, e2, n2, hres]
  have p2 : 0 ≤ b2 := by omega
  refine Ev.mono c2 fun k e2 => ?_
  have hres : sub b e.total = b2 := by omega
  rw [laws_szFaceSig.eq]
  simp [v1, n1, e2, n2, hres]
theorem toFaceSig_runs (e : FaceSig) (ht : e.total ≤ 1048576) {σ : Heap} {cs : List V} (hr : FaceSig.Rep σ cs e) : ∃ cs' σ', Runs G n_laws_toFaceSig [.agg cs] σ (.agg cs') σ' ∧ Lh σ σ' ∧ FaceSig.Rep (wipe σ.length σ') cs' e := by
  rw [FaceSig.total_eq] at ht
  cases hr with
  | mk r0 =>
  have l0 := Lh.refl σ
  obtain ⟨v1, σ1, c1, k1, d1⟩ := toIntS_runs (σ := σ) (l := e.args) (by omega) (r0.le l0)
  have g1 := d1.flat
  have l1 := l0.trans k1
  have ll1 : Lh σ1 σ1 := Lh.refl _
  refine ⟨_, σ1, Runs.mk (Ev.mono c1 fun k e1 => ?_), l1, .mk (d1.le (Lh.fresh l0 (ll1)))⟩
  rw [laws_toFaceSig.eq]
  simp [e1, one_of g1]
theorem eqFaceSig_runs {σ : Heap} (e e' : FaceSig) (hf : e.Fit) {cs cs' : List V} (hr : FaceSig.Rep σ cs e) (hr' : FaceSig.Rep σ cs' e') : ∃ b, Runs G n_laws_eqFaceSig [.agg cs, .agg cs'] σ (.bool b) σ ∧ (b = true ↔ e = e') := by
  cases hf with
  | mk f0 f1 f2 f3 =>
  cases hr with
  | mk r0 =>
  cases hr' with
  | mk t0 =>
  by_cases nn : ¬ e.name = e'.name
  · refine ⟨false, Runs.mk (Ev.now fun k => ?_), by simp; intro hc; rw [hc] at nn; exact absurd rfl nn⟩
    rw [laws_eqFaceSig.eq]
    simp [nn]
  have q1 := Classical.not_not.1 nn
  clear nn
  obtain ⟨b2, c2, i2⟩ := eqIntS_runs (l := e.args) (l' := e'.args) f1 r0 t0
  by_cases u2 : b2 = false
  · have nn : ¬ e.args = e'.args := fun hc => by have := i2.2 hc; rw [u2] at this; cases this
    subst u2
    refine ⟨false, Runs.mk (Ev.mono c2 fun k e2 => ?_), by simp; intro hc; rw [hc] at nn; exact absurd rfl nn⟩
    rw [laws_eqFaceSig.eq]
    simp [q1, e2]
  have u2' : b2 = true := by cases b2 <;> simp_all
  clear u2
  have q2 := i2.1 u2'
  subst u2'
  by_cases nn : ¬ e.type = e'.type
  · refine ⟨false, Runs.mk (Ev.mono c2 fun k e2 => ?_), by simp; intro hc; rw [hc] at nn; exact absurd rfl nn⟩
    rw [laws_eqFaceSig.eq]
    simp [q1, e2, nn]
  have q3 := Classical.not_not.1 nn
  clear nn
  refine ⟨true, Runs.mk (Ev.mono c2 fun k e2 => ?_), by simp; cases e; cases e'; simp at q1 q2 q3 ⊢; exact ⟨q1, q2, q3⟩⟩
  rw [laws_eqFaceSig.eq]
  simp [q1, e2, q3]
theorem szFaceSigS_loop {σ : Heap} {v : V} {l : List FaceSig} (hf : l.length ≤ 9223372036854775807) (h : RepS 3 (FaceSig.Rep σ) σ v l)
    (hx : ∀ x, x ∈ l → ∀ cs b, FaceSig.Rep σ cs x → 0 ≤ b → b ≤ 1099511627776 → Runs G n_laws_szFaceSig [.agg cs, .int .i64 b] σ (.int .i64 (sub b x.total)) σ) :
    ∀ (d i : Nat) (b : Int), i + d = l.length → 0 ≤ b → b ≤ 1099511627776 → Ev fun k => ∀ m, d < m →
      (laws_szFaceSigS.L0 k m [.v v, .v (.int .i64 b), .v (.int .i64 i)] σ).bind (laws_szFaceSigS.A0 k) = some (.int .i64 (sub b (totS FaceSig.total (l.drop i))), σ)
  | 0, i, b, hi, h0, h1 => Ev.now fun k m hm => by
    obtain ⟨m, rfl⟩ : ∃ j, m = j + 1 := ⟨m - 1, by omega⟩
    rw [laws_szFaceSigS.L0_step, h.vlen]
    have : ¬ i < l.length := by omega
    simp [this, laws_szFaceSigS.A0_x0, List.drop_eq_nil_of_le (show l.length ≤ i by omega), totS, sub]
    omega
  | d + 1, i, b, hi, h0, h1 => by
    have hlt : i < l.length := by omega
    obtain ⟨r, o, hv, cs, hr, hP⟩ := h.at hlt
    have hm : l[i] ∈ l := List.getElem_mem hlt
    have hc := hx _ hm cs b hP h0 h1
    have hd : l.drop i = l[i] :: l.drop (i + 1) := List.drop_eq_getElem_cons hlt
    generalize l[i] = x at hP hm hc hd
    obtain ⟨c, hcx⟩ : ∃ c, c = sub b x.total := ⟨_, rfl⟩
    rw [← hcx] at hc
    cases hP with
    | mk =>
    have hsc := sub_cases b x.total
    rw [← hcx] at hsc
    have hw : IntKind.wrap .i64 ((i : Int) + 1) = ((i + 1 : Nat) : Int) := wrap_id (by omega) (by omega)
    by_cases hneg : c < 0
    · refine Ev.mono hc fun k e1 m hm => ?_
      obtain ⟨m, rfl⟩ : ∃ j, m = j + 1 := ⟨m - 1, by omega⟩
      rw [laws_szFaceSigS.L0_step, h.vlen]
      
      have hres : sub b (x.total + totS FaceSig.total (l.drop (i + 1))) = -1 := by rw [← sub_add, ← hcx, if_pos hneg]
      simp [hlt, hv, hr, e1, hneg, laws_szFaceSigS.A0_ret, hd, totS, hres]
    · have hres : sub b (x.total + totS FaceSig.total (l.drop (i + 1))) = sub c (totS FaceSig.total (l.drop (i + 1))) := by rw [← sub_add, ← hcx, if_neg hneg]
      refine Ev.mono (Ev.and hc (szFaceSigS_loop hf h hx d (i + 1) c (by omega) (by omega) (by omega))) fun k ⟨e1, e2⟩ m hm => ?_
      obtain ⟨m, rfl⟩ : ∃ j, m = j + 1 := ⟨m - 1, by omega⟩
      rw [laws_szFaceSigS.L0_step, h.vlen]
      
      
      simp [hlt, hv, hr, e1, hneg, hd, totS, hres]
      rw [hw]
      exact e2 m (by omega)
theorem szFaceSigS_runs {σ : Heap} {v : V} {l : List FaceSig} (hf : l.length ≤ 9223372036854775807) (h : RepS 3 (FaceSig.Rep σ) σ v l)
    (hx : ∀ x, x ∈ l → ∀ cs b, FaceSig.Rep σ cs x → 0 ≤ b → b ≤ 1099511627776 → Runs G n_laws_szFaceSig [.agg cs, .int .i64 b] σ (.int .i64 (sub b x.total)) σ) {b : Int} (h0 : 0 ≤ b) (h1 : b ≤ 1099511627776) :
    Runs G n_laws_szFaceSigS [v, .int .i64 b] σ (.int .i64 (sub b (l.length + totS FaceSig.total l))) σ := by
  refine Runs.mk ?_
  obtain ⟨c, hc⟩ : ∃ c, c = sub b l.length := ⟨_, rfl⟩
  have hsc := sub_cases b l.length
  rw [← hc] at hsc
  have hw : IntKind.wrap .i64 (b - (l.length : Int)) = b - (l.length : Int) := wrap_id (by omega) (by omega)
  by_cases hneg : c < 0
  · refine Ev.now fun k => ?_
    have hlt0 : b - (l.length : Int) < 0 := by omega
    have hres : sub b (l.length + totS FaceSig.total l) = -1 := by rw [← sub_add, ← hc, if_pos hneg]
    rw [laws_szFaceSigS.eq, h.vlen]
    simp [hw, hlt0, hres]
  · have hlt0 : ¬ b - (l.length : Int) < 0 := by omega
    have hwc : IntKind.wrap .i64 (b - (l.length : Int)) = c := by rw [hw]; omega
    have hres : sub b (l.length + totS FaceSig.total l) = sub c (totS FaceSig.total l) := by rw [← sub_add, ← hc, if_neg hneg]
    refine (Ev.far l.length (szFaceSigS_loop hf h hx l.length 0 c (by omega) (by omega) (by omega))).mono fun k ⟨e1, hk⟩ => ?_
    have e2 := e1 k hk
    rw [laws_szFaceSigS.eq, h.vlen]
    simp only [Option.bind_some, hwc, hneg, decide_false, cond_false, hres]
    exact e2
theorem toFaceSigS_loop {σe : Heap} {v : V} {l : List FaceSig} (hf : l.length + totS FaceSig.total l ≤ 1048576) (h : RepS 3 (FaceSig.Rep σe) σe v l)
    (hx : ∀ x, x ∈ l → x.total ≤ 1048576 → ∀ σ cs, FaceSig.Rep σ cs x → ∃ cs' σ', Runs G n_laws_toFaceSig [.agg cs] σ (.agg cs') σ' ∧ Lh σ σ' ∧ FaceSig.Rep (wipe σ.length σ') cs' x) {r : Nat} (hre : σe.length ≤ r) :
    ∀ (d i : Nat) (σ : Heap), i + d = l.length → Lh σe σ → r < σ.length → Under 3 (FaceSig.Rep (wipe (r + 1) σ)) σ r i l → ∃ σ', Lh σe σ' ∧ r < σ'.length ∧ Under 3 (FaceSig.Rep (wipe (r + 1) σ')) σ' r l.length l ∧
      Ev fun k => ∀ m, d < m → (laws_toFaceSigS.L0 k m [.v v, .v (.sl r 0 l.length true), .v (.int .i64 i)] σ).bind (laws_toFaceSigS.A0 k) = some (.sl r 0 l.length true, σ')
  | 0, i, σ, hi, hl, hr, hu => ⟨σ, hl, hr, (show i = l.length by omega) ▸ hu, Ev.now fun k m hm => by
    obtain ⟨m, rfl⟩ : ∃ j, m = j + 1 := ⟨m - 1, by omega⟩
    rw [laws_toFaceSigS.L0_step, h.vlen]
    have : ¬ i < l.length := by omega
    simp [this, laws_toFaceSigS.A0_x0]⟩
  | d + 1, i, σ, hi, hl, hr0, hu => by
    have hlt : i < l.length := by omega
    obtain ⟨r', o, hv, cs, hr, hP⟩ := h.at hlt
    have hm : l[i] ∈ l := List.getElem_mem hlt
    have hg : l[i]? = some l[i] := List.getElem?_eq_getElem hlt
    have htx : FaceSig.total l[i] ≤ 1048576 := Nat.le_trans (totS_mem FaceSig.total hm) (by omega)
    generalize l[i] = x at hP hm hg htx
    have hr2 := hl.rdc hr
    have hw : IntKind.wrap .i64 ((i : Int) + 1) = ((i + 1 : Nat) : Int) := wrap_id (by omega) (by omega)
    have hv2 : vidx 3 (.sl r 0 l.length true) (i : Int) = some (r, i * 3) := by simp [vidx, hlt]
    obtain ⟨cs', σ1, hc, hl1, hR⟩ := hx x hm htx σ cs (FaceSig.Rep.le hl hP)
    have hu1 : Under 3 (FaceSig.Rep (wipe (r + 1) σ1)) σ1 r i l := hu.mono hl1 fun cs y hy hcs => FaceSig.Rep.le (hl1.wipeBoth _) hcs
    obtain ⟨row, hwr, hu2⟩ := hu1.step hg hR.len (FaceSig.Rep.le (Lh.wipeLess σ1 (show r + 1 ≤ σ.length by omega)) hR)
    have hu3 : Under 3 (FaceSig.Rep (wipe (r + 1) (σ1.set r (some row)))) (σ1.set r (some row)) r (i + 1) l := by rw [wipe_set (by omega)]; exact hu2
    obtain ⟨σ', g1, g2, g3, g4⟩ := toFaceSigS_loop hf h hx hre d (i + 1) (σ1.set r (some row)) (by omega) ((hl.trans hl1).set hre _) (by rw [List.length_set]; exact Nat.lt_of_lt_of_le hr0 hl1.len) hu3
    refine ⟨σ', g1, g2, g3, Ev.mono (Ev.and hc g4) fun k ⟨e1, e2⟩ m hm => ?_⟩
    obtain ⟨m, rfl⟩ : ∃ j, m = j + 1 := ⟨m - 1, by omega⟩
    cases hP with
    | mk =>
    cases hR with
    | mk =>
    rw [laws_toFaceSigS.L0_step, h.vlen]
    simp [hlt, hv, hr2, hv2, e1, hwr]
    rw [hw]
    exact e2 m (by omega)
theorem toFaceSigS_runs {σ : Heap} {v : V} {l : List FaceSig} (hf : l.length + totS FaceSig.total l ≤ 1048576) (h : RepS 3 (FaceSig.Rep σ) σ v l)
    (hx : ∀ x, x ∈ l → x.total ≤ 1048576 → ∀ σ cs, FaceSig.Rep σ cs x → ∃ cs' σ', Runs G n_laws_toFaceSig [.agg cs] σ (.agg cs') σ' ∧ Lh σ σ' ∧ FaceSig.Rep (wipe σ.length σ') cs' x) :
    ∃ v' σ', Runs G n_laws_toFaceSigS [v] σ v' σ' ∧ Lh σ σ' ∧ RepS 3 (FaceSig.Rep (wipe σ.length σ')) (wipe σ.length σ') v' l := by
  obtain ⟨σ', g1, g2, g3, g4⟩ := toFaceSigS_loop hf h hx (Nat.le_refl _) l.length 0 (hnew σ 3 (List.replicate l.length [.str (⟨#[]⟩ : ByteArray), .nils, .int .i64 0]).flatten) (by omega) (Lh.new _ _ _) (by simp [hnew]) (Under.new _ (by simp))
  refine ⟨_, σ', Runs.mk ?_, g1, (g3.mono (Lh.refl _) fun cs x hx hc => FaceSig.Rep.le (Lh.wipeLess _ (by omega)) hc).done (fun row hro hrow => wipe_get.2 ⟨Nat.le_refl _, hrow, hro⟩) true⟩
  refine (Ev.far l.length g4).mono fun k ⟨e1, hk⟩ => ?_
  have e2 := e1 k hk
  rw [laws_toFaceSigS.eq, h.vlen]
  simp only [Option.bind_some, Int.toNat_natCast]
  rw [if_pos (by omega)]
  exact e2
theorem eqFaceSigS_loop {σ : Heap} {v v' : V} {l l' : List FaceSig} (hf : l.length ≤ 9223372036854775807) (hll : l'.length = l.length) (h : RepS 3 (FaceSig.Rep σ) σ v l) (h' : RepS 3 (FaceSig.Rep σ) σ v' l')
    (hx : ∀ x, x ∈ l → ∀ y cs cs', FaceSig.Rep σ cs x → FaceSig.Rep σ cs' y → ∃ b, Runs G n_laws_eqFaceSig [.agg cs, .agg cs'] σ (.bool b) σ ∧ (b = true ↔ x = y)) :
    ∀ (d i : Nat), i + d = l.length → ∃ b, (b = true ↔ l.drop i = l'.drop i) ∧ Ev fun k => ∀ m, d < m → (laws_eqFaceSigS.L0 k m [.v v, .v v', .v (.int .i64 i)] σ).bind (laws_eqFaceSigS.A0 k) = some (.bool b, σ)
  | 0, i, hi => ⟨true, by rw [List.drop_eq_nil_of_le (show l.length ≤ i by omega), List.drop_eq_nil_of_le (show l'.length ≤ i by omega)]; simp, Ev.now fun k m hm => by
    obtain ⟨m, rfl⟩ : ∃ j, m = j + 1 := ⟨m - 1, by omega⟩
    rw [laws_eqFaceSigS.L0_step, h.vlen]
    have : ¬ i < l.length := by omega
    simp [this, laws_eqFaceSigS.A0_x0]⟩
  | d + 1, i, hi => by
    have hlt : i < l.length := by omega
    have hlt' : i < l'.length := by omega
    obtain ⟨r, o, hv, cs, hr, hP⟩ := h.at hlt
    obtain ⟨r', o', hv', cs', hr', hP'⟩ := h'.at hlt'
    have hm : l[i] ∈ l := List.getElem_mem hlt
    have hd : l.drop i = l[i] :: l.drop (i + 1) := List.drop_eq_getElem_cons hlt
    have hd' : l'.drop i = l'[i] :: l'.drop (i + 1) := List.drop_eq_getElem_cons hlt'
    generalize l[i] = x at hP hm hd
    generalize l'[i] = y at hP' hd'
    have hw : IntKind.wrap .i64 ((i : Int) + 1) = ((i + 1 : Nat) : Int) := wrap_id (by omega) (by omega)
    obtain ⟨b2, i2, c2⟩ := eqFaceSigS_loop hf hll h h' hx d (i + 1) (by omega)
    obtain ⟨b1, c1, i1⟩ := hx x hm y cs cs' hP hP'
    cases hP with
    | mk =>
    cases hP' with
    | mk =>
    cases b1 with
    | false =>
      refine ⟨false, ?_, c1.mono fun k e1 m hm => ?_⟩
      · rw [hd, hd']; simp at i1 ⊢; intro hc; exact absurd hc i1
      · obtain ⟨m, rfl⟩ : ∃ j, m = j + 1 := ⟨m - 1, by omega⟩
        rw [laws_eqFaceSigS.L0_step, h.vlen]
        simp [hlt, hv, hr, hv', hr', e1, laws_eqFaceSigS.A0_ret]
    | true =>
      refine ⟨b2, ?_, (c1.and c2).mono fun k ⟨e1, e2⟩ m hm => ?_⟩
      · have hxy : x = y := i1.1 rfl
        rw [hd, hd', i2, hxy]; simp
      · obtain ⟨m, rfl⟩ : ∃ j, m = j + 1 := ⟨m - 1, by omega⟩
        rw [laws_eqFaceSigS.L0_step, h.vlen]
        simp [hlt, hv, hr, hv', hr', e1]
        rw [hw]
        exact e2 m (by omega)
theorem eqFaceSigS_runs {σ : Heap} {v v' : V} {l l' : List FaceSig} (hf : l.length ≤ 9223372036854775807) (h : RepS 3 (FaceSig.Rep σ) σ v l) (h' : RepS 3 (FaceSig.Rep σ) σ v' l')
    (hx : ∀ x, x ∈ l → ∀ y cs cs', FaceSig.Rep σ cs x → FaceSig.Rep σ cs' y → ∃ b, Runs G n_laws_eqFaceSig [.agg cs, .agg cs'] σ (.bool b) σ ∧ (b = true ↔ x = y)) :
    ∃ b, Runs G n_laws_eqFaceSigS [v, v'] σ (.bool b) σ ∧ (b = true ↔ l = l') := by
  by_cases hll : l'.length = l.length
  · obtain ⟨b, i1, c1⟩ := eqFaceSigS_loop hf hll h h' hx l.length 0 (by omega)
    refine ⟨b, Runs.mk ((Ev.far l.length c1).mono fun k ⟨e1, hk⟩ => ?_), by simpa using i1⟩
    have e2 := e1 k hk
    rw [laws_eqFaceSigS.eq, h.vlen, h'.vlen]
    simp only [Option.bind_some, hll, decide_true, Bool.not_true, cond_false]
    exact e2
  · refine ⟨false, Runs.mk (Ev.now fun k => ?_), by simp; intro hc; rw [hc] at hll; exact hll rfl⟩
    rw [laws_eqFaceSigS.eq, h.vlen, h'.vlen]
    have : ¬ (l.length : Int) = (l'.length : Int) := by omega
    simp [this]
theorem szTreeArg_runs {σ : Heap} (e : TreeArg) (hf : e.Fit) {cs : List V} (hr : TreeArg.Rep σ cs e) {b : Int} (h0 : 0 ≤ b) (h1 : b ≤ 1099511627776) : Runs G n_laws_szTreeArg [.agg cs, .int .i64 b] σ (.int .i64 (sub b e.total)) σ := by
  have ht := TreeArg.total_eq e
  cases hf with
  | mk f0 f1 =>
  cases hr with
  | mk =>
  have hs := sub_cases b e.total
  refine Runs.mk ?_
  obtain ⟨b1, w1⟩ : ∃ x, x = b - (e.name.size : Int) := ⟨_, rfl⟩
  have v1 : IntKind.wrap .i64 (b - (e.name.size : Int)) = b1 := by rw [w1]; exact wrap_id (by omega) (by omega)
  by_cases n1 : b1 < 0
  · refine Ev.now fun k => ?_
    have hres : sub b e.total = -1 := by omega
    rw [laws_szTreeArg.eq]
    simp [v1, n1, hres]
  have p1 : 0 ≤ b1 := by omega
  refine Ev.now fun k => ?_
  have hres : sub b e.total = b1 := by omega
  rw [laws_szTreeArg.eq]
  simp [v1, n1, hres]
theorem toTreeArg_runs (e : TreeArg) (ht : e.total ≤ 1048576) {σ : Heap} {cs : List V} (hr : TreeArg.Rep σ cs e) : ∃ cs' σ', Runs G n_laws_toTreeArg [.agg cs] σ (.agg cs') σ' ∧ Lh σ σ' ∧ TreeArg.Rep (wipe σ.length σ') cs' e := by
  rw [TreeArg.total_eq] at ht
  cases hr with
  | mk =>
  have l0 := Lh.refl σ
  refine ⟨_, σ, Runs.mk (Ev.now fun k => ?_), l0, .mk⟩
  rw [laws_toTreeArg.eq]
  all_goals simp []
theorem eqTreeArg_runs {σ : Heap} (e e' : TreeArg) (hf : e.Fit) {cs cs' : List V} (hr : TreeArg.Rep σ cs e) (hr' : TreeArg.Rep σ cs' e') : ∃ b, Runs G n_laws_eqTreeArg [.agg cs, .agg cs'] σ (.bool b) σ ∧ (b = true ↔ e = e') := by
  cases hf with
  | mk f0 f1 =>
  cases hr with
  | mk =>
  cases hr' with
  | mk =>
  by_cases nn : ¬ e.name = e'.name
  · refine ⟨false, Runs.mk (Ev.now fun k => ?_), by simp; intro hc; rw [hc] at nn; exact absurd rfl nn⟩
    rw [laws_eqTreeArg.eq]
    simp [nn]
  have q1 := Classical.not_not.1 nn
  clear nn
  by_cases nn : ¬ e.type = e'.type
  · refine ⟨false, Runs.mk (Ev.now fun k => ?_), by simp; intro hc; rw [hc] at nn; exact absurd rfl nn⟩
    rw [laws_eqTreeArg.eq]
    simp [q1, nn]
  have q2 := Classical.not_not.1 nn
  clear nn
  refine ⟨true, Runs.mk (Ev.now fun k => ?_), by simp; cases e; cases e'; simp at q1 q2 ⊢; exact ⟨q1, q2⟩⟩
  rw [laws_eqTreeArg.eq]
  simp [q1, q2]
theorem szTreeArgS_loop {σ : Heap} {v : V} {l : List TreeArg} (hf : l.length ≤ 9223372036854775807) (h : RepS 2 (TreeArg.Rep σ) σ v l)
    (hx : ∀ x, x ∈ l → ∀ cs b, TreeArg.Rep σ cs x → 0 ≤ b → b ≤ 1099511627776 → Runs G n_laws_szTreeArg [.agg cs, .int .i64 b] σ (.int .i64 (sub b x.total)) σ) :
    ∀ (d i : Nat) (b : Int), i + d = l.length → 0 ≤ b → b ≤ 1099511627776 → Ev fun k => ∀ m, d < m →
      (laws_szTreeArgS.L0 k m [.v v, .v (.int .i64 b), .v (.int .i64 i)] σ).bind (laws_szTreeArgS.A0 k) = some (.int .i64 (sub b (totS TreeArg.total (l.drop i))), σ)
  | 0, i, b, hi, h0, h1 => Ev.now fun k m hm => by
    obtain ⟨m, rfl⟩ : ∃ j, m = j + 1 := ⟨m - 1, by omega⟩
    rw [laws_szTreeArgS.L0_step, h.vlen]
    have : ¬ i < l.length := by omega
    simp [this, laws_szTreeArgS.A0_x0, List.drop_eq_nil_of_le (show l.length ≤ i by omega), totS, sub]
    omega
  | d + 1, i, b, hi, h0, h1 => by
    have hlt : i < l.length := by omega
    obtain ⟨r, o, hv, cs, hr, hP⟩ := h.at hlt
    have hm : l[i] ∈ l := List.getElem_mem hlt
    have hc := hx _ hm cs b hP h0 h1
    have hd : l.drop i = l[i] :: l.drop (i + 1) := List.drop_eq_getElem_cons hlt
    generalize l[i] = x at hP hm hc hd
    obtain ⟨c, hcx⟩ : ∃ c, c = sub b x.total := ⟨_, rfl⟩
    rw [← hcx] at hc
    cases hP with
    | mk =>
    have hsc := sub_cases b x.total
    rw [← hcx] at hsc
    have hw : IntKind.wrap .i64 ((i : Int) + 1) = ((i + 1 : Nat) : Int) := wrap_id (by omega) (by omega)
    by_cases hneg : c < 0
    · refine Ev.mono hc fun k e1 m hm => ?_
      obtain ⟨m, rfl⟩ : ∃ j, m = j + 1 := ⟨m - 1, by omega⟩
      rw [laws_szTreeArgS.L0_step, h.vlen]
      
      have hres : sub b (x.total + totS TreeArg.total (l.drop (i + 1))) = -1 := by rw [← sub_add, ← hcx, if_pos hneg]
      simp [hlt, hv, hr, e1, hneg, laws_szTreeArgS.A0_ret, hd, totS, hres]
    · have hres : sub b (x.total + totS TreeArg.total (l.drop (i + 1))) = sub c (totS TreeArg.total (l.drop (i + 1))) := by rw [← sub_add, ← hcx, if_neg hneg]
      refine Ev.mono (Ev.and hc (szTreeArgS_loop hf h hx d (i + 1) c (by omega) (by omega) (by omega))) fun k ⟨e1, e2⟩ m hm => ?_
      obtain ⟨m, rfl⟩ : ∃ j, m = j + 1 := ⟨m - 1, by omega⟩
      rw [laws_szTreeArgS.L0_step, h.vlen]
      
      
      simp [hlt, hv, hr, e1, hneg, hd, totS, hres]
      rw [hw]
      exact e2 m (by omega)
theorem szTreeArgS_runs {σ : Heap} {v : V} {l : List TreeArg} (hf : l.length ≤ 9223372036854775807) (h : RepS 2 (TreeArg.Rep σ) σ v l)
    (hx : ∀ x, x ∈ l → ∀ cs b, TreeArg.Rep σ cs x → 0 ≤ b → b ≤ 1099511627776 → Runs G n_laws_szTreeArg [.agg cs, .int .i64 b] σ (.int .i64 (sub b x.total)) σ) {b : Int} (h0 : 0 ≤ b) (h1 : b ≤ 1099511627776) :
    Runs G n_laws_szTreeArgS [v, .int .i64 b] σ (.int .i64 (sub b (l.length + totS TreeArg.total l))) σ := by
  refine Runs.mk ?_
  obtain ⟨c, hc⟩ : ∃ c, c = sub b l.length := ⟨_, rfl⟩
  have hsc := sub_cases b l.length
  rw [← hc] at hsc
  have hw : IntKind.wrap .i64 (b - (l.length : Int)) = b - (l.length : Int) := wrap_id (by omega) (by omega)
  by_cases hneg : c < 0
  · refine Ev.now fun k => ?_
    have hlt0 : b - (l.length : Int) < 0 := by omega
    have hres : sub b (l.length + totS TreeArg.total l) = -1 := by rw [← sub_add, ← hc, if_pos hneg]
    rw [laws_szTreeArgS.eq, h.vlen]
    simp [hw, hlt0, hres]
  · have hlt0 : ¬ b - (l.length : Int) < 0 := by omega
    have hwc : IntKind.wrap .i64 (b - (l.length : Int)) = c := by rw [hw]; omega
    have hres : sub b (l.length + totS TreeArg.total l) = sub c (totS TreeArg.total l) := by rw [← sub_add, ← hc, if_neg hneg]
    refine (Ev.far l.length (szTreeArgS_loop hf h hx l.length 0 c (by omega) (by omega) (by omega))).mono fun k ⟨e1, hk⟩ => ?_
    have e2 := e1 k hk
    rw [laws_szTreeArgS.eq, h.vlen]
    simp only [Option.bind_some, hwc, hneg, decide_false, cond_false, hres]
    exact e2
theorem toTreeArgS_loop {σe : Heap} {v : V} {l : List TreeArg} (hf : l.length + totS TreeArg.total l ≤ 1048576) (h : RepS 2 (TreeArg.Rep σe) σe v l)
    (hx : ∀ x, x ∈ l → x.total ≤ 1048576 → ∀ σ cs, TreeArg.Rep σ cs x → ∃ cs' σ', Runs G n_laws_toTreeArg [.agg cs] σ (.agg cs') σ' ∧ Lh σ σ' ∧ TreeArg.Rep (wipe σ.length σ') cs' x) {r : Nat} (hre : σe.length ≤ r) :
    ∀ (d i : Nat) (σ : Heap), i + d = l.length → Lh σe σ → r < σ.length → Under 2 (TreeArg.Rep (wipe (r + 1) σ)) σ r i l → ∃ σ', Lh σe σ' ∧ r < σ'.length ∧ Under 2 (TreeArg.Rep (wipe (r + 1) σ')) σ' r l.length l ∧
      Ev fun k => ∀ m, d < m → (laws_toTreeArgS.L0 k m [.v v, .v (.sl r 0 l.length true), .v (.int .i64 i)] σ).bind (laws_toTreeArgS.A0 k) = some (.sl r 0 l.length true, σ')
  | 0, i, σ, hi, hl, hr, hu => ⟨σ, hl, hr, (show i = l.length by omega) ▸ hu, Ev.now fun k m hm => by
    obtain ⟨m, rfl⟩ : ∃ j, m = j + 1 := ⟨m - 1, by omega⟩
    rw [laws_toTreeArgS.L0_step, h.vlen]
    have : ¬ i < l.length := by omega
    simp [this, laws_toTreeArgS.A0_x0]⟩
  | d + 1, i, σ, hi, hl, hr0, hu => by
    have hlt : i < l.length := by omega
    obtain ⟨r', o, hv, cs, hr, hP⟩ := h.at hlt
    have hm : l[i] ∈ l := List.getElem_mem hlt
    have hg : l[i]? = some l[i] := List.getElem?_eq_getElem hlt
    have htx : TreeArg.total l[i] ≤ 1048576 := Nat.le_trans (totS_mem TreeArg.total hm) (by omega)
    generalize l[i] = x at hP hm hg htx
    have hr2 := hl.rdc hr
    have hw : IntKind.wrap .i64 ((i : Int) + 1) = ((i + 1 : Nat) : Int) := wrap_id (by omega) (by omega)
    have hv2 : vidx 2 (.sl r 0 l.length true) (i : Int) = some (r, i * 2) := by simp [vidx, hlt]
    obtain ⟨cs', σ1, hc, hl1, hR⟩ := hx x hm htx σ cs (TreeArg.Rep.le hl hP)
    have hu1 : Under 2 (TreeArg.Rep (wipe (r + 1) σ1)) σ1 r i l := hu.mono hl1 fun cs y hy hcs => TreeArg.Rep.le (hl1.wipeBoth _) hcs
    obtain ⟨row, hwr, hu2⟩ := hu1.step hg hR.len (TreeArg.Rep.le (Lh.wipeLess σ1 (show r + 1 ≤ σ.length by omega)) hR)
    have hu3 : Under 2 (TreeArg.Rep (wipe (r + 1) (σ1.set r (some row)))) (σ1.set r (some row)) r (i + 1) l := by rw [wipe_set (by omega)]; exact hu2
    obtain ⟨σ', g1, g2, g3, g4⟩ := toTreeArgS_loop hf h hx hre d (i + 1) (σ1.set r (some row)) (by omega) ((hl.trans hl1).set hre _) (by rw [List.length_set]; exact Nat.lt_of_lt_of_le hr0 hl1.len) hu3
    refine ⟨σ', g1, g2, g3, Ev.mono (Ev.and hc g4) fun k ⟨e1, e2⟩ m hm => ?_⟩
    obtain ⟨m, rfl⟩ : ∃ j, m = j + 1 := ⟨m - 1, by omega⟩
    cases hP with
    | mk =>
    cases hR with
    | mk =>
    rw [laws_toTreeArgS.L0_step, h.vlen]
    simp [hlt, hv, hr2, hv2, e1, hwr]
    rw [hw]
    exact e2 m (by omega)
theorem toTreeArgS_runs {σ : Heap} {v : V} {l : List TreeArg} (hf : l.length + totS TreeArg.total l ≤ 1048576) (h : RepS 2 (TreeArg.Rep σ) σ v l)
    (hx : ∀ x, x ∈ l → x.total ≤ 1048576 → ∀ σ cs, TreeArg.Rep σ cs x → ∃ cs' σ', Runs G n_laws_toTreeArg [.agg cs] σ (.agg cs') σ' ∧ Lh σ σ' ∧ TreeArg.Rep (wipe σ.length σ') cs' x) :
    ∃ v' σ', Runs G n_laws_toTreeArgS [v] σ v' σ' ∧ Lh σ σ' ∧ RepS 2 (TreeArg.Rep (wipe σ.length σ')) (wipe σ.length σ') v' l := by
  obtain ⟨σ', g1, g2, g3, g4⟩ := toTreeArgS_loop hf h hx (Nat.le_refl _) l.length 0 (hnew σ 2 (List.replicate l.length [.str (⟨#[]⟩ : ByteArray), .int .i64 0]).flatten) (by omega) (Lh.new _ _ _) (by simp [hnew]) (Under.new _ (by simp))
  refine ⟨_, σ', Runs.mk ?_, g1, (g3.mono (Lh.refl _) fun cs x hx hc => TreeArg.Rep.le (Lh.wipeLess _ (by omega)) hc).done (fun row hro hrow => wipe_get.2 ⟨Nat.le_refl _, hrow, hro⟩) true⟩
  refine (Ev.far l.length g4).mono fun k ⟨e1, hk⟩ => ?_
  have e2 := e1 k hk
  rw [laws_toTreeArgS.eq, h.vlen]
  simp only [Option.bind_some, Int.toNat_natCast]
  rw [if_pos (by omega)]
  exact e2
theorem eqTreeArgS_loop {σ : Heap} {v v' : V} {l l' : List TreeArg} (hf : l.length ≤ 9223372036854775807) (hll : l'.length = l.length) (h : RepS 2 (TreeArg.Rep σ) σ v l) (h' : RepS 2 (TreeArg.Rep σ) σ v' l')
    (hx : ∀ x, x ∈ l → ∀ y cs cs', TreeArg.Rep σ cs x → TreeArg.Rep σ cs' y → ∃ b, Runs G n_laws_eqTreeArg [.agg cs, .agg cs'] σ (.bool b) σ ∧ (b = true ↔ x = y)) :
    ∀ (d i : Nat), i + d = l.length → ∃ b, (b = true ↔ l.drop i = l'.drop i) ∧ Ev fun k => ∀ m, d < m → (laws_eqTreeArgS.L0 k m [.v v, .v v', .v (.int .i64 i)] σ).bind (laws_eqTreeArgS.A0 k) = some (.bool b, σ)
  | 0, i, hi => ⟨true, by rw [List.drop_eq_nil_of_le (show l.length ≤ i by omega), List.drop_eq_nil_of_le (show l'.length ≤ i by omega)]; simp, Ev.now fun k m hm => by
    obtain ⟨m, rfl⟩ : ∃ j, m = j + 1 := ⟨m - 1, by omega⟩
    rw [laws_eqTreeArgS.L0_step, h.vlen]
    have : ¬ i < l.length := by omega
    simp [this, laws_eqTreeArgS.A0_x0]⟩
  | d + 1, i, hi => by
    have hlt : i < l.length := by omega
    have hlt' : i < l'.length := by omega
    obtain ⟨r, o, hv, cs, hr, hP⟩ := h.at hlt
    obtain ⟨r', o', hv', cs', hr', hP'⟩ := h'.at hlt'
    have hm : l[i] ∈ l := List.getElem_mem hlt
    have hd : l.drop i = l[i] :: l.drop (i + 1) := List.drop_eq_getElem_cons hlt
    have hd' : l'.drop i = l'[i] :: l'.drop (i + 1) := List.drop_eq_getElem_cons hlt'
    generalize l[i] = x at hP hm hd
    generalize l'[i] = y at hP' hd'
    have hw : IntKind.wrap .i64 ((i : Int) + 1) = ((i + 1 : Nat) : Int) := wrap_id (by omega) (by omega)
    obtain ⟨b2, i2, c2⟩ := eqTreeArgS_loop hf hll h h' hx d (i + 1) (by omega)
    obtain ⟨b1, c1, i1⟩ := hx x hm y cs cs' hP hP'
    cases hP with
    | mk =>
    cases hP' with
    | mk =>
    cases b1 with
    | false =>
      refine ⟨false, ?_, c1.mono fun k e1 m hm => ?_⟩
      · rw [hd, hd']; simp at i1 ⊢; intro hc; exact absurd hc i1
      · obtain ⟨m, rfl⟩ : ∃ j, m = j + 1 := ⟨m - 1, by omega⟩
        rw [laws_eqTreeArgS.L0_step, h.vlen]
        simp [hlt, hv, hr, hv', hr', e1, laws_eqTreeArgS.A0_ret]
    | true =>
      refine ⟨b2, ?_, (c1.and c2).mono fun k ⟨e1, e2⟩ m hm => ?_⟩
      · have hxy : x = y := i1.1 rfl
        rw [hd, hd', i2, hxy]; simp
      · obtain ⟨m, rfl⟩ : ∃ j, m = j + 1 := ⟨m - 1, by omega⟩
        rw [laws_eqTreeArgS.L0_step, h.vlen]
        simp [hlt, hv, hr, hv', hr', e1]
        rw [hw]
        exact e2 m (by omega)
theorem eqTreeArgS_runs {σ : Heap} {v v' : V} {l l' : List TreeArg} (hf : l.length ≤ 9223372036854775807) (h : RepS 2 (TreeArg.Rep σ) σ v l) (h' : RepS 2 (TreeArg.Rep σ) σ v' l')
    (hx : ∀ x, x ∈ l → ∀ y cs cs', TreeArg.Rep σ cs x → TreeArg.Rep σ cs' y → ∃ b, Runs G n_laws_eqTreeArg [.agg cs, .agg cs'] σ (.bool b) σ ∧ (b = true ↔ x = y)) :
    ∃ b, Runs G n_laws_eqTreeArgS [v, v'] σ (.bool b) σ ∧ (b = true ↔ l = l') := by
  by_cases hll : l'.length = l.length
  · obtain ⟨b, i1, c1⟩ := eqTreeArgS_loop hf hll h h' hx l.length 0 (by omega)
    refine ⟨b, Runs.mk ((Ev.far l.length c1).mono fun k ⟨e1, hk⟩ => ?_), by simpa using i1⟩
    have e2 := e1 k hk
    rw [laws_eqTreeArgS.eq, h.vlen, h'.vlen]
    simp only [Option.bind_some, hll, decide_true, Bool.not_true, cond_false]
    exact e2
  · refine ⟨false, Runs.mk (Ev.now fun k => ?_), by simp; intro hc; rw [hc] at hll; exact hll rfl⟩
    rw [laws_eqTreeArgS.eq, h.vlen, h'.vlen]
    have : ¬ (l.length : Int) = (l'.length : Int) := by omega
    simp [this]
theorem szTreeExprS_loop {σ : Heap} {v : V} {l : List TreeExpr} (hf : l.length ≤ 9223372036854775807) (h : RepS 5 (TreeExpr.Rep σ) σ v l)
    (hx : ∀ x, x ∈ l → ∀ cs b, TreeExpr.Rep σ cs x → 0 ≤ b → b ≤ 1099511627776 → Runs G n_laws_szTreeExpr [.agg cs, .int .i64 b] σ (.int .i64 (sub b x.total)) σ) :
    ∀ (d i : Nat) (b : Int), i + d = l.length → 0 ≤ b → b ≤ 1099511627776 → Ev fun k => ∀ m, d < m →
      (laws_szTreeExprS.L0 k m [.v v, .v (.int .i64 b), .v (.int .i64 i)] σ).bind (laws_szTreeExprS.A0 k) = some (.int .i64 (sub b (totS TreeExpr.total (l.drop i))), σ)
  | 0, i, b, hi, h0, h1 => Ev.now fun k m hm => by
    obtain ⟨m, rfl⟩ : ∃ j, m = j + 1 := ⟨m - 1, by omega⟩
    rw [laws_szTreeExprS.L0_step, h.vlen]
    have : ¬ i < l.length := by omega
    simp [this, laws_szTreeExprS.A0_x0, List.drop_eq_nil_of_le (show l.length ≤ i by omega), totS, sub]
    omega
  | d + 1, i, b, hi, h0, h1 => by
    have hlt : i < l.length := by omega
    obtain ⟨r, o, hv, cs, hr, hP⟩ := h.at hlt
    have hm : l[i] ∈ l := List.getElem_mem hlt
    have hc := hx _ hm cs b hP h0 h1
    have hd : l.drop i = l[i] :: l.drop (i + 1) := List.drop_eq_getElem_cons hlt
    generalize l[i] = x at hP hm hc hd
    obtain ⟨c, hcx⟩ : ∃ c, c = sub b x.total := ⟨_, rfl⟩
    rw [← hcx] at hc
    cases hP with
    | mk =>
    have hsc := sub_cases b x.total
    rw [← hcx] at hsc
    have hw : IntKind.wrap .i64 ((i : Int) + 1) = ((i + 1 : Nat) : Int) := wrap_id (by omega) (by omega)
    by_cases hneg : c < 0
    · refine Ev.mono hc fun k e1 m hm => ?_
      obtain ⟨m, rfl⟩ : ∃ j, m = j + 1 := ⟨m - 1, by omega⟩
      rw [laws_szTreeExprS.L0_step, h.vlen]
      
      have hres : sub b (x.total + totS TreeExpr.total (l.drop (i + 1))) = -1 := by rw [← sub_add, ← hcx, if_pos hneg]
      simp [hlt, hv, hr, e1, hneg, laws_szTreeExprS.A0_ret, hd, totS, hres]
    · have hres : sub b (x.total + totS TreeExpr.total (l.drop (i + 1))) = sub c (totS TreeExpr.total (l.drop (i + 1))) := by rw [← sub_add, ← hcx, if_neg hneg]
      refine Ev.mono (Ev.and hc (szTreeExprS_loop hf h hx d (i + 1) c (by omega) (by omega) (by omega))) fun k ⟨e1, e2⟩ m hm => ?_
      obtain ⟨m, rfl⟩ : ∃ j, m = j + 1 := ⟨m - 1, by omega⟩
      rw [laws_szTreeExprS.L0_step, h.vlen]
      
      
      simp [hlt, hv, hr, e1, hneg, hd, totS, hres]
      rw [hw]
      exact e2 m (by omega)
theorem szTreeExprS_runs {σ : Heap} {v : V} {l : List TreeExpr} (hf : l.length ≤ 9223372036854775807) (h : RepS 5 (TreeExpr.Rep σ) σ v l)
    (hx : ∀ x, x ∈ l → ∀ cs b, TreeExpr.Rep σ cs x → 0 ≤ b → b ≤ 1099511627776 → Runs G n_laws_szTreeExpr [.agg cs, .int .i64 b] σ (.int .i64 (sub b x.total)) σ) {b : Int} (h0 : 0 ≤ b) (h1 : b ≤ 1099511627776) :
    Runs G n_laws_szTreeExprS [v, .int .i64 b] σ (.int .i64 (sub b (l.length + totS TreeExpr.total l))) σ := by
  refine Runs.mk ?_
  obtain ⟨c, hc⟩ : ∃ c, c = sub b l.length := ⟨_, rfl⟩
  have hsc := sub_cases b l.length
  rw [← hc] at hsc
  have hw : IntKind.wrap .i64 (b - (l.length : Int)) = b - (l.length : Int) := wrap_id (by omega) (by omega)
  by_cases hneg : c < 0
  · refine Ev.now fun k => ?_
    have hlt0 : b - (l.length : Int) < 0 := by omega
    have hres : sub b (l.length + totS TreeExpr.total l) = -1 := by rw [← sub_add, ← hc, if_pos hneg]
    rw [laws_szTreeExprS.eq, h.vlen]
    simp [hw, hlt0, hres]
  · have hlt0 : ¬ b - (l.length : Int) < 0 := by omega
    have hwc : IntKind.wrap .i64 (b - (l.length : Int)) = c := by rw [hw]; omega
    have hres : sub b (l.length + totS TreeExpr.total l) = sub c (totS TreeExpr.total l) := by rw [← sub_add, ← hc, if_neg hneg]
    refine (Ev.far l.length (szTreeExprS_loop hf h hx l.length 0 c (by omega) (by omega) (by omega))).mono fun k ⟨e1, hk⟩ => ?_
    have e2 := e1 k hk
    rw [laws_szTreeExprS.eq, h.vlen]
    simp only [Option.bind_some, hwc, hneg, decide_false, cond_false, hres]
    exact e2
theorem toTreeExprS_loop {σe : Heap} {v : V} {l : List TreeExpr} (hf : l.length + totS TreeExpr.total l ≤ 1048576) (h : RepS 5 (TreeExpr.Rep σe) σe v l)
    (hx : ∀ x, x ∈ l → x.total ≤ 1048576 → ∀ σ cs, TreeExpr.Rep σ cs x → ∃ cs' σ', Runs G n_laws_toTreeExpr [.agg cs] σ (.agg cs') σ' ∧ Lh σ σ' ∧ TreeExpr.Rep (wipe σ.length σ') cs' x) {r : Nat} (hre : σe.length ≤ r) :
    ∀ (d i : Nat) (σ : Heap), i + d = l.length → Lh σe σ → r < σ.length → Under 5 (TreeExpr.Rep (wipe (r + 1) σ)) σ r i l → ∃ σ', Lh σe σ' ∧ r < σ'.length ∧ Under 5 (TreeExpr.Rep (wipe (r + 1) σ')) σ' r l.length l ∧
      Ev fun k => ∀ m, d < m → (laws_toTreeExprS.L0 k m [.v v, .v (.sl r 0 l.length true), .v (.int .i64 i)] σ).bind (laws_toTreeExprS.A0 k) = some (.sl r 0 l.length true, σ')
  | 0, i, σ, hi, hl, hr, hu => ⟨σ, hl, hr, (show i = l.length by omega) ▸ hu, Ev.now fun k m hm => by
    obtain ⟨m, rfl⟩ : ∃ j, m = j + 1 := ⟨m - 1, by omega⟩
    rw [laws_toTreeExprS.L0_step, h.vlen]
    have : ¬ i < l.length := by omega
    simp [this, laws_toTreeExprS.A0_x0]⟩
  | d + 1, i, σ, hi, hl, hr0, hu => by
    have hlt : i < l.length := by omega
    obtain ⟨r', o, hv, cs, hr, hP⟩ := h.at hlt
    have hm : l[i] ∈ l := List.getElem_mem hlt
    have hg : l[i]? = some l[i] := List.getElem?_eq_getElem hlt
    have htx : TreeExpr.total l[i] ≤ 1048576 := Nat.le_trans (totS_mem TreeExpr.total hm) (by omega)
    generalize l[i] = x at hP hm hg htx
    have hr2 := hl.rdc hr
    have hw : IntKind.wrap .i64 ((i : Int) + 1) = ((i + 1 : Nat) : Int) := wrap_id (by omega) (by omega)
    have hv2 : vidx 5 (.sl r 0 l.length true) (i : Int) = some (r, i * 5) := by simp [vidx, hlt]
    obtain ⟨cs', σ1, hc, hl1, hR⟩ := hx x hm htx σ cs (TreeExpr.Rep.le hl x hP)
    have hu1 : Under 5 (TreeExpr.Rep (wipe (r + 1) σ1)) σ1 r i l := hu.mono hl1 fun cs y hy hcs => TreeExpr.Rep.le (hl1.wipeBoth _) y hcs
    obtain ⟨row, hwr, hu2⟩ := hu1.step hg hR.len (TreeExpr.Rep.le (Lh.wipeLess σ1 (show r + 1 ≤ σ.length by omega)) x hR)
    have hu3 : Under 5 (TreeExpr.Rep (wipe (r + 1) (σ1.set r (some row)))) (σ1.set r (some row)) r (i + 1) l := by rw [wipe_set (by omega)]; exact hu2
    obtain ⟨σ', g1, g2, g3, g4⟩ := toTreeExprS_loop hf h hx hre d (i + 1) (σ1.set r (some row)) (by omega) ((hl.trans hl1).set hre _) (by rw [List.length_set]; exact Nat.lt_of_lt_of_le hr0 hl1.len) hu3
    refine ⟨σ', g1, g2, g3, Ev.mono (Ev.and hc g4) fun k ⟨e1, e2⟩ m hm => ?_⟩
    obtain ⟨m, rfl⟩ : ∃ j, m = j + 1 := ⟨m - 1, by omega⟩
    cases hP with
    | mk =>
    cases hR with
    | mk =>
    rw [laws_toTreeExprS.L0_step, h.vlen]
    simp [hlt, hv, hr2, hv2, e1, hwr]
    rw [hw]
    exact e2 m (by omega)
theorem toTreeExprS_runs {σ : Heap} {v : V} {l : List TreeExpr} (hf : l.length + totS TreeExpr.total l ≤ 1048576) (h : RepS 5 (TreeExpr.Rep σ) σ v l)
    (hx : ∀ x, x ∈ l → x.total ≤ 1048576 → ∀ σ cs, TreeExpr.Rep σ cs x → ∃ cs' σ', Runs G n_laws_toTreeExpr [.agg cs] σ (.agg cs') σ' ∧ Lh σ σ' ∧ TreeExpr.Rep (wipe σ.length σ') cs' x) :
    ∃ v' σ', Runs G n_laws_toTreeExprS [v] σ v' σ' ∧ Lh σ σ' ∧ RepS 5 (TreeExpr.Rep (wipe σ.length σ')) (wipe σ.length σ') v' l := by
  obtain ⟨σ', g1, g2, g3, g4⟩ := toTreeExprS_loop hf h hx (Nat.le_refl _) l.length 0 (hnew σ 5 (List.replicate l.length [.int .i64 0, .int .i64 0, .str (⟨#[]⟩ : ByteArray), .str (⟨#[]⟩ : ByteArray), .nils]).flatten) (by omega) (Lh.new _ _ _) (by simp [hnew]) (Under.new _ (by simp))
  refine ⟨_, σ', Runs.mk ?_, g1, (g3.mono (Lh.refl _) fun cs x hx hc => TreeExpr.Rep.le (Lh.wipeLess _ (by omega)) x hc).done (fun row hro hrow => wipe_get.2 ⟨Nat.le_refl _, hrow, hro⟩) true⟩
  refine (Ev.far l.length g4).mono fun k ⟨e1, hk⟩ => ?_
  have e2 := e1 k hk
  rw [laws_toTreeExprS.eq, h.vlen]
  simp only [Option.bind_some, Int.toNat_natCast]
  rw [if_pos (by omega)]
  exact e2
theorem eqTreeExprS_loop {σ : Heap} {v v' : V} {l l' : List TreeExpr} (hf : l.length ≤ 9223372036854775807) (hll : l'.length = l.length) (h : RepS 5 (TreeExpr.Rep σ) σ v l) (h' : RepS 5 (TreeExpr.Rep σ) σ v' l')
    (hx : ∀ x, x ∈ l → ∀ y cs cs', TreeExpr.Rep σ cs x → TreeExpr.Rep σ cs' y → ∃ b, Runs G n_laws_eqTreeExpr [.agg cs, .agg cs'] σ (.bool b) σ ∧ (b = true ↔ x = y)) :
    ∀ (d i : Nat), i + d = l.length → ∃ b, (b = true ↔ l.drop i = l'.drop i) ∧ Ev fun k => ∀ m, d < m → (laws_eqTreeExprS.L0 k m [.v v, .v v', .v (.int .i64 i)] σ).bind (laws_eqTreeExprS.A0 k) = some (.bool b, σ)
  | 0, i, hi => ⟨true, by rw [List.drop_eq_nil_of_le (show l.length ≤ i by omega), List.drop_eq_nil_of_le (show l'.length ≤ i by omega)]; simp, Ev.now fun k m hm => by
    obtain ⟨m, rfl⟩ : ∃ j, m = j + 1 := ⟨m - 1, by omega⟩
    rw [laws_eqTreeExprS.L0_step, h.vlen]
    have : ¬ i < l.length := by omega
    simp [this, laws_eqTreeExprS.A0_x0]⟩
  | d + 1, i, hi => by
    have hlt : i < l.length := by omega
    have hlt' : i < l'.length := by omega
    obtain ⟨r, o, hv, cs, hr, hP⟩ := h.at hlt
    obtain ⟨r', o', hv', cs', hr', hP'⟩ := h'.at hlt'
    have hm : l[i] ∈ l := List.getElem_mem hlt
    have hd : l.drop i = l[i] :: l.drop (i + 1) := List.drop_eq_getElem_cons hlt
    have hd' : l'.drop i = l'[i] :: l'.drop (i + 1) := List.drop_eq_getElem_cons hlt'
    generalize l[i] = x at hP hm hd
    generalize l'[i] = y at hP' hd'
    have hw : IntKind.wrap .i64 ((i : Int) + 1) = ((i + 1 : Nat) : Int) := wrap_id (by omega) (by omega)
    obtain ⟨b2, i2, c2⟩ := eqTreeExprS_loop hf hll h h' hx d (i + 1) (by omega)
    obtain ⟨b1, c1, i1⟩ := hx x hm y cs cs' hP hP'
    cases hP with
    | mk =>
    cases hP' with
    | mk =>
    cases b1 with
    | false =>
      refine ⟨false, ?_, c1.mono fun k e1 m hm => ?_⟩
      · rw [hd, hd']; simp at i1 ⊢; intro hc; exact absurd hc i1
      · obtain ⟨m, rfl⟩ : ∃ j, m = j + 1 := ⟨m - 1, by omega⟩
        rw [laws_eqTreeExprS.L0_step, h.vlen]
        simp [hlt, hv, hr, hv', hr', e1, laws_eqTreeExprS.A0_ret]
    | true =>
      refine ⟨b2, ?_, (c1.and c2).mono fun k ⟨e1, e2⟩ m hm => ?_⟩
      · have hxy : x = y := i1.1 rfl
        rw [hd, hd', i2, hxy]; simp
      · obtain ⟨m, rfl⟩ : ∃ j, m = j + 1 := ⟨m - 1, by omega⟩
        rw [laws_eqTreeExprS.L0_step, h.vlen]
        simp [hlt, hv, hr, hv', hr', e1]
        rw [hw]
        exact e2 m (by omega)
theorem eqTreeExprS_runs {σ : Heap} {v v' : V} {l l' : List TreeExpr} (hf : l.length ≤ 9223372036854775807) (h : RepS 5 (TreeExpr.Rep σ) σ v l) (h' : RepS 5 (TreeExpr.Rep σ) σ v' l')
    (hx : ∀ x, x ∈ l → ∀ y cs cs', TreeExpr.Rep σ cs x → TreeExpr.Rep σ cs' y → ∃ b, Runs G n_laws_eqTreeExpr [.agg cs, .agg cs'] σ (.bool b) σ ∧ (b = true ↔ x = y)) :
    ∃ b, Runs G n_laws_eqTreeExprS [v, v'] σ (.bool b) σ ∧ (b = true ↔ l = l') := by
  by_cases hll : l'.length = l.length
  · obtain ⟨b, i1, c1⟩ := eqTreeExprS_loop hf hll h h' hx l.length 0 (by omega)
    refine ⟨b, Runs.mk ((Ev.far l.length c1).mono fun k ⟨e1, hk⟩ => ?_), by simpa using i1⟩
    have e2 := e1 k hk
    rw [laws_eqTreeExprS.eq, h.vlen, h'.vlen]
    simp only [Option.bind_some, hll, decide_true, Bool.not_true, cond_false]
    exact e2
  · refine ⟨false, Runs.mk (Ev.now fun k => ?_), by simp; intro hc; rw [hc] at hll; exact hll rfl⟩
    rw [laws_eqTreeExprS.eq, h.vlen, h'.vlen]
    have : ¬ (l.length : Int) = (l'.length : Int) := by omega
    simp [this]
theorem szTreeExpr_runs {σ : Heap} (e : TreeExpr) (hf : e.Fit) {cs : List V} (hr : TreeExpr.Rep σ cs e) {b : Int} (h0 : 0 ≤ b) (h1 : b ≤ 1099511627776) : Runs G n_laws_szTreeExpr [.agg cs, .int .i64 b] σ (.int .i64 (sub b e.total)) σ := by
  have ht := TreeExpr.total_eq e
  cases hf with
  | mk f0 f1 f2 f3 f4 f5 =>
  cases hr with
  | mk r0 =>
  have hs := sub_cases b e.total
  refine Runs.mk ?_
  obtain ⟨b1, w1⟩ : ∃ x, x = b - (e.name.size : Int) := ⟨_, rfl⟩
  have v1 : IntKind.wrap .i64 (b - (e.name.size : Int)) = b1 := by rw [w1]; exact wrap_id (by omega) (by omega)
  by_cases n1 : b1 < 0
  · refine Ev.now fun k => ?_
    have hres : sub b e.total = -1 := by omega
    rw [laws_szTreeExpr.eq]
    simp [v1, n1, hres]
  have p1 : 0 ≤ b1 := by omega
  obtain ⟨b2, w2⟩ : ∃ x, x = b1 - (e.mod.size : Int) := ⟨_, rfl⟩
  have v2 : IntKind.wrap .i64 (b1 - (e.mod.size : Int)) = b2 := by rw [w2]; exact wrap_id (by omega) (by omega)
  by_cases n2 : b2 < 0
  · refine Ev.now fun k => ?_
    have hres : sub b e.total = -1 := by omega
    rw [laws_szTreeExpr.eq]
    simp [v1, n1, v2, n2, hres]
  have p2 : 0 ≤ b2 := by omega
  obtain ⟨b3, w3⟩ : ∃ x, x = sub b2 (e.kids.length + totS TreeExpr.total e.kids) := ⟨_, rfl⟩
  have c3 := szTreeExprS_runs (l := e.kids) f4 r0 (fun x hx cs b hr h0 h1 => szTreeExpr_runs x (f5 x hx) hr h0 h1) (b := b2) (by omega) (by omega)
  rw [← w3] at c3
  have s3 := sub_cases b2 (e.kids.length + totS TreeExpr.total e.kids)
  rw [← w3] at s3
  by_cases n3 : b3 < 0
  · refine Ev.mono c3 fun k e3 => ?_
    have hres : sub b e.total = -1 := by omega
    rw [laws_szTreeExpr.eq]
    simp [v1, n1, v2, n2, e3, n3, hres]
  have p3 : 0 ≤ b3 := by omega
  refine Ev.mono c3 fun k e3 => ?_
  have hres : sub b e.total = b3 := by omega
  rw [laws_szTreeExpr.eq]
  simp [v1, n1, v2, n2, e3, n3, hres]
termination_by SizeOf.sizeOf e
decreasing_by
  cases e
  have := List.sizeOf_lt_of_mem hx
  simp at this ⊢
  omega
theorem toTreeExpr_runs (e : TreeExpr) (ht : e.total ≤ 1048576) {σ : Heap} {cs : List V} (hr : TreeExpr.Rep σ cs e) : ∃ cs' σ', Runs G n_laws_toTreeExpr [.agg cs] σ (.agg cs') σ' ∧ Lh σ σ' ∧ TreeExpr.Rep (wipe σ.length σ') cs' e := by
  rw [TreeExpr.total_eq] at ht
  cases hr with
  | mk r0 =>
  have l0 := Lh.refl σ
  obtain ⟨v1, σ1, c1, k1, d1⟩ := toTreeExprS_runs (σ := σ) (l := e.kids) (by omega) (r0.mono l0 fun cs x hx hc => TreeExpr.Rep.le l0 x hc) (fun x hx ht σ cs hr => toTreeExpr_runs x ht hr)
  have g1 := d1.flat
  have l1 := l0.trans k1
  have ll1 : Lh σ1 σ1 := Lh.refl _
  refine ⟨_, σ1, Runs.mk (Ev.mono c1 fun k e1 => ?_), l1, .mk (d1.mono (Lh.fresh l0 (ll1)) fun cs x hx hc => TreeExpr.Rep.le (Lh.fresh l0 (ll1)) x hc)⟩
  rw [laws_toTreeExpr.eq]
  simp [e1, one_of g1]
termination_by SizeOf.sizeOf e
decreasing_by
  cases e
  have := List.sizeOf_lt_of_mem hx
  simp at this ⊢
  omega
theorem eqTreeExpr_runs {σ : Heap} (e e' : TreeExpr) (hf : e.Fit) {cs cs' : List V} (hr : TreeExpr.Rep σ cs e) (hr' : TreeExpr.Rep σ cs' e') : ∃ b, Runs G n_laws_eqTreeExpr [.agg cs, .agg cs'] σ (.bool b) σ ∧ (b = true ↔ e = e') := by
  cases hf with
  | mk f0 f1 f2 f3 f4 f5 =>
  cases hr with
  | mk r0 =>
  cases hr' with
  | mk t0 =>
  by_cases nn : ¬ e.kind = e'.kind
  · refine ⟨false, Runs.mk (Ev.now fun k => ?_), by simp; intro hc; rw [hc] at nn; exact absurd rfl nn⟩
    rw [laws_eqTreeExpr.eq]
    simp [nn]
  have q1 := Classical.not_not.1 nn
  clear nn
  by_cases nn : ¬ e.num = e'.num
  · refine ⟨false, Runs.mk (Ev.now fun k => ?_), by simp; intro hc; rw [hc] at nn; exact absurd rfl nn⟩
    rw [laws_eqTreeExpr.eq]
    simp [q1, nn]
  have q2 := Classical.not_not.1 nn
  clear nn
  by_cases nn : ¬ e.name = e'.name
  · refine ⟨false, Runs.mk (Ev.now fun k => ?_), by simp; intro hc; rw [hc] at nn; exact absurd rfl nn⟩
    rw [laws_eqTreeExpr.eq]
    simp [q1, q2, nn]
  have q3 := Classical.not_not.1 nn
  clear nn
  by_cases nn : ¬ e.mod = e'.mod
  · refine ⟨false, Runs.mk (Ev.now fun k => ?_), by simp; intro hc; rw [hc] at nn; exact absurd rfl nn⟩
    rw [laws_eqTreeExpr.eq]
    simp [q1, q2, q3, nn]
  have q4 := Classical.not_not.1 nn
  clear nn
  obtain ⟨b5, c5, i5⟩ := eqTreeExprS_runs (l := e.kids) (l' := e'.kids) f4 r0 t0 (fun x hx y cs cs' hr hr' => eqTreeExpr_runs x y (f5 x hx) hr hr')
  by_cases u5 : b5 = false
  · have nn : ¬ e.kids = e'.kids := fun hc => by have := i5.2 hc; rw [u5] at this; cases this
    subst u5
    refine ⟨false, Runs.mk (Ev.mono c5 fun k e5 => ?_), by simp; intro hc; rw [hc] at nn; exact absurd rfl nn⟩
    rw [laws_eqTreeExpr.eq]
    simp [q1, q2, q3, q4, e5]
  have u5' : b5 = true := by cases b5 <;> simp_all
  clear u5
  have q5 := i5.1 u5'
  subst u5'
  refine ⟨true, Runs.mk (Ev.mono c5 fun k e5 => ?_), by simp; cases e; cases e'; simp at q1 q2 q3 q4 q5 ⊢; exact ⟨q1, q2, q3, q4, q5⟩⟩
  rw [laws_eqTreeExpr.eq]
  simp [q1, q2, q3, q4, e5]
termination_by SizeOf.sizeOf e
decreasing_by
  cases e
  have := List.sizeOf_lt_of_mem hx
  simp at this ⊢
  omega
theorem szTreeFun_runs {σ : Heap} (e : TreeFun) (hf : e.Fit) {cs : List V} (hr : TreeFun.Rep σ cs e) {b : Int} (h0 : 0 ≤ b) (h1 : b ≤ 1099511627776) : Runs G n_laws_szTreeFun [.agg cs, .int .i64 b] σ (.int .i64 (sub b e.total)) σ := by
  have ht := TreeFun.total_eq e
  cases hf with
  | mk f0 f1 f2 f3 f4 =>
  cases hr with
  | mk r0 r1 =>
  have hs := sub_cases b e.total
  refine Runs.mk ?_
  obtain ⟨b1, w1⟩ : ∃ x, x = b - (e.name.size : Int) := ⟨_, rfl⟩
  have v1 : IntKind.wrap .i64 (b - (e.name.size : Int)) = b1 := by rw [w1]; exact wrap_id (by omega) (by omega)
  by_cases n1 : b1 < 0
  · refine Ev.now fun k => ?_
    have hres : sub b e.total = -1 := by omega
    rw [laws_szTreeFun.eq]
    simp [v1, n1, hres]
  have p1 : 0 ≤ b1 := by omega
  obtain ⟨b2, w2⟩ : ∃ x, x = sub b1 (e.args.length + totS TreeArg.total e.args) := ⟨_, rfl⟩
  have c2 := szTreeArgS_runs (l := e.args) f1 r0 (fun x hx cs b hr h0 h1 => szTreeArg_runs x (f2 x hx) hr h0 h1) (b := b1) (by omega) (by omega)
  rw [← w2] at c2
  have s2 := sub_cases b1 (e.args.length + totS TreeArg.total e.args)
  rw [← w2] at s2
  by_cases n2 : b2 < 0
  · refine Ev.mono c2 fun k e2 => ?_
    have hres : sub b e.total = -1 := by omega
    rw [laws_szTreeFun.eq]
    simp [v1, n1, e2, n2, hres]
  have p2 : 0 ≤ b2 := by omega
  obtain ⟨b3, w3⟩ : ∃ x, x = sub b2 e.body.total := ⟨_, rfl⟩
  have c3 := szTreeExpr_runs e.body f4 (.mk r1) (b := b2) (by omega) (by omega)
  rw [← w3] at c3
  have s3 := sub_cases b2 e.body.total
  rw [← w3] at s3
  by_cases n3 : b3 < 0
  · refine Ev.mono (Ev.and c2 c3) fun k ⟨e2, e3⟩ => ?_
    have hres : sub b e.total = -1 := by omega
    rw [laws_szTreeFun.eq]
    simp [v1, n1, e2, n2, e3, n3, hres]
  have p3 : 0 ≤ b3 := by omega
  refine Ev.mono (Ev.and c2 c3) fun k ⟨e2, e3⟩ => ?_
  have hres : sub b e.total = b3 := by omega
  rw [laws_szTreeFun.eq]
  simp [v1, n1, e2, n2, e3, n3, hres]
theorem toTreeFun_runs (e : TreeFun) (ht : e.total ≤ 1048576) {σ : Heap} {cs : List V} (hr : TreeFun.Rep σ cs e) : ∃ cs' σ', Runs G n_laws_toTreeFun [.agg cs] σ (.agg cs') σ' ∧ Lh σ σ' ∧ TreeFun.Rep (wipe σ.length σ') cs' e := by
  rw [TreeFun.total_eq] at ht
  cases hr with
  | mk r0 r1 =>
  have l0 := Lh.refl σ
  obtain ⟨v1, σ1, c1, k1, d1⟩ := toTreeArgS_runs (σ := σ) (l := e.args) (by omega) (r0.mono l0 fun cs x hx hc => TreeArg.Rep.le l0 hc) (fun x hx ht σ cs hr => toTreeArg_runs x ht hr)
  have g1 := d1.flat
  have l1 := l0.trans k1
  obtain ⟨v2, σ2, c2, k2, d2⟩ := toTreeExpr_runs e.body (by omega) (TreeExpr.Rep.le l1 e.body (.mk r1))
  have l2 := l1.trans k2
  cases d2 with
  | mk d2_0 =>
  have ll2 : Lh σ2 σ2 := Lh.refl _
  have ll1 : Lh σ1 σ2 := k2.trans ll2
  refine ⟨_, σ2, Runs.mk (Ev.mono (Ev.and c1 c2) fun k ⟨e1, e2⟩ => ?_), l2, .mk (d1.mono (Lh.fresh l0 (ll1)) fun cs x hx hc => TreeArg.Rep.le (Lh.fresh l0 (ll1)) hc) (d2_0.mono (Lh.fresh l1 (ll2)) fun cs x hx hc => TreeExpr.Rep.le (Lh.fresh l1 (ll2)) x hc)⟩
  rw [laws_toTreeFun.eq]
  simp [e1, e2, one_of g1]
theorem eqTreeFun_runs {σ : Heap} (e e' : TreeFun) (hf : e.Fit) {cs cs' : List V} (hr : TreeFun.Rep σ cs e) (hr' : TreeFun.Rep σ cs' e') : ∃ b, Runs G n_laws_eqTreeFun [.agg cs, .agg cs'] σ (.bool b) σ ∧ (b = true ↔ e = e') := by
  cases hf with
  | mk f0 f1 f2 f3 f4 =>
  cases hr with
  | mk r0 r1 =>
  cases hr' with
  | mk t0 t1 =>
  by_cases nn : ¬ e.name = e'.name
  · refine ⟨false, Runs.mk (Ev.now fun k => ?_), by simp; intro hc; rw [hc] at nn; exact absurd rfl nn⟩
    rw [laws_eqTreeFun.eq]
    simp [nn]
  have q1 := Classical.not_not.1 nn
  clear nn
  by_cases nn : ¬ e.pub = e'.pub
  · refine ⟨false, Runs.mk (Ev.now fun k => ?_), by simp; intro hc; rw [hc] at nn; exact absurd rfl nn⟩
    rw [laws_eqTreeFun.eq]
    have nb : (e.pub == e'.pub) = false := by rw [beq_eq_false_iff_ne]; exact nn
    simp [q1, nb]
  have q2 := Classical.not_not.1 nn
  clear nn
  obtain ⟨b3, c3, i3⟩ := eqTreeArgS_runs (l := e.args) (l' := e'.args) f1 r0 t0 (fun x hx y cs cs' hr hr' => eqTreeArg_runs x y (f2 x hx) hr hr')
  by_cases u3 : b3 = false
  · have nn : ¬ e.args = e'.args := fun hc => by have := i3.2 hc; rw [u3] at this; cases this
    subst u3
    refine ⟨false, Runs.mk (Ev.mono c3 fun k e3 => ?_), by simp; intro hc; rw [hc] at nn; exact absurd rfl nn⟩
    rw [laws_eqTreeFun.eq]
    simp [q1, q2, e3]
  have u3' : b3 = true := by cases b3 <;> simp_all
  clear u3
  have q3 := i3.1 u3'
  subst u3'
  by_cases nn : ¬ e.type = e'.type
  · refine ⟨false, Runs.mk (Ev.mono c3 fun k e3 => ?_), by simp; intro hc; rw [hc] at nn; exact absurd rfl nn⟩
    rw [laws_eqTreeFun.eq]
    simp [q1, q2, e3, nn]
  have q4 := Classical.not_not.1 nn
  clear nn
  obtain ⟨b5, c5, i5⟩ := eqTreeExpr_runs e.body e'.body f4 (.mk r1) (.mk t1)
  by_cases u5 : b5 = false
  · have nn : ¬ e.body = e'.body := fun hc => by have := i5.2 hc; rw [u5] at this; cases this
    subst u5
    refine ⟨false, Runs.mk (Ev.mono (Ev.and c3 c5) fun k ⟨e3, e5⟩ => ?_), by simp; intro hc; rw [hc] at nn; exact absurd rfl nn⟩
    rw [laws_eqTreeFun.eq]
    simp [q1, q2, e3, q4, e5]
  have u5' : b5 = true := by cases b5 <;> simp_all
  clear u5
  have q5 := i5.1 u5'
  subst u5'
  refine ⟨true, Runs.mk (Ev.mono (Ev.and c3 c5) fun k ⟨e3, e5⟩ => ?_), by simp; cases e; cases e'; simp at q1 q2 q3 q4 q5 ⊢; exact ⟨q1, q2, q3, q4, q5⟩⟩
  rw [laws_eqTreeFun.eq]
  simp [q1, q2, e3, q4, e5]
theorem szTreeFunS_loop {σ : Heap} {v : V} {l : List TreeFun} (hf : l.length ≤ 9223372036854775807) (h : RepS 9 (TreeFun.Rep σ) σ v l)
    (hx : ∀ x, x ∈ l → ∀ cs b, TreeFun.Rep σ cs x → 0 ≤ b → b ≤ 1099511627776 → Runs G n_laws_szTreeFun [.agg cs, .int .i64 b] σ (.int .i64 (sub b x.total)) σ) :
    ∀ (d i : Nat) (b : Int), i + d = l.length → 0 ≤ b → b ≤ 1099511627776 → Ev fun k => ∀ m, d < m →
      (laws_szTreeFunS.L0 k m [.v v, .v (.int .i64 b), .v (.int .i64 i)] σ).bind (laws_szTreeFunS.A0 k) = some (.int .i64 (sub b (totS TreeFun.total (l.drop i))), σ)
  | 0, i, b, hi, h0, h1 => Ev.now fun k m hm => by
    obtain ⟨m, rfl⟩ : ∃ j, m = j + 1 := ⟨m - 1, by omega⟩
    rw [laws_szTreeFunS.L0_step, h.vlen]
    have : ¬ i < l.length := by omega
    simp [this, laws_szTreeFunS.A0_x0, List.drop_eq_nil_of_le (show l.length ≤ i by omega), totS, sub]
    omega
  | d + 1, i, b, hi, h0, h1 => by
    have hlt : i < l.length := by omega
    obtain ⟨r, o, hv, cs, hr, hP⟩ := h.at hlt
    have hm : l[i] ∈ l := List.getElem_mem hlt
    have hc := hx _ hm cs b hP h0 h1
    have hd : l.drop i = l[i] :: l.drop (i + 1) := List.drop_eq_getElem_cons hlt
    generalize l[i] = x at hP hm hc hd
    obtain ⟨c, hcx⟩ : ∃ c, c = sub b x.total := ⟨_, rfl⟩
    rw [← hcx] at hc
    cases hP with
    | mk =>
    have hsc := sub_cases b x.total
    rw [← hcx] at hsc
    have hw : IntKind.wrap .i64 ((i : Int) + 1) = ((i + 1 : Nat) : Int) := wrap_id (by omega) (by omega)
    by_cases hneg : c < 0
    · refine Ev.mono hc fun k e1 m hm => ?_
      obtain ⟨m, rfl⟩ : ∃ j, m = j + 1 := ⟨m - 1, by omega⟩
      rw [laws_szTreeFunS.L0_step, h.vlen]
      
      have hres : sub b (x.total + totS TreeFun.total (l.drop (i + 1))) = -1 := by rw [← sub_add, ← hcx, if_pos hneg]
      simp [hlt, hv, hr, e1, hneg, laws_szTreeFunS.A0_ret, hd, totS, hres]
    · have hres : sub b (x.total + totS TreeFun.total (l.drop (i + 1))) = sub c (totS TreeFun.total (l.drop (i + 1))) := by rw [← sub_add, ← hcx, if_neg hneg]
      refine Ev.mono (Ev.and hc (szTreeFunS_loop hf h hx d (i + 1) c (by omega) (by omega) (by omega))) fun k ⟨e1, e2⟩ m hm => ?_
      obtain ⟨m, rfl⟩ : ∃ j, m = j + 1 := ⟨m - 1, by omega⟩
      rw [laws_szTreeFunS.L0_step, h.vlen]
      
      
      simp [hlt, hv, hr, e1, hneg, hd, totS, hres]
      rw [hw]
      exact e2 m (by omega)
theorem szTreeFunS_runs {σ : Heap} {v : V} {l : List TreeFun} (hf : l.length ≤ 9223372036854775807) (h : RepS 9 (TreeFun.Rep σ) σ v l)
    (hx : ∀ x, x ∈ l → ∀ cs b, TreeFun.Rep σ cs x → 0 ≤ b → b ≤ 1099511627776 → Runs G n_laws_szTreeFun [.agg cs, .int .i64 b] σ (.int .i64 (sub b x.total)) σ) {b : Int} (h0 : 0 ≤ b) (h1 : b ≤ 1099511627776) :
    Runs G n_laws_szTreeFunS [v, .int .i64 b] σ (.int .i64 (sub b (l.length + totS TreeFun.total l))) σ := by
  refine Runs.mk ?_
  obtain ⟨c, hc⟩ : ∃ c, c = sub b l.length := ⟨_, rfl⟩
  have hsc := sub_cases b l.length
  rw [← hc] at hsc
  have hw : IntKind.wrap .i64 (b - (l.length : Int)) = b - (l.length : Int) := wrap_id (by omega) (by omega)
  by_cases hneg : c < 0
  · refine Ev.now fun k => ?_
    have hlt0 : b - (l.length : Int) < 0 := by omega
    have hres : sub b (l.length + totS TreeFun.total l) = -1 := by rw [← sub_add, ← hc, if_pos hneg]
    rw [laws_szTreeFunS.eq, h.vlen]
    simp [hw, hlt0, hres]
  · have hlt0 : ¬ b - (l.length : Int) < 0 := by omega
    have hwc : IntKind.wrap .i64 (b - (l.length : Int)) = c := by rw [hw]; omega
    have hres : sub b (l.length + totS TreeFun.total l) = sub c (totS TreeFun.total l) := by rw [← sub_add, ← hc, if_neg hneg]
    refine (Ev.far l.length (szTreeFunS_loop hf h hx l.length 0 c (by omega) (by omega) (by omega))).mono fun k ⟨e1, hk⟩ => ?_
    have e2 := e1 k hk
    rw [laws_szTreeFunS.eq, h.vlen]
    simp only [Option.bind_some, hwc, hneg, decide_false, cond_false, hres]
    exact e2
theorem toTreeFunS_loop {σe : Heap} {v : V} {l : List TreeFun} (hf : l.length + totS TreeFun.total l ≤ 1048576) (h : RepS 9 (TreeFun.Rep σe) σe v l)
    (hx : ∀ x, x ∈ l → x.total ≤ 1048576 → ∀ σ cs, TreeFun.Rep σ cs x → ∃ cs' σ', Runs G n_laws_toTreeFun [.agg cs] σ (.agg cs') σ' ∧ Lh σ σ' ∧ TreeFun.Rep (wipe σ.length σ') cs' x) {r : Nat} (hre : σe.length ≤ r) :
    ∀ (d i : Nat) (σ : Heap), i + d = l.length → Lh σe σ → r < σ.length → Under 9 (TreeFun.Rep (wipe (r + 1) σ)) σ r i l → ∃ σ', Lh σe σ' ∧ r < σ'.length ∧ Under 9 (TreeFun.Rep (wipe (r + 1) σ')) σ' r l.length l ∧
      Ev fun k => ∀ m, d < m → (laws_toTreeFunS.L0 k m [.v v, .v (.sl r 0 l.length true), .v (.int .i64 i)] σ).bind (laws_toTreeFunS.A0 k) = some (.sl r 0 l.length true, σ')
  | 0, i, σ, hi, hl, hr, hu => ⟨σ, hl, hr, (show i = l.length by omega) ▸ hu, Ev.now fun k m hm => by
    obtain ⟨m, rfl⟩ : ∃ j, m = j + 1 := ⟨m - 1, by omega⟩
    rw [laws_toTreeFunS.L0_step, h.vlen]
    have : ¬ i < l.length := by omega
    simp [this, laws_toTreeFunS.A0_x0]⟩
  | d + 1, i, σ, hi, hl, hr0, hu => by
    have hlt : i < l.length := by omega
    obtain ⟨r', o, hv, cs, hr, hP⟩ := h.at hlt
    have hm : l[i] ∈ l := List.getElem_mem hlt
    have hg : l[i]? = some l[i] := List.getElem?_eq_getElem hlt
    have htx : TreeFun.total l[i] ≤ 1048576 := Nat.le_trans (totS_mem TreeFun.total hm) (by omega)
    generalize l[i] = x at hP hm hg htx
    have hr2 := hl.rdc hr
    have hw : IntKind.wrap .i64 ((i : Int) + 1) = ((i + 1 : Nat) : Int) := wrap_id (by omega) (by omega)
    have hv2 : vidx 9 (.sl r 0 l.length true) (i : Int) = some (r, i * 9) := by simp [vidx, hlt]
    obtain ⟨cs', σ1, hc, hl1, hR⟩ := hx x hm htx σ cs (TreeFun.Rep.le hl hP)
    have hu1 : Under 9 (TreeFun.Rep (wipe (r + 1) σ1)) σ1 r i l := hu.mono hl1 fun cs y hy hcs => TreeFun.Rep.le (hl1.wipeBoth _) hcs
    obtain ⟨row, hwr, hu2⟩ := hu1.step hg hR.len (TreeFun.Rep.le (Lh.wipeLess σ1 (show r + 1 ≤ σ.length by omega)) hR)
    have hu3 : Under 9 (TreeFun.Rep (wipe (r + 1) (σ1.set r (some row)))) (σ1.set r (some row)) r (i + 1) l := by rw [wipe_set (by omega)]; exact hu2
    obtain ⟨σ', g1, g2, g3, g4⟩ := toTreeFunS_loop hf h hx hre d (i + 1) (σ1.set r (some row)) (by omega) ((hl.trans hl1).set hre _) (by rw [List.length_set]; exact Nat.lt_of_lt_of_le hr0 hl1.len) hu3
    refine ⟨σ', g1, g2, g3, Ev.mono (Ev.and hc g4) fun k ⟨e1, e2⟩ m hm => ?_⟩
    obtain ⟨m, rfl⟩ : ∃ j, m = j + 1 := ⟨m - 1, by omega⟩
    cases hP with
    | mk =>
    cases hR with
    | mk =>
    rw [laws_toTreeFunS.L0_step, h.vlen]
    simp [hlt, hv, hr2, hv2, e1, hwr]
    rw [hw]
    exact e2 m (by omega)
theorem toTreeFunS_runs {σ : Heap} {v : V} {l : List TreeFun} (hf : l.length + totS TreeFun.total l ≤ 1048576) (h : RepS 9 (TreeFun.Rep σ) σ v l)
    (hx : ∀ x, x ∈ l → x.total ≤ 1048576 → ∀ σ cs, TreeFun.Rep σ cs x → ∃ cs' σ', Runs G n_laws_toTreeFun [.agg cs] σ (.agg cs') σ' ∧ Lh σ σ' ∧ TreeFun.Rep (wipe σ.length σ') cs' x) :
    ∃ v' σ', Runs G n_laws_toTreeFunS [v] σ v' σ' ∧ Lh σ σ' ∧ RepS 9 (TreeFun.Rep (wipe σ.length σ')) (wipe σ.length σ') v' l := by
  obtain ⟨σ', g1, g2, g3, g4⟩ := toTreeFunS_loop hf h hx (Nat.le_refl _) l.length 0 (hnew σ 9 (List.replicate l.length [.str (⟨#[]⟩ : ByteArray), .bool false, .nils, .int .i64 0, .int .i64 0, .int .i64 0, .str (⟨#[]⟩ : ByteArray), .str (⟨#[]⟩ : ByteArray), .nils]).flatten) (by omega) (Lh.new _ _ _) (by simp [hnew]) (Under.new _ (by simp))
  refine ⟨_, σ', Runs.mk ?_, g1, (g3.mono (Lh.refl _) fun cs x hx hc => TreeFun.Rep.le (Lh.wipeLess _ (by omega)) hc).done (fun row hro hrow => wipe_get.2 ⟨Nat.le_refl _, hrow, hro⟩) true⟩
  refine (Ev.far l.length g4).mono fun k ⟨e1, hk⟩ => ?_
  have e2 := e1 k hk
  rw [laws_toTreeFunS.eq, h.vlen]
  simp only [Option.bind_some, Int.toNat_natCast]
  rw [if_pos (by omega)]
  exact e2
theorem eqTreeFunS_loop {σ : Heap} {v v' : V} {l l' : List TreeFun} (hf : l.length ≤ 9223372036854775807) (hll : l'.length = l.length) (h : RepS 9 (TreeFun.Rep σ) σ v l) (h' : RepS 9 (TreeFun.Rep σ) σ v' l')
    (hx : ∀ x, x ∈ l → ∀ y cs cs', TreeFun.Rep σ cs x → TreeFun.Rep σ cs' y → ∃ b, Runs G n_laws_eqTreeFun [.agg cs, .agg cs'] σ (.bool b) σ ∧ (b = true ↔ x = y)) :
    ∀ (d i : Nat), i + d = l.length → ∃ b, (b = true ↔ l.drop i = l'.drop i) ∧ Ev fun k => ∀ m, d < m → (laws_eqTreeFunS.L0 k m [.v v, .v v', .v (.int .i64 i)] σ).bind (laws_eqTreeFunS.A0 k) = some (.bool b, σ)
  | 0, i, hi => ⟨true, by rw [List.drop_eq_nil_of_le (show l.length ≤ i by omega), List.drop_eq_nil_of_le (show l'.length ≤ i by omega)]; simp, Ev.now fun k m hm => by
    obtain ⟨m, rfl⟩ : ∃ j, m = j + 1 := ⟨m - 1, by omega⟩
    rw [laws_eqTreeFunS.L0_step, h.vlen]
    have : ¬ i < l.length := by omega
    simp [this, laws_eqTreeFunS.A0_x0]⟩
  | d + 1, i, hi => by
    have hlt : i < l.length := by omega
    have hlt' : i < l'.length := by omega
    obtain ⟨r, o, hv, cs, hr, hP⟩ := h.at hlt
    obtain ⟨r', o', hv', cs', hr', hP'⟩ := h'.at hlt'
    have hm : l[i] ∈ l := List.getElem_mem hlt
    have hd : l.drop i = l[i] :: l.drop (i + 1) := List.drop_eq_getElem_cons hlt
    have hd' : l'.drop i = l'[i] :: l'.drop (i + 1) := List.drop_eq_getElem_cons hlt'
    generalize l[i] = x at hP hm hd
    generalize l'[i] = y at hP' hd'
    have hw : IntKind.wrap .i64 ((i : Int) + 1) = ((i + 1 : Nat) : Int) := wrap_id (by omega) (by omega)
    obtain ⟨b2, i2, c2⟩ := eqTreeFunS_loop hf hll h h' hx d (i + 1) (by omega)
    obtain ⟨b1, c1, i1⟩ := hx x hm y cs cs' hP hP'
    cases hP with
    | mk =>
    cases hP' with
    | mk =>
    cases b1 with
    | false =>
      refine ⟨false, ?_, c1.mono fun k e1 m hm => ?_⟩
      · rw [hd, hd']; simp at i1 ⊢; intro hc; exact absurd hc i1
      · obtain ⟨m, rfl⟩ : ∃ j, m = j + 1 := ⟨m - 1, by omega⟩
        rw [laws_eqTreeFunS.L0_step, h.vlen]
        simp [hlt, hv, hr, hv', hr', e1, laws_eqTreeFunS.A0_ret]
    | true =>
      refine ⟨b2, ?_, (c1.and c2).mono fun k ⟨e1, e2⟩ m hm => ?_⟩
      · have hxy : x = y := i1.1 rfl
        rw [hd, hd', i2, hxy]; simp
      · obtain ⟨m, rfl⟩ : ∃ j, m = j + 1 := ⟨m - 1, by omega⟩
        rw [laws_eqTreeFunS.L0_step, h.vlen]
        simp [hlt, hv, hr, hv', hr', e1]
        rw [hw]
        exact e2 m (by omega)
theorem eqTreeFunS_runs {σ : Heap} {v v' : V} {l l' : List TreeFun} (hf : l.length ≤ 9223372036854775807) (h : RepS 9 (TreeFun.Rep σ) σ v l) (h' : RepS 9 (TreeFun.Rep σ) σ v' l')
    (hx : ∀ x, x ∈ l → ∀ y cs cs', TreeFun.Rep σ cs x → TreeFun.Rep σ cs' y → ∃ b, Runs G n_laws_eqTreeFun [.agg cs, .agg cs'] σ (.bool b) σ ∧ (b = true ↔ x = y)) :
    ∃ b, Runs G n_laws_eqTreeFunS [v, v'] σ (.bool b) σ ∧ (b = true ↔ l = l') := by
  by_cases hll : l'.length = l.length
  · obtain ⟨b, i1, c1⟩ := eqTreeFunS_loop hf hll h h' hx l.length 0 (by omega)
    refine ⟨b, Runs.mk ((Ev.far l.length c1).mono fun k ⟨e1, hk⟩ => ?_), by simpa using i1⟩
    have e2 := e1 k hk
    rw [laws_eqTreeFunS.eq, h.vlen, h'.vlen]
    simp only [Option.bind_some, hll, decide_true, Bool.not_true, cond_false]
    exact e2
  · refine ⟨false, Runs.mk (Ev.now fun k => ?_), by simp; intro hc; rw [hc] at hll; exact hll rfl⟩
    rw [laws_eqTreeFunS.eq, h.vlen, h'.vlen]
    have : ¬ (l.length : Int) = (l'.length : Int) := by omega
    simp [this]
theorem szTreeMod_runs {σ : Heap} (e : TreeMod) (hf : e.Fit) {cs : List V} (hr : TreeMod.Rep σ cs e) {b : Int} (h0 : 0 ≤ b) (h1 : b ≤ 1099511627776) : Runs G n_laws_szTreeMod [.agg cs, .int .i64 b] σ (.int .i64 (sub b e.total)) σ := by
  have ht := TreeMod.total_eq e
  cases hf with
  | mk f0 f1 f2 f3 f4 f5 =>
  cases hr with
  | mk r0 r1 r2 =>
  have hs := sub_cases b e.total
  refine Runs.mk ?_
  obtain ⟨b1, w1⟩ : ∃ x, x = sub b (e.uses.length + totS ByteArray.size e.uses) := ⟨_, rfl⟩
  have c1 := szStringS_runs (l := e.uses) f0 r0 (fun x hx => f1 x hx) (b := b) (by omega) (by omega)
  rw [← w1] at c1
  have s1 := sub_cases b (e.uses.length + totS ByteArray.size e.uses)
  rw [← w1] at s1
  by_cases n1 : b1 < 0
  · refine Ev.mono c1 fun k e1 => ?_
    have hres : sub b e.total = -1 := by omega
    rw [laws_szTreeMod.eq]
    simp [e1, n1, hres]
  have p1 : 0 ≤ b1 := by omega
  obtain ⟨b2, w2⟩ : ∃ x, x = sub b1 (e.funs.length + totS TreeFun.total e.funs) := ⟨_, rfl⟩
  have c2 := szTreeFunS_runs (l := e.funs) f2 r1 (fun x hx cs b hr h0 h1 => szTreeFun_runs x (f3 x hx) hr h0 h1) (b := b1) (by omega) (by omega)
  rw [← w2] at c2
  have s2 := sub_cases b1 (e.funs.length + totS TreeFun.total e.funs)
  rw [← w2] at s2
  by_cases n2 : b2 < 0
  · refine Ev.mono (Ev.and c1 c2) fun k ⟨e1, e2⟩ => ?_
    have hres : sub b e.total = -1 := by omega
    rw [laws_szTreeMod.eq]
    simp [e1, n1, e2, n2, hres]
  have p2 : 0 ≤ b2 := by omega
  obtain ⟨b3, w3⟩ : ∃ x, x = sub b2 (e.main.length + totS TreeExpr.total e.main) := ⟨_, rfl⟩
  have c3 := szTreeExprS_runs (l := e.main) f4 r2 (fun x hx cs b hr h0 h1 => szTreeExpr_runs x (f5 x hx) hr h0 h1) (b := b2) (by omega) (by omega)
  rw [← w3] at c3
  have s3 := sub_cases b2 (e.main.length + totS TreeExpr.total e.main)
  rw [← w3] at s3
  by_cases n3 : b3 < 0
  · refine Ev.mono (Ev.and (Ev.and c1 c2) c3) fun k ⟨⟨e1, e2⟩, e3⟩ => ?_
    have hres : sub b e.total = -1 := by omega
    rw [laws_szTreeMod.eq]
    simp [e1, n1, e2, n2, e3, n3, hres]
  have p3 : 0 ≤ b3 := by omega
  refine Ev.mono (Ev.and (Ev.and c1 c2) c3) fun k ⟨⟨e1, e2⟩, e3⟩ => ?_
  have hres : sub b e.total = b3 := by omega
  rw [laws_szTreeMod.eq]
  simp [e1, n1, e2, n2, e3, n3, hres]
theorem toTreeMod_runs (e : TreeMod) (ht : e.total ≤ 1048576) {σ : Heap} {cs : List V} (hr : TreeMod.Rep σ cs e) : ∃ cs' σ', Runs G n_laws_toTreeMod [.agg cs] σ (.agg cs') σ' ∧ Lh σ σ' ∧ TreeMod.Rep (wipe σ.length σ') cs' e := by
  rw [TreeMod.total_eq] at ht
  cases hr with
  | mk r0 r1 r2 =>
  have l0 := Lh.refl σ
  obtain ⟨v1, σ1, c1, k1, d1⟩ := toStringS_runs (σ := σ) (l := e.uses) (by omega) (r0.le l0)
  have g1 := d1.flat
  have l1 := l0.trans k1
  obtain ⟨v2, σ2, c2, k2, d2⟩ := toTreeFunS_runs (σ := σ1) (l := e.funs) (by omega) (r1.mono l1 fun cs x hx hc => TreeFun.Rep.le l1 hc) (fun x hx ht σ cs hr => toTreeFun_runs x ht hr)
  have g2 := d2.flat
  have l2 := l1.trans k2
  obtain ⟨v3, σ3, c3, k3, d3⟩ := toTreeExprS_runs (σ := σ2) (l := e.main) (by omega) (r2.mono l2 fun cs x hx hc => TreeExpr.Rep.le l2 x hc) (fun x hx ht σ cs hr => toTreeExpr_runs x ht hr)
  have g3 := d3.flat
  have l3 := l2.trans k3
  have ll3 : Lh σ3 σ3 := Lh.refl _
  have ll2 : Lh σ2 σ3 := k3.trans ll3
  have ll1 : Lh σ1 σ3 := k2.trans ll2
  refine ⟨_, σ3, Runs.mk (Ev.mono (Ev.and (Ev.and c1 c2) c3) fun k ⟨⟨e1, e2⟩, e3⟩ => ?_), l3, .mk (d1.le (Lh.fresh l0 (ll1))) (d2.mono (Lh.fresh l1 (ll2)) fun cs x hx hc => TreeFun.Rep.le (Lh.fresh l1 (ll2)) hc) (d3.mono (Lh.fresh l2 (ll3)) fun cs x hx hc => TreeExpr.Rep.le (Lh.fresh l2 (ll3)) x hc)⟩
  rw [laws_toTreeMod.eq]
  simp [e1, e2, e3, one_of g1, one_of g2, one_of g3]
theorem eqTreeMod_runs {σ : Heap} (e e' : TreeMod) (hf : e.Fit) {cs cs' : List V} (hr : TreeMod.Rep σ cs e) (hr' : TreeMod.Rep σ cs' e') : ∃ b, Runs G n_laws_eqTreeMod [.agg cs, .agg cs'] σ (.bool b) σ ∧ (b = true ↔ e = e') := by
  cases hf with
  | mk f0 f1 f2 f3 f4 f5 =>
  cases hr with
  | mk r0 r1 r2 =>
  cases hr' with
  | mk t0 t1 t2 =>
  obtain ⟨b1, c1, i1⟩ := eqStringS_runs (l := e.uses) (l' := e'.uses) f0 r0 t0
  by_cases u1 : b1 = false
  · have nn : ¬ e.uses = e'.uses := fun hc => by have := i1.2 hc; rw [u1] at this; cases this
    subst u1
    refine ⟨false, Runs.mk (Ev.mono c1 fun k e1 => ?_), by simp; intro hc; rw [hc] at nn; exact absurd rfl nn⟩
    rw [laws_eqTreeMod.eq]
    simp [e1]
  have u1' : b1 = true := by cases b1 <;> simp_all
  clear u1
  have q1 := i1.1 u1'
  subst u1'
  obtain ⟨b2, c2, i2⟩ := eqTreeFunS_runs (l := e.funs) (l' := e'.funs) f2 r1 t1 (fun x hx y cs cs' hr hr' => eqTreeFun_runs x y (f3 x hx) hr hr')
  by_cases u2 : b2 = false
  · have nn : ¬ e.funs = e'.funs := fun hc => by have := i2.2 hc; rw [u2] at this; cases this
    subst u2
    refine ⟨false, Runs.mk (Ev.mono (Ev.and c1 c2) fun k ⟨e1, e2⟩ => ?_), by simp; intro hc; rw [hc] at nn; exact absurd rfl nn⟩
    rw [laws_eqTreeMod.eq]
    simp [e1, e2]
  have u2' : b2 = true := by cases b2 <;> simp_all
  clear u2
  have q2 := i2.1 u2'
  subst u2'
  obtain ⟨b3, c3, i3⟩ := eqTreeExprS_runs (l := e.main) (l' := e'.main) f4 r2 t2 (fun x hx y cs cs' hr hr' => eqTreeExpr_runs x y (f5 x hx) hr hr')
  by_cases u3 : b3 = false
  · have nn : ¬ e.main = e'.main := fun hc => by have := i3.2 hc; rw [u3] at this; cases this
    subst u3
    refine ⟨false, Runs.mk (Ev.mono (Ev.and (Ev.and c1 c2) c3) fun k ⟨⟨e1, e2⟩, e3⟩ => ?_), by simp; intro hc; rw [hc] at nn; exact absurd rfl nn⟩
    rw [laws_eqTreeMod.eq]
    simp [e1, e2, e3]
  have u3' : b3 = true := by cases b3 <;> simp_all
  clear u3
  have q3 := i3.1 u3'
  subst u3'
  refine ⟨true, Runs.mk (Ev.mono (Ev.and (Ev.and c1 c2) c3) fun k ⟨⟨e1, e2⟩, e3⟩ => ?_), by simp; cases e; cases e'; simp at q1 q2 q3 ⊢; exact ⟨q1, q2, q3⟩⟩
  rw [laws_eqTreeMod.eq]
  simp [e1, e2, e3]
theorem szTypeFace_runs {σ : Heap} (e : TypeFace) (hf : e.Fit) {cs : List V} (hr : TypeFace.Rep σ cs e) {b : Int} (h0 : 0 ≤ b) (h1 : b ≤ 1099511627776) : Runs G n_laws_szTypeFace [.agg cs, .int .i64 b] σ (.int .i64 (sub b e.total)) σ := by
  have ht := TypeFace.total_eq e
  cases hf with
  | mk f0 f1 f2 =>
  cases hr with
  | mk r0 =>
  have hs := sub_cases b e.total
  refine Runs.mk ?_
  obtain ⟨b1, w1⟩ : ∃ x, x = b - (e.mod.size : Int) := ⟨_, rfl⟩
  have v1 : IntKind.wrap .i64 (b - (e.mod.size : Int)) = b1 := by rw [w1]; exact wrap_id (by omega) (by omega)
  by_cases n1 : b1 < 0
  · refine Ev.now fun k => ?_
    have hres : sub b e.total = -1 := by omega
    rw [laws_szTypeFace.eq]
    simp [v1, n1, hres]
  have p1 : 0 ≤ b1 := by omega
  obtain ⟨b2, w2⟩ : ∃ x, x = sub b1 (e.sigs.length + totS FaceSig.total e.sigs) := ⟨_, rfl⟩
  have c2 := szFaceSigS_runs (l := e.sigs) f1 r0 (fun x hx cs b hr h0 h1 => szFaceSig_runs x (f2 x hx) hr h0 h1) (b := b1) (by omega) (by omega)
  rw [← w2] at c2
  have s2 := sub_cases b1 (e.sigs.length + totS FaceSig.total e.sigs)
  rw [← w2] at s2
  by_cases n2 : b2 < 0
  · refine Ev.mono c2 fun k e2 => ?_
    have hres : sub b e.total = -1 := by omega
    rw [laws_szTypeFace.eq]
    simp [v1, n1, e2, n2, hres]
  have p2 : 0 ≤ b2 := by omega
  refine Ev.mono c2 fun k e2 => ?_
  have hres : sub b e.total = b2 := by omega
  rw [laws_szTypeFace.eq]
  simp [v1, n1, e2, n2, hres]
theorem toTypeFace_runs (e : TypeFace) (ht : e.total ≤ 1048576) {σ : Heap} {cs : List V} (hr : TypeFace.Rep σ cs e) : ∃ cs' σ', Runs G n_laws_toTypeFace [.agg cs] σ (.agg cs') σ' ∧ Lh σ σ' ∧ TypeFace.Rep (wipe σ.length σ') cs' e := by
  rw [TypeFace.total_eq] at ht
  cases hr with
  | mk r0 =>
  have l0 := Lh.refl σ
  obtain ⟨v1, σ1, c1, k1, d1⟩ := toFaceSigS_runs (σ := σ) (l := e.sigs) (by omega) (r0.mono l0 fun cs x hx hc => FaceSig.Rep.le l0 hc) (fun x hx ht σ cs hr => toFaceSig_runs x ht hr)
  have g1 := d1.flat
  have l1 := l0.trans k1
  have ll1 : Lh σ1 σ1 := Lh.refl _
  refine ⟨_, σ1, Runs.mk (Ev.mono c1 fun k e1 => ?_), l1, .mk (d1.mono (Lh.fresh l0 (ll1)) fun cs x hx hc => FaceSig.Rep.le (Lh.fresh l0 (ll1)) hc)⟩
  rw [laws_toTypeFace.eq]
  simp [e1, one_of g1]
theorem eqTypeFace_runs {σ : Heap} (e e' : TypeFace) (hf : e.Fit) {cs cs' : List V} (hr : TypeFace.Rep σ cs e) (hr' : TypeFace.Rep σ cs' e') : ∃ b, Runs G n_laws_eqTypeFace [.agg cs, .agg cs'] σ (.bool b) σ ∧ (b = true ↔ e = e') := by
  cases hf with
  | mk f0 f1 f2 =>
  cases hr with
  | mk r0 =>
  cases hr' with
  | mk t0 =>
  by_cases nn : ¬ e.mod = e'.mod
  · refine ⟨false, Runs.mk (Ev.now fun k => ?_), by simp; intro hc; rw [hc] at nn; exact absurd rfl nn⟩
    rw [laws_eqTypeFace.eq]
    simp [nn]
  have q1 := Classical.not_not.1 nn
  clear nn
  obtain ⟨b2, c2, i2⟩ := eqFaceSigS_runs (l := e.sigs) (l' := e'.sigs) f1 r0 t0 (fun x hx y cs cs' hr hr' => eqFaceSig_runs x y (f2 x hx) hr hr')
  by_cases u2 : b2 = false
  · have nn : ¬ e.sigs = e'.sigs := fun hc => by have := i2.2 hc; rw [u2] at this; cases this
    subst u2
    refine ⟨false, Runs.mk (Ev.mono c2 fun k e2 => ?_), by simp; intro hc; rw [hc] at nn; exact absurd rfl nn⟩
    rw [laws_eqTypeFace.eq]
    simp [q1, e2]
  have u2' : b2 = true := by cases b2 <;> simp_all
  clear u2
  have q2 := i2.1 u2'
  subst u2'
  refine ⟨true, Runs.mk (Ev.mono c2 fun k e2 => ?_), by simp; cases e; cases e'; simp at q1 q2 ⊢; exact ⟨q1, q2⟩⟩
  rw [laws_eqTypeFace.eq]
  simp [q1, e2]
theorem szTypeFaceS_loop {σ : Heap} {v : V} {l : List TypeFace} (hf : l.length ≤ 9223372036854775807) (h : RepS 2 (TypeFace.Rep σ) σ v l)
    (hx : ∀ x, x ∈ l → ∀ cs b, TypeFace.Rep σ cs x → 0 ≤ b → b ≤ 1099511627776 → Runs G n_laws_szTypeFace [.agg cs, .int .i64 b] σ (.int .i64 (sub b x.total)) σ) :
    ∀ (d i : Nat) (b : Int), i + d = l.length → 0 ≤ b → b ≤ 1099511627776 → Ev fun k => ∀ m, d < m →
      (laws_szTypeFaceS.L0 k m [.v v, .v (.int .i64 b), .v (.int .i64 i)] σ).bind (laws_szTypeFaceS.A0 k) = some (.int .i64 (sub b (totS TypeFace.total (l.drop i))), σ)
  | 0, i, b, hi, h0, h1 => Ev.now fun k m hm => by
    obtain ⟨m, rfl⟩ : ∃ j, m = j + 1 := ⟨m - 1, by omega⟩
    rw [laws_szTypeFaceS.L0_step, h.vlen]
    have : ¬ i < l.length := by omega
    simp [this, laws_szTypeFaceS.A0_x0, List.drop_eq_nil_of_le (show l.length ≤ i by omega), totS, sub]
    omega
  | d + 1, i, b, hi, h0, h1 => by
    have hlt : i < l.length := by omega
    obtain ⟨r, o, hv, cs, hr, hP⟩ := h.at hlt
    have hm : l[i] ∈ l := List.getElem_mem hlt
    have hc := hx _ hm cs b hP h0 h1
    have hd : l.drop i = l[i] :: l.drop (i + 1) := List.drop_eq_getElem_cons hlt
    generalize l[i] = x at hP hm hc hd
    obtain ⟨c, hcx⟩ : ∃ c, c = sub b x.total := ⟨_, rfl⟩
    rw [← hcx] at hc
    cases hP with
    | mk =>
    have hsc := sub_cases b x.total
    rw [← hcx] at hsc
    have hw : IntKind.wrap .i64 ((i : Int) + 1) = ((i + 1 : Nat) : Int) := wrap_id (by omega) (by omega)
    by_cases hneg : c < 0
    · refine Ev.mono hc fun k e1 m hm => ?_
      obtain ⟨m, rfl⟩ : ∃ j, m = j + 1 := ⟨m - 1, by omega⟩
      rw [laws_szTypeFaceS.L0_step, h.vlen]
      
      have hres : sub b (x.total + totS TypeFace.total (l.drop (i + 1))) = -1 := by rw [← sub_add, ← hcx, if_pos hneg]
      simp [hlt, hv, hr, e1, hneg, laws_szTypeFaceS.A0_ret, hd, totS, hres]
    · have hres : sub b (x.total + totS TypeFace.total (l.drop (i + 1))) = sub c (totS TypeFace.total (l.drop (i + 1))) := by rw [← sub_add, ← hcx, if_neg hneg]
      refine Ev.mono (Ev.and hc (szTypeFaceS_loop hf h hx d (i + 1) c (by omega) (by omega) (by omega))) fun k ⟨e1, e2⟩ m hm => ?_
      obtain ⟨m, rfl⟩ : ∃ j, m = j + 1 := ⟨m - 1, by omega⟩
      rw [laws_szTypeFaceS.L0_step, h.vlen]
      
      
      simp [hlt, hv, hr, e1, hneg, hd, totS, hres]
      rw [hw]
      exact e2 m (by omega)
theorem szTypeFaceS_runs {σ : Heap} {v : V} {l : List TypeFace} (hf : l.length ≤ 9223372036854775807) (h : RepS 2 (TypeFace.Rep σ) σ v l)
    (hx : ∀ x, x ∈ l → ∀ cs b, TypeFace.Rep σ cs x → 0 ≤ b → b ≤ 1099511627776 → Runs G n_laws_szTypeFace [.agg cs, .int .i64 b] σ (.int .i64 (sub b x.total)) σ) {b : Int} (h0 : 0 ≤ b) (h1 : b ≤ 1099511627776) :
    Runs G n_laws_szTypeFaceS [v, .int .i64 b] σ (.int .i64 (sub b (l.length + totS TypeFace.total l))) σ := by
  refine Runs.mk ?_
  obtain ⟨c, hc⟩ : ∃ c, c = sub b l.length := ⟨_, rfl⟩
  have hsc := sub_cases b l.length
  rw [← hc] at hsc
  have hw : IntKind.wrap .i64 (b - (l.length : Int)) = b - (l.length : Int) := wrap_id (by omega) (by omega)
  by_cases hneg : c < 0
  · refine Ev.now fun k => ?_
    have hlt0 : b - (l.length : Int) < 0 := by omega
    have hres : sub b (l.length + totS TypeFace.total l) = -1 := by rw [← sub_add, ← hc, if_pos hneg]
    rw [laws_szTypeFaceS.eq, h.vlen]
    simp [hw, hlt0, hres]
  · have hlt0 : ¬ b - (l.length : Int) < 0 := by omega
    have hwc : IntKind.wrap .i64 (b - (l.length : Int)) = c := by rw [hw]; omega
    have hres : sub b (l.length + totS TypeFace.total l) = sub c (totS TypeFace.total l) := by rw [← sub_add, ← hc, if_neg hneg]
    refine (Ev.far l.length (szTypeFaceS_loop hf h hx l.length 0 c (by omega) (by omega) (by omega))).mono fun k ⟨e1, hk⟩ => ?_
    have e2 := e1 k hk
    rw [laws_szTypeFaceS.eq, h.vlen]
    simp only [Option.bind_some, hwc, hneg, decide_false, cond_false, hres]
    exact e2
theorem toTypeFaceS_loop {σe : Heap} {v : V} {l : List TypeFace} (hf : l.length + totS TypeFace.total l ≤ 1048576) (h : RepS 2 (TypeFace.Rep σe) σe v l)
    (hx : ∀ x, x ∈ l → x.total ≤ 1048576 → ∀ σ cs, TypeFace.Rep σ cs x → ∃ cs' σ', Runs G n_laws_toTypeFace [.agg cs] σ (.agg cs') σ' ∧ Lh σ σ' ∧ TypeFace.Rep (wipe σ.length σ') cs' x) {r : Nat} (hre : σe.length ≤ r) :
    ∀ (d i : Nat) (σ : Heap), i + d = l.length → Lh σe σ → r < σ.length → Under 2 (TypeFace.Rep (wipe (r + 1) σ)) σ r i l → ∃ σ', Lh σe σ' ∧ r < σ'.length ∧ Under 2 (TypeFace.Rep (wipe (r + 1) σ')) σ' r l.length l ∧
      Ev fun k => ∀ m, d < m → (laws_toTypeFaceS.L0 k m [.v v, .v (.sl r 0 l.length true), .v (.int .i64 i)] σ).bind (laws_toTypeFaceS.A0 k) = some (.sl r 0 l.length true, σ')
  | 0, i, σ, hi, hl, hr, hu => ⟨σ, hl, hr, (show i = l.length by omega) ▸ hu, Ev.now fun k m hm => by
    obtain ⟨m, rfl⟩ : ∃ j, m = j + 1 := ⟨m - 1, by omega⟩
    rw [laws_toTypeFaceS.L0_step, h.vlen]
    have : ¬ i < l.length := by omega
    simp [this, laws_toTypeFaceS.A0_x0]⟩
  | d + 1, i, σ, hi, hl, hr0, hu => by
    have hlt : i < l.length := by omega
    obtain ⟨r', o, hv, cs, hr, hP⟩ := h.at hlt
    have hm : l[i] ∈ l := List.getElem_mem hlt
    have hg : l[i]? = some l[i] := List.getElem?_eq_getElem hlt
    have htx : TypeFace.total l[i] ≤ 1048576 := Nat.le_trans (totS_mem TypeFace.total hm) (by omega)
    generalize l[i] = x at hP hm hg htx
    have hr2 := hl.rdc hr
    have hw : IntKind.wrap .i64 ((i : Int) + 1) = ((i + 1 : Nat) : Int) := wrap_id (by omega) (by omega)
    have hv2 : vidx 2 (.sl r 0 l.length true) (i : Int) = some (r, i * 2) := by simp [vidx, hlt]
    obtain ⟨cs', σ1, hc, hl1, hR⟩ := hx x hm htx σ cs (TypeFace.Rep.le hl hP)
    have hu1 : Under 2 (TypeFace.Rep (wipe (r + 1) σ1)) σ1 r i l := hu.mono hl1 fun cs y hy hcs => TypeFace.Rep.le (hl1.wipeBoth _) hcs
    obtain ⟨row, hwr, hu2⟩ := hu1.step hg hR.len (TypeFace.Rep.le (Lh.wipeLess σ1 (show r + 1 ≤ σ.length by omega)) hR)
    have hu3 : Under 2 (TypeFace.Rep (wipe (r + 1) (σ1.set r (some row)))) (σ1.set r (some row)) r (i + 1) l := by rw [wipe_set (by omega)]; exact hu2
    obtain ⟨σ', g1, g2, g3, g4⟩ := toTypeFaceS_loop hf h hx hre d (i + 1) (σ1.set r (some row)) (by omega) ((hl.trans hl1).set hre _) (by rw [List.length_set]; exact Nat.lt_of_lt_of_le hr0 hl1.len) hu3
    refine ⟨σ', g1, g2, g3, Ev.mono (Ev.and hc g4) fun k ⟨e1, e2⟩ m hm => ?_⟩
    obtain ⟨m, rfl⟩ : ∃ j, m = j + 1 := ⟨m - 1, by omega⟩
    cases hP with
    | mk =>
    cases hR with
    | mk =>
    rw [laws_toTypeFaceS.L0_step, h.vlen]
    simp [hlt, hv, hr2, hv2, e1, hwr]
    rw [hw]
    exact e2 m (by omega)
theorem toTypeFaceS_runs {σ : Heap} {v : V} {l : List TypeFace} (hf : l.length + totS TypeFace.total l ≤ 1048576) (h : RepS 2 (TypeFace.Rep σ) σ v l)
    (hx : ∀ x, x ∈ l → x.total ≤ 1048576 → ∀ σ cs, TypeFace.Rep σ cs x → ∃ cs' σ', Runs G n_laws_toTypeFace [.agg cs] σ (.agg cs') σ' ∧ Lh σ σ' ∧ TypeFace.Rep (wipe σ.length σ') cs' x) :
    ∃ v' σ', Runs G n_laws_toTypeFaceS [v] σ v' σ' ∧ Lh σ σ' ∧ RepS 2 (TypeFace.Rep (wipe σ.length σ')) (wipe σ.length σ') v' l := by
  obtain ⟨σ', g1, g2, g3, g4⟩ := toTypeFaceS_loop hf h hx (Nat.le_refl _) l.length 0 (hnew σ 2 (List.replicate l.length [.str (⟨#[]⟩ : ByteArray), .nils]).flatten) (by omega) (Lh.new _ _ _) (by simp [hnew]) (Under.new _ (by simp))
  refine ⟨_, σ', Runs.mk ?_, g1, (g3.mono (Lh.refl _) fun cs x hx hc => TypeFace.Rep.le (Lh.wipeLess _ (by omega)) hc).done (fun row hro hrow => wipe_get.2 ⟨Nat.le_refl _, hrow, hro⟩) true⟩
  refine (Ev.far l.length g4).mono fun k ⟨e1, hk⟩ => ?_
  have e2 := e1 k hk
  rw [laws_toTypeFaceS.eq, h.vlen]
  simp only [Option.bind_some, Int.toNat_natCast]
  rw [if_pos (by omega)]
  exact e2
theorem eqTypeFaceS_loop {σ : Heap} {v v' : V} {l l' : List TypeFace} (hf : l.length ≤ 9223372036854775807) (hll : l'.length = l.length) (h : RepS 2 (TypeFace.Rep σ) σ v l) (h' : RepS 2 (TypeFace.Rep σ) σ v' l')
    (hx : ∀ x, x ∈ l → ∀ y cs cs', TypeFace.Rep σ cs x → TypeFace.Rep σ cs' y → ∃ b, Runs G n_laws_eqTypeFace [.agg cs, .agg cs'] σ (.bool b) σ ∧ (b = true ↔ x = y)) :
    ∀ (d i : Nat), i + d = l.length → ∃ b, (b = true ↔ l.drop i = l'.drop i) ∧ Ev fun k => ∀ m, d < m → (laws_eqTypeFaceS.L0 k m [.v v, .v v', .v (.int .i64 i)] σ).bind (laws_eqTypeFaceS.A0 k) = some (.bool b, σ)
  | 0, i, hi => ⟨true, by rw [List.drop_eq_nil_of_le (show l.length ≤ i by omega), List.drop_eq_nil_of_le (show l'.length ≤ i by omega)]; simp, Ev.now fun k m hm => by
    obtain ⟨m, rfl⟩ : ∃ j, m = j + 1 := ⟨m - 1, by omega⟩
    rw [laws_eqTypeFaceS.L0_step, h.vlen]
    have : ¬ i < l.length := by omega
    simp [this, laws_eqTypeFaceS.A0_x0]⟩
  | d + 1, i, hi => by
    have hlt : i < l.length := by omega
    have hlt' : i < l'.length := by omega
    obtain ⟨r, o, hv, cs, hr, hP⟩ := h.at hlt
    obtain ⟨r', o', hv', cs', hr', hP'⟩ := h'.at hlt'
    have hm : l[i] ∈ l := List.getElem_mem hlt
    have hd : l.drop i = l[i] :: l.drop (i + 1) := List.drop_eq_getElem_cons hlt
    have hd' : l'.drop i = l'[i] :: l'.drop (i + 1) := List.drop_eq_getElem_cons hlt'
    generalize l[i] = x at hP hm hd
    generalize l'[i] = y at hP' hd'
    have hw : IntKind.wrap .i64 ((i : Int) + 1) = ((i + 1 : Nat) : Int) := wrap_id (by omega) (by omega)
    obtain ⟨b2, i2, c2⟩ := eqTypeFaceS_loop hf hll h h' hx d (i + 1) (by omega)
    obtain ⟨b1, c1, i1⟩ := hx x hm y cs cs' hP hP'
    cases hP with
    | mk =>
    cases hP' with
    | mk =>
    cases b1 with
    | false =>
      refine ⟨false, ?_, c1.mono fun k e1 m hm => ?_⟩
      · rw [hd, hd']; simp at i1 ⊢; intro hc; exact absurd hc i1
      · obtain ⟨m, rfl⟩ : ∃ j, m = j + 1 := ⟨m - 1, by omega⟩
        rw [laws_eqTypeFaceS.L0_step, h.vlen]
        simp [hlt, hv, hr, hv', hr', e1, laws_eqTypeFaceS.A0_ret]
    | true =>
      refine ⟨b2, ?_, (c1.and c2).mono fun k ⟨e1, e2⟩ m hm => ?_⟩
      · have hxy : x = y := i1.1 rfl
        rw [hd, hd', i2, hxy]; simp
      · obtain ⟨m, rfl⟩ : ∃ j, m = j + 1 := ⟨m - 1, by omega⟩
        rw [laws_eqTypeFaceS.L0_step, h.vlen]
        simp [hlt, hv, hr, hv', hr', e1]
        rw [hw]
        exact e2 m (by omega)
theorem eqTypeFaceS_runs {σ : Heap} {v v' : V} {l l' : List TypeFace} (hf : l.length ≤ 9223372036854775807) (h : RepS 2 (TypeFace.Rep σ) σ v l) (h' : RepS 2 (TypeFace.Rep σ) σ v' l')
    (hx : ∀ x, x ∈ l → ∀ y cs cs', TypeFace.Rep σ cs x → TypeFace.Rep σ cs' y → ∃ b, Runs G n_laws_eqTypeFace [.agg cs, .agg cs'] σ (.bool b) σ ∧ (b = true ↔ x = y)) :
    ∃ b, Runs G n_laws_eqTypeFaceS [v, v'] σ (.bool b) σ ∧ (b = true ↔ l = l') := by
  by_cases hll : l'.length = l.length
  · obtain ⟨b, i1, c1⟩ := eqTypeFaceS_loop hf hll h h' hx l.length 0 (by omega)
    refine ⟨b, Runs.mk ((Ev.far l.length c1).mono fun k ⟨e1, hk⟩ => ?_), by simpa using i1⟩
    have e2 := e1 k hk
    rw [laws_eqTypeFaceS.eq, h.vlen, h'.vlen]
    simp only [Option.bind_some, hll, decide_true, Bool.not_true, cond_false]
    exact e2
  · refine ⟨false, Runs.mk (Ev.now fun k => ?_), by simp; intro hc; rw [hc] at hll; exact hll rfl⟩
    rw [laws_eqTypeFaceS.eq, h.vlen, h'.vlen]
    have : ¬ (l.length : Int) = (l'.length : Int) := by omega
    simp [this]
end Go.G
