/- Each operation of the small machine is one of the model's: memory. -/
import Derived.Test.YtoakhfnojbmhgaaGreatHMOps
set_option linter.unusedSimpArgs false
set_option linter.unusedVariables false
namespace Go.HM

theorem At.cellAt {w : World} {b base size : Nat} {μ : Mu} {cells : List V} {p : Bool} {ty : Nat} (h : At w b base size μ cells p ty) {i : Nat} {x : V} (hx : cells[i]? = some x) :
    ∃ y, w.cell? ⟨b, base + i, none⟩ = some y ∧ Rel μ x y ∧ y.oneCell' = true := by
  obtain ⟨cs, t, fz, h1, h2, h3, h4, h5⟩ := h
  obtain ⟨y, hy, hr⟩ := h4 i x hx
  exact ⟨y, by simp [World.cell?, h1, hy], hr⟩

theorem At.range {w : World} {b base size : Nat} {μ : Mu} {cells : List V} {p : Bool} {ty : Nat} (h : At w b base size μ cells p ty) (off n : Nat) (hl : off + n ≤ cells.length) :
    ∃ ys : List Value, ys.length = n ∧ RelC μ ((cells.drop off).take n) ys ∧ ∀ j v, ys[j]? = some v → w.cell? ((⟨b, base + off, none⟩ : Addr).add j) = some v := by
  induction n with
  | zero => exact ⟨[], rfl, ⟨by simp, fun i x y hx => by simp at hx⟩, fun j v hv => by simp at hv⟩
  | succ n ih =>
    obtain ⟨ys, h1, h2, h3⟩ := ih (by omega)
    have hlt : off + n < cells.length := by omega
    obtain ⟨y, hy, hr⟩ := h.cellAt (List.getElem?_eq_getElem hlt)
    refine ⟨ys ++ [y], by simp [h1], ⟨by simp; omega, fun i u v hu hv => ?_⟩, fun j v hv => ?_⟩
    · have hi : i < n + 1 := by
        have := (List.getElem?_eq_some_iff.1 hv).1
        simp [h1] at this
        exact this
      rw [List.getElem?_take, if_pos hi, List.getElem?_drop] at hu
      rcases Nat.lt_or_ge i n with hlt' | hge
      · rw [List.getElem?_append_left (by omega)] at hv
        refine h2.2 i u v ?_ hv
        rw [List.getElem?_take, if_pos hlt', List.getElem?_drop]
        exact hu
      · have : i = n := by omega
        subst this
        rw [List.getElem?_append_right (by omega), h1] at hv
        simp at hv
        subst hv
        rw [List.getElem?_eq_getElem hlt] at hu
        injection hu with hu
        rw [← hu]
        exact hr
    · rcases Nat.lt_or_ge j n with hlt' | hge
      · rw [List.getElem?_append_left (by omega)] at hv
        exact h3 j v hv
      · have hj : j = n := by
          have := (List.getElem?_eq_some_iff.1 hv).1
          simp [h1] at this
          omega
        subst hj
        rw [List.getElem?_append_right (by omega), h1] at hv
        simp at hv
        subst hv
        rw [Addr.add_mid, Nat.add_assoc]
        exact hy

theorem run_load_at {P : Program} {w : World} {b off : Nat} {y : Value} (h : w.cell? ⟨b, off, none⟩ = some y) : (load ⟨b, off, none⟩).run P w = .ok y w := by
  rw [run_load, h]

theorem rdc_some {σ : Heap} {r off n : Nat} {cs : List V} (h : rdc σ r off n = some cs) : ∃ row, σ[r]? = some (some row) ∧ off + n ≤ row.cells.length ∧ cs = (row.cells.drop off).take n := by
  unfold rdc at h
  split at h
  · rename_i row hr
    split at h
    · rename_i hl; injection h with h; exact ⟨row, hr, hl, h.symm⟩
    · cases h
  · cases h

theorem Sim.row {μ : Mu} {σ : Heap} {w : World} (h : Sim μ σ w) {r : Nat} {row : Row} {L : Loc} (hr : σ[r]? = some (some row)) (hL : μ r = some L) :
    row.esz = L.esz ∧ At w L.block L.base L.size μ row.cells (!row.ro) row.ty ∧ (row.ro = false → L.base = 0) := by
  obtain ⟨M, h1, h2, h3, h4⟩ := h.live r row hr
  rw [hL] at h1
  injection h1 with h1
  subst h1
  exact ⟨h2, h3, h4⟩

theorem take1 (cs : List V) (off : Nat) (h : off < cs.length) : (cs.drop off).take 1 = [cs[off]] := by
  rw [List.drop_eq_getElem_cons h]
  rfl

section ops
variable {α : Type} {E : Env} {o : Oper} {t : List T} {σ : Heap} {K : List T → Heap → Option α} {r : α} {C : Ctx} {μ : Mu} {β : Nat → Nat} {a : Act} {w : World} {next : Act → World → Prop} {Q : Exit → Act → World → Prop}

theorem run_loadVar_agg {P : Program} {ty : TypeId} {i : TypeInfo} {b off : Nat} {ys : List Value} (hag : ∀ w, (isAgg ty).run P w = .ok true w) (hi : P.info? ty = some i) (hl : ys.length = i.size)
    (hc : ∀ j v, ys[j]? = some v → w.cell? ((⟨b, off, none⟩ : Addr).add j) = some v) : (loadVar ty ⟨b, off, none⟩).run P w = .ok (.agg ys.toArray) w := by
  have := run_loadCells_list (P := P) w ⟨b, off, none⟩ ys hc
  rw [hl] at this
  simp [loadVar, hag, sizeOf, typeInfo, hi, this]

/-- Where an operation that reads memory reads. -/
def Reads (t : List T) (σ : Heap) (μ : Mu) (β : Nat → Nat) (x : Operand) (b : Nat) : Prop :=
  (∃ d off cs, HM.ev t x = .ref d off ∧ t[d]? = some (.box cs) ∧ b = β d) ∨ (∃ q off row L, HM.ev t x = .v (.ptr q off) ∧ σ[q]? = some (some row) ∧ μ q = some L ∧ b = L.block)

theorem pure_load (st : St C μ β t σ a w) {ty : TypeId} {x : Operand} (ho : o.op = .load ty x) (h : hop E o t σ K = some r) : ∃ b, Reads t σ μ β x b ∧ PureStep E o t σ μ β K r a w (fun w' => w'.heap[b]? = w.heap[b]?) := by
  simp only [hop, ho] at h
  obtain ⟨ag, hag0, h0⟩ := Option.bind_eq_some_iff.1 h
  have hag := aggOf_run hag0
  obtain ⟨ii, hi⟩ := aggOf_info hag0
  have hn : nsize E.P ty = ii.size := nsize_of hi
  rcases evP_some st h0 with ⟨d, off, cs, h1, h2, h3, h4, hev⟩ | ⟨q, off, L, h1, h2, h3, hev⟩
  · refine ⟨β d, .inl ⟨d, off, cs, hev, h2, rfl⟩, ?_⟩
    rw [h2] at h1
    obtain ⟨y0, hy0, hbox⟩ := st.tmps d _ h2
    have hat := hbox.2
    cases ag with
    | true =>
      simp only [cond_true] at h1
      split at h1
      · rename_i hle
        obtain ⟨ys, hl, hr, hc⟩ := hat.range off _ hle
        rw [Nat.zero_add] at hc
        refine pure_v (y := .agg ys.toArray) (RelC.agg (by simpa using hr)) h1 (fun w' hS => ?_)
        have hc' : ∀ j v, ys[j]? = some v → w'.cell? ((⟨β d, off, none⟩ : Addr).add j) = some v := fun j v hv => by
          have := hc j v hv
          rw [Addr.add_mid] at this ⊢
          unfold World.cell? at this ⊢
          rw [hS]
          exact this
        simp [execOp, ho, h3, Instr.loadAt, Instr.sureAddr, run_loadVar_agg hag hi (by rw [hl, hn]) hc']
      · cases h1
    | false =>
      simp only [cond_false] at h1
      split at h1
      · rename_i c hc
        obtain ⟨y, hy, hr, _⟩ := hat.cellAt hc
        rw [Nat.zero_add] at hy
        refine pure_v hr h1 (fun w' hS => ?_)
        have hy' : w'.cell? ⟨β d, off, none⟩ = some y := by
          unfold World.cell? at hy ⊢
          rw [hS]
          exact hy
        simp [execOp, ho, h3, Instr.loadAt, Instr.sureAddr, loadVar, hag, hy']
      · cases h1
  · cases ag with
    | true =>
      simp only [cond_true] at h1
      obtain ⟨cs, hcs, h1⟩ := Option.bind_eq_some_iff.1 h1
      have h1 := castCells_some h1
      obtain ⟨row, hrow, hle, rfl⟩ := rdc_some hcs
      obtain ⟨_, hat, _⟩ := st.base.sim.row hrow h2
      obtain ⟨ys, hl, hr, hc⟩ := hat.range off _ hle
      refine ⟨L.block, .inr ⟨q, off, row, L, hev, hrow, h2, rfl⟩, pure_v (y := .agg ys.toArray) (RelC.agg (by simpa using hr)) h1 (fun w' hS => ?_)⟩
      have hc' : ∀ j v, ys[j]? = some v → w'.cell? ((⟨L.block, L.base + off, none⟩ : Addr).add j) = some v := fun j v hv => by
        have := hc j v hv
        rw [Addr.add_mid] at this ⊢
        unfold World.cell? at this ⊢
        rw [hS]
        exact this
      simp [execOp, ho, h3, Instr.loadAt, Instr.sureAddr, run_loadVar_agg hag hi (by rw [hl, hn]) hc']
    | false =>
      simp only [cond_false] at h1
      obtain ⟨cs, hcs, h1⟩ := Option.bind_eq_some_iff.1 h1
      have h1 := castCells_some h1
      obtain ⟨row, hrow, hle, rfl⟩ := rdc_some hcs
      obtain ⟨_, hat, _⟩ := st.base.sim.row hrow h2
      have hlt : off < row.cells.length := by omega
      rw [take1 _ _ hlt] at h1
      obtain ⟨y, hy, hr, _⟩ := hat.cellAt (List.getElem?_eq_getElem hlt)
      refine ⟨L.block, .inr ⟨q, off, row, L, hev, hrow, h2, rfl⟩, pure_v hr h1 (fun w' hS => ?_)⟩
      have hy' : w'.cell? ⟨L.block, L.base + off, none⟩ = some y := by
        unfold World.cell? at hy ⊢
        rw [hS]
        exact hy
      simp [execOp, ho, h3, Instr.loadAt, Instr.sureAddr, loadVar, hag, hy']

theorem run_storeVar {P : Program} {ty : TypeId} {i : TypeInfo} {b off : Nat} {y : Value} {w' : World} (hi : P.info? ty = some i) (hl : y.cells.size = i.size) (hs : (storeCells ⟨b, off, none⟩ y.cells.toList).run P w = .ok () w') :
    (storeVar ty ⟨b, off, none⟩ y).run P w = .ok () w' := by
  simp [storeVar, sizeOf, typeInfo, hi, hl, hs]

theorem Step.stored (st : St C μ β t σ a w) {ty : TypeId} {x y : Operand} (ho : o.op = .store ty x y) {d off : Nat} {cs : List V} (he : HM.ev t x = .ref d off) (hd : t[d]? = some (.box cs)) (cs' : List V) {w' : World} (g : Wrote (β d) w w') :
    Step w σ μ t β (touch o t) w' σ μ (putT o.dst .bot (t.set d (.box cs'))) β where
  le := Le.refl _
  ro := fun r row L h1 _ h3 => g.block _ ((st.mine d _ hd rfl).2 r row L h1 h3)
  own := by
    intro i z hz hoz het
    have hne : d ≠ i := by
      intro h
      simp [touch, ho, he, h] at het
    refine ⟨g.block _ (st.apart i d z _ hz hd hoz rfl (Ne.symm hne)), rfl, ?_⟩
    have hz' : (t.set d (.box cs'))[i]? = some z := by simp [List.getElem?_set, hne, hz]
    cases hdst : o.dst with
    | none => exact ⟨z, hz', hoz⟩
    | some e =>
      have : e ≠ i := by
        intro h
        simp [touch, hdst, h] at het
      exact ⟨z, by simp [putT, List.getElem?_set, this, hz', hne, hz], hoz⟩
  keepb := fun b hlt _ h2 => g.block b (Ne.symm (h2 d _ hd rfl))
  size := by rw [g.size]; exact Nat.le_refl _
  desc := (st.base.sim.base 0).okb
  fresh := by
    intro i z hz hoz
    refine .inl ⟨rfl, ?_⟩
    have h1 : ∃ z', (t.set d (.box cs'))[i]? = some z' ∧ z'.own = true := by
      cases hdst : o.dst with
      | none => rw [hdst] at hz; exact ⟨z, hz, hoz⟩
      | some e =>
        rw [hdst] at hz
        simp only [putT, List.getElem?_set] at hz
        split at hz
        · split at hz
          · injection hz with hz
            rw [← hz] at hoz
            cases hoz
          · cases hz
        · exact ⟨z, by rw [List.getElem?_set]; exact hz, hoz⟩
    obtain ⟨z', hz', hoz'⟩ := h1
    rw [List.getElem?_set] at hz'
    split at hz'
    · rename_i hdi
      subst hdi
      exact ⟨_, hd, rfl⟩
    · exact ⟨z', hz', hoz'⟩

theorem goes_store (st : St C μ β t σ a w) {ty : TypeId} {x y : Operand} (ho : o.op = .store ty x y) (h : hop E o t σ K = some r) : Goes E o t σ μ β K r C a w next Q := by
  simp only [hop, ho] at h
  obtain ⟨n, hn0, h⟩ := Option.bind_eq_some_iff.1 h
  obtain ⟨ii, hi, hn⟩ := esize_some hn0
  obtain ⟨v, h0, rv⟩ := evV_some st h
  obtain ⟨htu, h1⟩ := cellsT_some h0
  split at h1
  · cases h1
  · rename_i hc
    have hsz : v.cells.length = n := by
      rcases Nat.decEq v.cells.length n with hne | heq
      · exact absurd hne hc
      · exact heq
    have hcells := rv.cells htu
    · have hys : (a.eval y).cells.size = ii.size := by
        have := hcells.1
        simp at this
        omega
      rcases evP_some st h1 with ⟨d, off, cs, h1, h2, h3, h4, hev⟩ | ⟨q, off, L, h1, h2, h3, _⟩
      · rw [h2] at h1
        simp only at h1
        split at h1
        · rename_i hle
          obtain ⟨y0, hy0, hbox⟩ := st.tmps d _ h2
          have hat := hbox.2
          have hst := run_store_at (P := E.P) hat off _ _ hcells hle
          have hat' := hat.store off _ _ hcells hle
          have st' := st.wroteOwn h2 (Wrote.cells (β d) off _ w) (setCellsL_length _ _ _) hat'
          intro hk
          refine wp_skip' (w' := w.setCells (β d) off (a.eval y).cells.toList) ?_ (hk _ _ _ _ _ _ (st'.put o.dst .bot undef rfl trivial) (Step.stored st ho hev h2 _ (Wrote.cells (β d) off _ w)) h1)
          simp [execOp, ho, h3, Instr.storeAt, Instr.sureAddr, run_storeVar hi hys hst]
        · cases h1
      · obtain ⟨σ', hw, h1⟩ := Option.bind_eq_some_iff.1 h1
        unfold wrc at hw
        split at hw
        · rename_i row hrow
          split at hw
          · rename_i hle
            injection hw with hw
            obtain ⟨hesz, hat, hb0⟩ := st.base.sim.row hrow h2
            rw [hle.1, Bool.not_false] at hat
            rw [hb0 hle.1] at hat h3
            rw [Nat.zero_add] at h3
            have hst := run_store_at (P := E.P) hat off _ _ hcells hle.2
            have hat' := hat.store off _ _ hcells hle.2
            have hb := (st.base.sim.base 0).wrote hrow h2 hle.1 (Wrote.cells L.block off _ w) _ hat'
            intro hk
            have hσ : σ' = σ.set q (some ⟨setCells row.cells off v.cells, row.esz, false, row.ty⟩) := by
              rw [← hw, ← hle.1]
            rw [← hσ] at hb
            refine wp_skip' (w' := w.setCells L.block off (a.eval y).cells.toList) ?_ (hk _ _ _ _ _ _ ((st.call hb).put o.dst .bot undef rfl trivial) (Step.ofBase st hb .bot rfl) h1)
            simp [execOp, ho, h3, Instr.storeAt, Instr.sureAddr, run_storeVar hi hys hst]
          · cases hw
        · cases hw
end ops
end Go.HM
