/- Stores and appends. -/
import Derived.Test.YtoakhfnojbmhgaaGreatHMMem
set_option linter.unusedSimpArgs false
set_option linter.unusedVariables false
namespace Go.HM

theorem setCells_ne (b : Nat) : ∀ (vs : List Value) (o : Nat) (w : World) (k : Nat), k ≠ b → (w.setCells b o vs).heap[k]? = w.heap[k]?
  | [], _, _, _, _ => rfl
  | v :: vs, o, w, k, hk => by
    rw [World.setCells, setCells_ne b vs (o + 1) _ k hk]
    exact RowKit.Below.heap_setCell w ⟨b, o, none⟩ v k hk

theorem setCells_size (b : Nat) : ∀ (vs : List Value) (o : Nat) (w : World), (w.setCells b o vs).heap.size = w.heap.size
  | [], _, _ => rfl
  | v :: vs, o, w => by rw [World.setCells, setCells_size b vs (o + 1)]; simp [World.setCell]

theorem setCells_os (b : Nat) : ∀ (vs : List Value) (o : Nat) (w : World), (w.setCells b o vs).os = w.os ∧ (w.setCells b o vs).tape = w.tape ∧ (w.setCells b o vs).output = w.output
  | [], _, _ => ⟨rfl, rfl, rfl⟩
  | v :: vs, o, w => by rw [World.setCells]; exact setCells_os b vs (o + 1) _

theorem setCells_at (b : Nat) (t : TypeId) (fz : Nat × Nat) : ∀ (vs : List Value) (o : Nat) (w : World) (cs : Array Value), w.heap[b]? = some (.cells cs t fz) → o + vs.length ≤ cs.size →
    ∃ cs' : Array Value, (w.setCells b o vs).heap[b]? = some (.cells cs' t fz) ∧ cs'.size = cs.size ∧ (∀ j u, vs[j]? = some u → cs'[o + j]? = some u) ∧ (∀ j, j < o ∨ o + vs.length ≤ j → cs'[j]? = cs[j]?)
  | [], o, w, cs, h, _ => ⟨cs, h, rfl, fun j u hu => by simp at hu, fun j _ => rfl⟩
  | v :: vs, o, w, cs, h, hl => by
    have h1 : (w.setCell ⟨b, o, none⟩ v).heap[b]? = some (.cells (cs.setIfInBounds o v) t fz) := by
      simp [World.setCell, Array.getElem?_modify, h]
    obtain ⟨cs', k1, k2, k3, k4⟩ := setCells_at b t fz vs (o + 1) _ _ h1 (by simp at hl ⊢; omega)
    refine ⟨cs', by rw [World.setCells]; exact k1, by simpa using k2, fun j u hu => ?_, fun j hj => ?_⟩
    · cases j with
      | zero =>
        simp at hu
        rw [Nat.add_zero, k4 o (.inl (by omega))]
        simp at hl
        simp [hu, show o < cs.size by omega]
      | succ j =>
        have := k3 j u (by simpa using hu)
        rwa [show o + 1 + j = o + (j + 1) by omega] at this
    · simp at hj
      rw [k4 j (by omega)]
      simp [Array.getElem?_setIfInBounds]
      omega

theorem setCellsL_length : ∀ (xs : List V) (cs : List V) (o : Nat), (setCells cs o xs).length = cs.length
  | [], _, _ => rfl
  | x :: xs, cs, o => by rw [setCells, setCellsL_length xs]; simp
theorem setCellsL_get : ∀ (xs : List V) (cs : List V) (o : Nat), o + xs.length ≤ cs.length → ∀ (i : Nat) z, (setCells cs o xs)[i]? = some z → (o ≤ i ∧ xs[i - o]? = some z) ∨ ((i < o ∨ o + xs.length ≤ i) ∧ cs[i]? = some z)
  | [], cs, o, _, i, z, h => .inr ⟨by simp; omega, h⟩
  | x :: xs, cs, o, hl, i, z, h => by
    rw [setCells] at h
    rcases setCellsL_get xs (cs.set o x) (o + 1) (by simp at hl ⊢; omega) i z h with ⟨h1, h2⟩ | ⟨h1, h2⟩
    · refine .inl ⟨by omega, ?_⟩
      rw [show i - o = (i - (o + 1)) + 1 by omega]
      simpa using h2
    · rw [List.getElem?_set] at h2
      split at h2
      · split at h2
        · exact .inl ⟨by omega, by rw [show i - o = 0 by omega]; simpa using h2⟩
        · cases h2
      · rename_i hne
        exact .inr ⟨by simp; omega, h2⟩

/-- A block after a store. -/
theorem At.store {w : World} {b size : Nat} {μ : Mu} {cells : List V} {ty : Nat} (h : At w b 0 size μ cells true ty) (o : Nat) (xs : List V) (ys : List Value) (hr : RelC μ xs ys) (hl : o + xs.length ≤ cells.length) :
    At (w.setCells b o ys) b 0 size μ (setCells cells o xs) true ty := by
  obtain ⟨cs, t, fz, h1, h2, h3, h4, h5⟩ := h
  obtain ⟨cs', k1, k2, k3, k4⟩ := setCells_at b t fz ys o w cs h1 (by rw [← hr.1]; omega)
  refine ⟨cs', t, fz, k1, by omega, by rw [setCellsL_length]; exact h3, fun i z hz => ?_, h5⟩
  rw [Nat.zero_add]
  rcases setCellsL_get xs cells o hl i z hz with ⟨h6, h7⟩ | ⟨h6, h7⟩
  · obtain ⟨y, hy, hrel⟩ := hr.cell (i - o) z h7
    have := k3 (i - o) y hy
    rw [show o + (i - o) = i by omega] at this
    exact ⟨y, this, hrel⟩
  · obtain ⟨y, hy, hrel⟩ := h4 i z h7
    rw [Nat.zero_add] at hy
    rw [k4 i (by rw [← hr.1]; exact h6)]
    exact ⟨y, hy, hrel⟩

/-- That a store goes through. -/
theorem run_store_at {P : Program} {w : World} {b size : Nat} {μ : Mu} {cells : List V} {ty : Nat} (h : At w b 0 size μ cells true ty) (o : Nat) (xs : List V) (ys : List Value) (hr : RelC μ xs ys) (hl : o + xs.length ≤ cells.length) :
    (storeCells ⟨b, o, none⟩ ys).run P w = .ok () (w.setCells b o ys) := by
  obtain ⟨cs, t, fz, h1, h2, h3, h4, h5⟩ := h
  have hf := h5.1 rfl
  have := run_storeCells_cells (P := P) b o ys 0 w (fun j hj => ?_) (fun j hj => ?_) (fun v hv => ?_)
  · rw [Nat.add_zero] at this
    exact this
  · have hj' : o + 0 + j < cs.size := by rw [← hr.1] at hj; omega
    simp [World.cell?, h1]
    omega
  · simp [World.frozen?, h1, hf]
  · obtain ⟨i, hi, rfl⟩ := List.getElem_of_mem hv
    have hi' : i < xs.length := by rw [hr.1]; exact hi
    exact (hr.2 i xs[i] _ (List.getElem?_eq_getElem hi') (List.getElem?_eq_getElem hi)).2

/-- A write in one block. -/
structure Wrote (b : Nat) (w w' : World) : Prop where
  os : w'.os = w.os
  tape : w'.tape = w.tape
  output : w'.output = w.output
  size : w'.heap.size = w.heap.size
  block : ∀ k, k ≠ b → w'.heap[k]? = w.heap[k]?
theorem Wrote.cells (b o : Nat) (vs : List Value) (w : World) : Wrote b w (w.setCells b o vs) :=
  ⟨(setCells_os b vs o w).1, (setCells_os b vs o w).2.1, (setCells_os b vs o w).2.2, setCells_size b vs o w, fun k hk => setCells_ne b vs o w k hk⟩

/-- A row's block has been written, and another row stands for it now, of the same block (or it is the same row). -/
theorem Base.wrote {C : Ctx} {μ : Mu} {σ : Heap} {w w' : World} (h : Base C μ σ w) {r : Nat} {row : Row} {L : Loc} (hr : σ[r]? = some (some row)) (hL : μ r = some L) (hro : row.ro = false) (g : Wrote L.block w w')
    (cells : List V) (hat : At w' L.block 0 L.size μ cells true row.ty) : Base C μ (σ.set r (some ⟨cells, row.esz, false, row.ty⟩)) w' := by
  have hbase : L.base = 0 := by
    obtain ⟨M, h1, _, _, h4⟩ := h.sim.live r row hr
    rw [hL] at h1; injection h1 with h1; rw [h1]; exact h4 hro
  have hesz : row.esz = L.esz := by
    obtain ⟨M, h1, h2, _, _⟩ := h.sim.live r row hr
    rw [hL] at h1; injection h1 with h1; rw [h1]; exact h2
  have hget : ∀ (k : Nat) row', (σ.set r (some ⟨cells, row.esz, false, row.ty⟩))[k]? = some (some row') → (k = r ∧ row' = ⟨cells, row.esz, false, row.ty⟩) ∨ (k ≠ r ∧ σ[k]? = some (some row')) := by
    intro k row' hk
    rw [List.getElem?_set] at hk
    split at hk
    · split at hk
      · injection hk with hk; injection hk with hk; exact .inl ⟨by omega, hk.symm⟩
      · cases hk
    · exact .inr ⟨by omega, hk⟩
  refine ⟨⟨fun k hk => h.sim.fresh k (by simpa using hk), fun k row' hk => ?_, fun k k' row1 row2 L1 L2 h1 h2 h3 h4 h5 h6 => ?_, h.sim.glob, fun g row' M hg hk hM => by
    rcases hget g row' hk with ⟨rfl, _⟩ | ⟨_, hk'⟩
    · have := (h.sim.exact g row L hg hr hL).1
      rw [hro] at this
      cases this
    · exact h.sim.exact g row' M hg hk' hM⟩, ⟨g.os.trans h.keep.os, g.tape.trans h.keep.tape, g.output.trans h.keep.output, by rw [g.size]; exact h.keep.size, fun b hb hn => ?_⟩, h.le, fun k row' M hk hM => ?_⟩
  · rcases hget k row' hk with ⟨rfl, rfl⟩ | ⟨hne, hk'⟩
    · exact ⟨L, hL, hesz, by rw [hbase]; exact hat, fun _ => hbase⟩
    · obtain ⟨M, k1, k2, k3, k4⟩ := h.sim.live k row' hk'
      exact ⟨M, k1, k2, k3.keep (g.block _ (Ne.symm (h.sim.apart r k row row' L M hr hk' hro (Ne.symm hne) hL k1))), k4⟩
  · rcases hget k row1 h1 with ⟨rfl, rfl⟩ | ⟨hne, h1'⟩ <;> rcases hget k' row2 h2 with ⟨rfl, rfl⟩ | ⟨hne', h2'⟩
    · exact absurd rfl h4
    · exact h.sim.apart k k' row row2 L1 L2 hr h2' hro h4 h5 h6
    · exact h.sim.apart k k' row1 row L1 L2 h1' hr h3 h4 h5 h6
    · exact h.sim.apart k k' row1 row2 L1 L2 h1' h2' h3 h4 h5 h6
  · have hne : b ≠ L.block := by
      intro he
      have := Ctx.okr_rw (h.okb r row L hr hL) hro
      rcases this with h1 | h1
      · omega
      · exact hn (by rw [he]; exact h1)
    rw [g.block b hne]
    exact h.keep.block b hb hn
  · rcases hget k row' hk with ⟨rfl, rfl⟩ | ⟨hne, hk'⟩
    · rcases h.okb k row M hr hM with ⟨row0, h1, h2, h3⟩ | h1
      · exact .inl ⟨row0, h1, h2, fun _ => h3 hro⟩
      · exact .inr h1
    · exact h.okb k row' M hk' hM

theorem St.wrote {C : Ctx} {μ : Mu} {β : Nat → Nat} {t : List T} {σ : Heap} {a : Act} {w w' : World} (h : St C μ β t σ a w) {r : Nat} {row : Row} {L : Loc} (hr : σ[r]? = some (some row)) (hL : μ r = some L) (hro : row.ro = false) (g : Wrote L.block w w')
    (cells : List V) (hat : At w' L.block 0 L.size μ cells true row.ty) : St C μ β t (σ.set r (some ⟨cells, row.esz, false, row.ty⟩)) a w' where
  base := h.base.wrote hr hL hro g cells hat
  size := h.size
  tmps := fun i x hx => let ⟨y, hy, hrel⟩ := h.tmps i x hx; ⟨y, hy, hrel.step (Le.refl μ) (fun z hz ho => g.block _ (Ne.symm ((h.mine i z hz ho).2 r row L hr hL))) hx⟩
  mine := by
    intro i x hx ho
    refine ⟨(h.mine i x hx ho).1, fun k row' M hk hM => ?_⟩
    rw [List.getElem?_set] at hk
    split at hk
    · split at hk
      · subst_vars; exact (h.mine i x hx ho).2 _ row M hr hM
      · cases hk
    · exact (h.mine i x hx ho).2 k row' M hk hM
  apart := h.apart
  defers := h.defers
  len := h.len

/-- A store into a private block. -/
theorem St.wroteOwn {C : Ctx} {μ : Mu} {β : Nat → Nat} {t : List T} {σ : Heap} {a : Act} {w w' : World} (h : St C μ β t σ a w) {d : Nat} {cs cs' : List V} (hd : t[d]? = some (.box cs)) (g : Wrote (β d) w w') (hlen : cs'.length = cs.length)
    (hat : At w' (β d) 0 cs.length μ cs' true) : St C μ β (t.set d (.box cs')) σ a w' := by
  have hget : ∀ (i : Nat) z, (t.set d (.box cs'))[i]? = some z → (i = d ∧ z = .box cs') ∨ (i ≠ d ∧ t[i]? = some z) := by
    intro i z hz
    simp only [List.getElem?_set] at hz
    split at hz
    · split at hz
      · injection hz with hz; exact .inl ⟨by omega, hz.symm⟩
      · cases hz
    · exact .inr ⟨by omega, hz⟩
  have hown : ∀ (i : Nat) z, (t.set d (.box cs'))[i]? = some z → z.own = true → ∃ z', t[i]? = some z' ∧ z'.own = true := by
    intro i z hz ho
    rcases hget i z hz with ⟨rfl, rfl⟩ | ⟨_, hz'⟩
    · exact ⟨_, hd, rfl⟩
    · exact ⟨z, hz', ho⟩
  have hrow : ∀ (r : Nat) row L, σ[r]? = some (some row) → μ r = some L → L.block ≠ β d := (h.mine d _ hd rfl).2
  have hb0 := (h.mine d _ hd rfl).1
  refine ⟨⟨⟨h.base.sim.fresh, fun r row hr => ?_, h.base.sim.apart, h.base.sim.glob, h.base.sim.exact⟩, ⟨g.os.trans h.base.keep.os, g.tape.trans h.base.keep.tape, g.output.trans h.base.keep.output, by rw [g.size]; exact h.base.keep.size, fun b hb hn => ?_⟩, h.base.le, h.base.okb⟩, by simp [h.size], fun i z hz => ?_, fun i z hz ho => ?_, fun i j z z' hz hz' ho ho' hij => ?_, h.defers, by simpa using h.len⟩
  · obtain ⟨L, k1, k2, k3, k4⟩ := h.base.sim.live r row hr
    exact ⟨L, k1, k2, k3.keep (g.block _ (hrow r row L hr k1)), k4⟩
  · rw [g.block b (by omega)]
    exact h.base.keep.block b hb hn
  · rcases hget i z hz with ⟨rfl, rfl⟩ | ⟨hne, hz'⟩
    · obtain ⟨y, hy, hrel⟩ := h.tmps i _ hd
      exact ⟨y, hy, hrel.1, by rw [hlen]; exact hat⟩
    · obtain ⟨y, hy, hrel⟩ := h.tmps i z hz'
      refine ⟨y, hy, ?_⟩
      have hrel2 := hrel.step (Le.refl μ) (w' := w') (fun v hv ho => g.block _ (h.apart i d v _ hv hd ho rfl hne)) hz'
      cases z with
      | ref e off =>
        intro c hc
        rcases hget e _ hc with ⟨rfl, _⟩ | ⟨_, hc'⟩
        · exact hrel _ hd
        · exact hrel _ hc'
      | _ => exact hrel2
  · obtain ⟨z', hz', ho'⟩ := hown i z hz ho
    exact h.mine i z' hz' ho'
  · obtain ⟨u, hu, hou⟩ := hown i z hz ho
    obtain ⟨u', hu', hou'⟩ := hown j z' hz' ho'
    exact h.apart i j u u' hu hu' hou hou' hij

/-- The row goes over into a new one, in the same block. -/
theorem Base.moved {C : Ctx} {μ : Mu} {σ : Heap} {w : World} (hb : Base C μ σ w) {r : Nat} {row : Row} {L : Loc} (hr : σ[r]? = some (some row)) (hL : μ r = some L) (hro : row.ro = false)
    (cells : List V) (ty : Nat) (hat : At w L.block 0 L.size μ cells true ty) : Base C (upd μ σ.length L) (hnewT (σ.set r none) ty row.esz cells) w := by
  have hbase : L.base = 0 := by
    obtain ⟨M, h1, _, _, h4⟩ := hb.sim.live r row hr
    rw [hL] at h1; injection h1 with h1; rw [h1]; exact h4 hro
  have hesz : row.esz = L.esz := by
    obtain ⟨M, h1, h2, _, _⟩ := hb.sim.live r row hr
    rw [hL] at h1; injection h1 with h1; rw [h1]; exact h2
  have hlen : (σ.set r none).length = σ.length := by simp
  have hle : Le μ (upd μ σ.length L) := le_upd (hb.sim.fresh _ (Nat.le_refl _))
  have hget : ∀ (k : Nat) row', (hnewT (σ.set r none) ty row.esz cells)[k]? = some (some row') → (k = σ.length ∧ row' = ⟨cells, row.esz, false, ty⟩) ∨ (k ≠ r ∧ k < σ.length ∧ σ[k]? = some (some row')) := by
    intro k row' hk
    rcases hnewT_old hk with ⟨h1, h2⟩ | ⟨rfl, rfl⟩
    · rw [List.getElem?_set] at h1
      split at h1
      · split at h1
        · cases h1
        · cases h1
      · exact .inr ⟨by omega, by simpa using h2, h1⟩
    · exact .inl ⟨by simp, rfl⟩
  have hold : ∀ {k : Nat} {M : Loc}, k < σ.length → upd μ σ.length L k = some M → μ k = some M := by
    intro k M hk hM
    unfold upd at hM
    rw [if_neg (by omega)] at hM
    exact hM
  have hnewL : ∀ {M : Loc}, upd μ σ.length L σ.length = some M → M = L := by
    intro M hM
    unfold upd at hM
    rw [if_pos rfl] at hM
    injection hM with hM
    exact hM.symm
  refine ⟨⟨fun k hk => ?_, fun k row' hk => ?_, fun k k' row1 row2 L1 L2 h1 h2 h3 h4 h5 h6 => ?_, fun g hg => let ⟨M, h1, h2⟩ := hb.sim.glob g hg; ⟨M, hle _ _ h1, h2⟩, fun g row' M hg hk hM => by
    rcases hget g row' hk with ⟨rfl, _⟩ | ⟨_, hlt, hk'⟩
    · obtain ⟨N, n1, _⟩ := hb.sim.glob _ hg
      rw [hb.sim.fresh _ (Nat.le_refl _)] at n1
      cases n1
    · exact hb.sim.exact g row' M hg hk' (hold hlt hM)⟩, hb.keep, hb.le.trans hle, fun k row' M hk hM => ?_⟩
  · simp [hnewT] at hk
    unfold upd
    rw [if_neg (by omega)]
    exact hb.sim.fresh k (by omega)
  · rcases hget k row' hk with ⟨rfl, rfl⟩ | ⟨hne, hlt, hk'⟩
    · exact ⟨L, by unfold upd; rw [if_pos rfl], hesz, by rw [hbase]; exact hat.mono hle, fun _ => hbase⟩
    · obtain ⟨M, k1, k2, k3, k4⟩ := hb.sim.live k row' hk'
      exact ⟨M, hle _ _ k1, k2, k3.mono hle, k4⟩
  · rcases hget k row1 h1 with ⟨rfl, rfl⟩ | ⟨hne, hlt, h1'⟩ <;> rcases hget k' row2 h2 with ⟨rfl, rfl⟩ | ⟨hne', hlt', h2'⟩
    · exact absurd rfl h4
    · rw [hnewL h5]
      exact hb.sim.apart r k' row row2 L L2 hr h2' hro (Ne.symm hne') hL (hold hlt' h6)
    · rw [hnewL h6]
      exact hb.sim.apart k r row1 row L1 L h1' hr h3 hne (hold hlt h5) hL
    · exact hb.sim.apart k k' row1 row2 L1 L2 h1' h2' h3 h4 (hold hlt h5) (hold hlt' h6)
  · rcases hget k row' hk with ⟨rfl, rfl⟩ | ⟨hne, hlt, hk'⟩
    · rw [hnewL hM]
      exact .inr (Ctx.okr_rw (hb.okb r row L hr hL) hro)
    · rcases hb.okb k row' M hk' (hold hlt hM) with h1 | h1
      · exact .inl h1
      · exact .inr h1

/-- A row may be forgotten. -/
theorem Base.forget {C : Ctx} {μ : Mu} {σ : Heap} {w : World} (h : Base C μ σ w) (r : Nat) : Base C μ (σ.set r none) w := by
  have hget : ∀ (k : Nat) row', (σ.set r none)[k]? = some (some row') → σ[k]? = some (some row') := by
    intro k row' hk
    rw [List.getElem?_set] at hk
    split at hk
    · split at hk <;> cases hk
    · exact hk
  exact ⟨⟨fun k hk => h.sim.fresh k (by simpa using hk), fun k row hk => h.sim.live k row (hget k row hk), fun k k' r1 r2 L L' h1 h2 => h.sim.apart k k' r1 r2 L L' (hget _ _ h1) (hget _ _ h2), h.sim.glob, fun g row L hg hr => h.sim.exact g row L hg (hget _ _ hr)⟩, h.keep, h.le, fun k row L hk => h.okb k row L (hget _ _ hk)⟩

theorem Sim.base {μ : Mu} {σ : Heap} {w : World} (h : Sim μ σ w) (n : Nat) : Base ⟨w, σ, μ, n⟩ μ σ w where
  sim := h
  keep := Keep.refl _
  le := Le.refl _
  okb := fun r row L h1 h2 => .inl ⟨row, h1, h2, fun h => h⟩
end Go.HM
