/- The memory's steps: a new row, a private block, a store, an append, a call. -/
import Derived.Test.YtoakhfnojbmhgaaGreatHMRel
set_option linter.unusedSimpArgs false
set_option linter.unusedVariables false
namespace Go.HM

theorem Ctx.okb_weak {C : Ctx} {b : Nat} {x : Bool} (h : C.okb true b) : C.okb x b := by
  rcases h with h | ⟨r, row, L, h1, h2, h3, h4⟩
  · exact .inl h
  · exact .inr ⟨r, row, L, h1, h2, h3, fun _ => h4 rfl⟩

/-- Behind a call. -/
theorem Base.call {C : Ctx} {μ μ' : Mu} {σ σ' : Heap} {w w' : World} (h : Base C μ σ w) (k : Base ⟨w, σ, μ, 0⟩ μ' σ' w') : Base C μ' σ' w' where
  sim := k.sim
  keep := {
    os := k.keep.os.trans h.keep.os
    tape := k.keep.tape.trans h.keep.tape
    output := k.keep.output.trans h.keep.output
    size := Nat.le_trans h.keep.size k.keep.size
    block := fun b hb hn => by
      rw [k.keep.block b (Nat.lt_of_lt_of_le hb h.keep.size) ?_]
      · exact h.keep.block b hb hn
      · rintro ⟨r, row, L, h1, h2, h3, h4⟩
        have h5 := Ctx.okr_rw (h.okb r row L h1 h2) (h4 rfl)
        rw [h3] at h5
        rcases h5 with h5 | h5
        · exact absurd hb (by omega)
        · exact hn h5 }
  le := h.le.trans k.le
  okb := by
    intro r row L h1 h2
    rcases k.okb r row L h1 h2 with ⟨row0, h3, h4, h5⟩ | h3 | ⟨r0, row0, L0, h3, h4, h5, h6⟩
    · rcases h.okb r row0 L h3 h4 with ⟨row1, h6, h7, h8⟩ | h6
      · exact .inl ⟨row1, h6, h7, fun hr => h8 (h5 hr)⟩
      · exact .inr h6
    · exact .inr (.inl (Nat.le_trans h.keep.size h3))
    · have h7 := Ctx.okr_rw (h.okb r0 row0 L0 h3 h4) (h6 rfl)
      rw [h5] at h7
      exact .inr h7

theorem TRel.step {μ μ' : Mu} {β : Nat → Nat} {t : List T} {i : Nat} {w w' : World} (hl : Le μ μ') (hk : ∀ x, t[i]? = some x → x.own = true → w'.heap[β i]? = w.heap[β i]?) {x : T} {y : Value} (hx : t[i]? = some x)
    (h : TRel μ β t i w x y) : TRel μ' β t i w' x y := by
  cases x with
  | bot => trivial
  | v x => exact Rel.mono hl h
  | ref e off => exact h
  | box cs => exact ⟨h.1, (h.2.mono hl).keep (hk _ hx rfl)⟩
  | arr cs n => exact ⟨h.1, (h.2.mono hl).keep (hk _ hx rfl)⟩

theorem TRel.lt {μ : Mu} {β : Nat → Nat} {t : List T} {i : Nat} {w : World} {x : T} {y : Value} (h : TRel μ β t i w x y) (ho : x.own = true) : β i < w.heap.size := by
  cases x with
  | box cs => exact h.2.lt
  | arr cs n => exact h.2.lt
  | _ => cases ho

theorem St.lt {C : Ctx} {μ : Mu} {β : Nat → Nat} {t : List T} {σ : Heap} {a : Act} {w : World} (h : St C μ β t σ a w) {i : Nat} {x : T} (hx : t[i]? = some x) (ho : x.own = true) : β i < w.heap.size := by
  obtain ⟨y, _, hr⟩ := h.tmps i x hx
  exact hr.lt ho

theorem St.call {C : Ctx} {μ μ' : Mu} {β : Nat → Nat} {t : List T} {σ σ' : Heap} {a : Act} {w w' : World} (h : St C μ β t σ a w) (k : Base ⟨w, σ, μ, 0⟩ μ' σ' w') : St C μ' β t σ' a w' where
  base := h.base.call k
  size := h.size
  tmps := by
    intro i x hx
    obtain ⟨y, hy, hr⟩ := h.tmps i x hx
    refine ⟨y, hy, hr.step k.le (fun z hz ho => ?_) hx⟩
    refine k.keep.block _ (h.lt hz ho) ?_
    rintro ⟨r, row, L, h1, h2, h3, _⟩
    exact (h.mine i z hz ho).2 r row L h1 h2 h3
  mine := by
    intro i x hx ho
    refine ⟨(h.mine i x hx ho).1, fun r row L h1 h2 => ?_⟩
    have hlt := h.lt hx ho
    rcases k.okb r row L h1 h2 with ⟨row0, h3, h4, h5⟩ | h3 | ⟨r0, row0, L0, h3, h4, h5, _⟩
    · exact (h.mine i x hx ho).2 r row0 L h3 h4
    · have : w.heap.size ≤ L.block := h3
      omega
    · rw [← h5]; exact (h.mine i x hx ho).2 r0 row0 L0 h3 h4
  apart := h.apart
  defers := h.defers
  len := h.len

/-! ### New blocks -/
def upd (μ : Mu) (r : Nat) (L : Loc) : Mu := fun k => if k = r then some L else μ k
theorem le_upd {μ : Mu} {r : Nat} {L : Loc} (h : μ r = none) : Le μ (upd μ r L) := by
  intro k M hk
  unfold upd
  split
  · subst_vars; rw [h] at hk; cases hk
  · exact hk

theorem push_ne (w : World) (o : Obj) {b : Nat} (h : b < w.heap.size) : ({ w with heap := w.heap.push o } : World).heap[b]? = w.heap[b]? := by
  show (w.heap.push o)[b]? = _
  rw [Array.getElem?_push, if_neg (by omega)]
theorem push_eq (w : World) (o : Obj) : ({ w with heap := w.heap.push o } : World).heap[w.heap.size]? = some o := by
  show (w.heap.push o)[w.heap.size]? = _
  rw [Array.getElem?_push, if_pos rfl]

theorem hnewT_old {σ : Heap} {ty esz : Nat} {cells : List V} {r : Nat} {row : Row} (h : (hnewT σ ty esz cells)[r]? = some (some row)) :
    (σ[r]? = some (some row) ∧ r < σ.length) ∨ (r = σ.length ∧ row = ⟨cells, esz, false, ty⟩) := by
  unfold hnewT at h
  rcases Nat.lt_or_ge r σ.length with hr | hr
  · rw [List.getElem?_append_left hr] at h; exact .inl ⟨h, hr⟩
  · rw [List.getElem?_append_right hr] at h
    have : r - σ.length = 0 := by
      have := (List.getElem?_eq_some_iff.1 h).1
      simp at this
      omega
    rw [this] at h
    simp at h
    exact .inr ⟨by omega, h.symm⟩

theorem hnew_old {σ : Heap} {esz : Nat} {cells : List V} {r : Nat} {row : Row} (h : (hnew σ esz cells)[r]? = some (some row)) :
    (σ[r]? = some (some row) ∧ r < σ.length) ∨ (r = σ.length ∧ row = ⟨cells, esz, false, 0⟩) := hnewT_old (ty := 0) h

/-- Any change of the world that leaves what lies in old blocks. -/
structure Grew (w w' : World) : Prop where
  os : w'.os = w.os
  tape : w'.tape = w.tape
  output : w'.output = w.output
  size : w.heap.size ≤ w'.heap.size
  block : ∀ b, b < w.heap.size → w'.heap[b]? = w.heap[b]?
theorem Grew.push (w : World) (o : Obj) : Grew w { w with heap := w.heap.push o } := ⟨rfl, rfl, rfl, by simp, fun b hb => push_ne w o hb⟩
theorem Grew.refl (w : World) : Grew w w := ⟨rfl, rfl, rfl, Nat.le_refl _, fun _ _ => rfl⟩
theorem Grew.drawn (w : World) (n : Nat) : Grew w { w with drawn := n } := ⟨rfl, rfl, rfl, Nat.le_refl _, fun _ _ => rfl⟩
theorem Grew.trans {a b c : World} (h : Grew a b) (k : Grew b c) : Grew a c :=
  ⟨k.os.trans h.os, k.tape.trans h.tape, k.output.trans h.output, Nat.le_trans h.size k.size, fun i hi => (k.block i (Nat.lt_of_lt_of_le hi h.size)).trans (h.block i hi)⟩

theorem Sim.grew {μ : Mu} {σ : Heap} {w w' : World} (h : Sim μ σ w) (g : Grew w w') : Sim μ σ w' where
  fresh := h.fresh
  live := fun r row hr => let ⟨L, h1, h2, h3, h4⟩ := h.live r row hr; ⟨L, h1, h2, h3.keep (g.block _ h3.lt), h4⟩
  apart := h.apart
  glob := h.glob
  exact := h.exact
theorem Base.grew {C : Ctx} {μ : Mu} {σ : Heap} {w w' : World} (h : Base C μ σ w) (g : Grew w w') : Base C μ σ w' where
  sim := h.sim.grew g
  keep := ⟨g.os.trans h.keep.os, g.tape.trans h.keep.tape, g.output.trans h.keep.output, Nat.le_trans h.keep.size g.size, fun b hb hn => (g.block b (Nat.lt_of_lt_of_le hb h.keep.size)).trans (h.keep.block b hb hn)⟩
  le := h.le
  okb := h.okb
theorem St.grew {C : Ctx} {μ : Mu} {β : Nat → Nat} {t : List T} {σ : Heap} {a : Act} {w w' : World} (h : St C μ β t σ a w) (g : Grew w w') : St C μ β t σ a w' where
  base := h.base.grew g
  size := h.size
  tmps := fun i x hx => let ⟨y, hy, hr⟩ := h.tmps i x hx; ⟨y, hy, hr.step (Le.refl _) (fun z hz ho => g.block _ (h.lt hz ho)) hx⟩
  mine := h.mine
  apart := h.apart
  defers := h.defers
  len := h.len

theorem Sim.block_lt {μ : Mu} {σ : Heap} {w : World} (h : Sim μ σ w) {r : Nat} {row : Row} {L : Loc} (hr : σ[r]? = some (some row)) (hL : μ r = some L) : L.block < w.heap.size := by
  obtain ⟨M, h1, _, h3, _⟩ := h.live r row hr
  rw [hL] at h1
  injection h1 with h1
  rw [h1]
  exact h3.lt

/-- A new row, in a block that has just been made. -/
theorem Sim.newT {μ : Mu} {σ : Heap} {w w' : World} (h : Sim μ σ w) (g : Grew w w') (ty esz size : Nat) (cells : List V) (b : Nat) (hb : w.heap.size ≤ b)
    (hat : At w' b 0 size μ cells true ty) : Sim (upd μ σ.length ⟨b, 0, esz, size⟩) (hnewT σ ty esz cells) w' := by
  have hle : Le μ (upd μ σ.length ⟨b, 0, esz, size⟩) := le_upd (h.fresh _ (Nat.le_refl _))
  refine ⟨fun r hr => ?_, fun r row hr => ?_, fun r r' row row' L L' h1 h2 h3 h4 h5 h6 => ?_, fun g hg => let ⟨L, h1, h2⟩ := h.glob g hg; ⟨L, hle _ _ h1, h2⟩, fun g row M hg hr hM => ?_⟩
  · simp [hnewT] at hr
    unfold upd
    rw [if_neg (by omega)]
    exact h.fresh r (by omega)
  · rcases hnewT_old hr with ⟨hr, hlt⟩ | ⟨rfl, rfl⟩
    · obtain ⟨L, k1, k2, k3, k4⟩ := h.live r row hr
      exact ⟨L, hle _ _ k1, k2, (k3.mono hle).keep (g.block _ k3.lt), k4⟩
    · exact ⟨⟨b, 0, esz, size⟩, by unfold upd; rw [if_pos rfl], rfl, hat.mono hle, fun _ => rfl⟩
  · have old : ∀ {r : Nat} {row : Row} {L : Loc}, σ[r]? = some (some row) → r < σ.length → upd μ σ.length ⟨b, 0, esz, size⟩ r = some L → L.block < w.heap.size := by
      intro r row L hr hlt hL
      unfold upd at hL
      rw [if_neg (by omega)] at hL
      exact h.block_lt hr hL
    rcases hnewT_old h1 with ⟨h1, l1⟩ | ⟨rfl, rfl⟩ <;> rcases hnewT_old h2 with ⟨h2, l2⟩ | ⟨rfl, rfl⟩
    · unfold upd at h5 h6
      rw [if_neg (by omega)] at h5 h6
      exact h.apart r r' row row' L L' h1 h2 h3 h4 h5 h6
    · have := old h1 l1 h5
      unfold upd at h6
      rw [if_pos rfl] at h6
      injection h6 with h6
      rw [← h6]
      show L.block ≠ b
      omega
    · have := old h2 l2 h6
      unfold upd at h5
      rw [if_pos rfl] at h5
      injection h5 with h5
      rw [← h5]
      show b ≠ L'.block
      omega
    · exact absurd rfl h4
  · rcases hnewT_old hr with ⟨hr, hlt⟩ | ⟨rfl, _⟩
    · unfold upd at hM
      rw [if_neg (by omega)] at hM
      exact h.exact g row M hg hr hM
    · obtain ⟨N, n1, _⟩ := h.glob _ hg
      rw [h.fresh _ (Nat.le_refl _)] at n1
      cases n1

theorem Base.newT {C : Ctx} {μ : Mu} {σ : Heap} {w w' : World} (h : Base C μ σ w) (g : Grew w w') (ty esz size : Nat) (cells : List V) (b : Nat) (hb : w.heap.size ≤ b)
    (hat : At w' b 0 size μ cells true ty) : Base C (upd μ σ.length ⟨b, 0, esz, size⟩) (hnewT σ ty esz cells) w' where
  sim := h.sim.newT g ty esz size cells b hb hat
  keep := (h.grew g).keep
  le := h.le.trans (le_upd (h.sim.fresh _ (Nat.le_refl _)))
  okb := by
    intro r row L h1 h2
    rcases hnewT_old h1 with ⟨h1, l1⟩ | ⟨rfl, rfl⟩
    · unfold upd at h2
      rw [if_neg (by omega)] at h2
      exact h.okb r row L h1 h2
    · unfold upd at h2
      rw [if_pos rfl] at h2
      injection h2 with h2
      rw [← h2]
      exact .inr (.inl (Nat.le_trans h.keep.size hb))

theorem Sim.new {μ : Mu} {σ : Heap} {w w' : World} (h : Sim μ σ w) (g : Grew w w') (esz size : Nat) (cells : List V) (b : Nat) (hb : w.heap.size ≤ b)
    (hat : At w' b 0 size μ cells true) : Sim (upd μ σ.length ⟨b, 0, esz, size⟩) (hnew σ esz cells) w' := h.newT g 0 esz size cells b hb hat
theorem Base.new {C : Ctx} {μ : Mu} {σ : Heap} {w w' : World} (h : Base C μ σ w) (g : Grew w w') (esz size : Nat) (cells : List V) (b : Nat) (hb : w.heap.size ≤ b)
    (hat : At w' b 0 size μ cells true) : Base C (upd μ σ.length ⟨b, 0, esz, size⟩) (hnew σ esz cells) w' := h.newT g 0 esz size cells b hb hat

theorem St.new {C : Ctx} {μ : Mu} {β : Nat → Nat} {t : List T} {σ : Heap} {a : Act} {w w' : World} (h : St C μ β t σ a w) (g : Grew w w') (esz size : Nat) (cells : List V) (b : Nat) (hb : w.heap.size ≤ b)
    (hat : At w' b 0 size μ cells true) : St C (upd μ σ.length ⟨b, 0, esz, size⟩) β t (hnew σ esz cells) a w' where
  base := h.base.new g esz size cells b hb hat
  size := h.size
  tmps := fun i x hx => let ⟨y, hy, hr⟩ := h.tmps i x hx; ⟨y, hy, hr.step (le_upd (h.base.sim.fresh _ (Nat.le_refl _))) (fun z hz ho => g.block _ (h.lt hz ho)) hx⟩
  mine := by
    intro i x hx ho
    refine ⟨(h.mine i x hx ho).1, fun r row L h1 h2 => ?_⟩
    have hlt := h.lt hx ho
    rcases hnew_old h1 with ⟨h1, l1⟩ | ⟨rfl, rfl⟩
    · unfold upd at h2
      rw [if_neg (by omega)] at h2
      exact (h.mine i x hx ho).2 r row L h1 h2
    · unfold upd at h2
      rw [if_pos rfl] at h2
      injection h2 with h2
      rw [← h2]
      show b ≠ β i
      omega
  apart := h.apart
  defers := h.defers
  len := h.len

theorem at_pushT {w : World} {μ : Mu} {cells : List V} {cs : Array Value} (ty : TypeId) (h : cells.length ≤ cs.size) (hr : ∀ (i : Nat) x, cells[i]? = some x → ∃ y, cs[i]? = some y ∧ Rel μ x y ∧ y.oneCell' = true) :
    At { w with heap := w.heap.push (.cells cs ty) } w.heap.size 0 cs.size μ cells true (ty + 1) :=
  ⟨cs, ty, (0, 0), push_eq w _, rfl, by omega, fun i x hx => by simpa using hr i x hx, fun _ => rfl, fun _ => rfl⟩

theorem at_push {w : World} {μ : Mu} {cells : List V} {cs : Array Value} (ty : TypeId) (h : cells.length ≤ cs.size) (hr : ∀ (i : Nat) x, cells[i]? = some x → ∃ y, cs[i]? = some y ∧ Rel μ x y ∧ y.oneCell' = true) :
    At { w with heap := w.heap.push (.cells cs ty) } w.heap.size 0 cs.size μ cells true := (at_pushT ty h hr).any
theorem RelC.cell {μ : Mu} {xs : List V} {ys : List Value} (h : RelC μ xs ys) : ∀ (i : Nat) x, xs[i]? = some x → ∃ y, ys[i]? = some y ∧ Rel μ x y ∧ y.oneCell' = true := by
  intro i x hx
  have hi : i < ys.length := by rw [← h.1]; exact (List.getElem?_eq_some_iff.1 hx).1
  exact ⟨ys[i], List.getElem?_eq_getElem hi, h.2 i x _ hx (List.getElem?_eq_getElem hi)⟩

theorem killRefs_get {d : Nat} {t : List T} {i : Nat} {x : T} (h : (killRefs d t)[i]? = some x) : ∃ z, t[i]? = some z ∧ (x = .bot ∨ (x = z ∧ ∀ o, x ≠ .ref d o)) := by
  unfold killRefs at h
  rw [List.getElem?_map] at h
  cases hz : t[i]? with
  | none => rw [hz] at h; cases h
  | some z =>
    rw [hz] at h
    simp at h
    refine ⟨z, rfl, ?_⟩
    cases z with
    | ref e o =>
      simp only at h
      split at h
      · exact .inl h.symm
      · rename_i hne; refine .inr ⟨h.symm, fun o' he => ?_⟩
        rw [← h] at he; injection he with he _; exact hne he
    | _ => exact .inr ⟨h.symm, fun o' he => by rw [← h] at he; cases he⟩

/-- A private block is made. -/
theorem St.newOwn {C : Ctx} {μ : Mu} {β : Nat → Nat} {t : List T} {σ : Heap} {a : Act} {w w' : World} (h : St C μ β t σ a w) (g : Grew w w') (d : Nat) (x : T) (y : Value) (b : Nat) (hb : w.heap.size ≤ b) (hx : x.own = true)
    (hat : ∀ β' : Nat → Nat, β' d = b → TRel μ β' [] d w' x y) :
    St C μ (fun k => if k = d then b else β k) ((killRefs d t).set d x) σ (a.put (some d) y) w' := by
  have hget : ∀ (i : Nat) z, ((killRefs d t).set d x)[i]? = some z → (i = d ∧ z = x) ∨ (i ≠ d ∧ (killRefs d t)[i]? = some z) := by
    intro i z hz
    simp only [List.getElem?_set] at hz
    split at hz
    · split at hz
      · injection hz with hz; exact .inl ⟨by omega, hz.symm⟩
      · cases hz
    · exact .inr ⟨by omega, hz⟩
  have hlen : (killRefs d t).length = t.length := by simp [killRefs]
  have hold : ∀ (i : Nat) z, i ≠ d → (killRefs d t)[i]? = some z → z.own = true → t[i]? = some z := by
    intro i z _ hz ho
    obtain ⟨u, hu, h1⟩ := killRefs_get hz
    rcases h1 with rfl | ⟨rfl, _⟩
    · cases ho
    · exact hu
  have hbne : ∀ (i : Nat) z, t[i]? = some z → z.own = true → β i ≠ b := fun i z hz ho => by
    have := h.lt hz ho
    omega
  have hgrew := h.base.grew g
  constructor
  · exact hgrew
  · simp [Act.put, hlen, h.size]
  · intro i z hz
    rcases hget i z hz with ⟨rfl, rfl⟩ | ⟨hne, hz'⟩
    · have hi : i < a.tmps.size := by
        rw [h.size, ← hlen]
        have := (List.getElem?_eq_some_iff.1 hz).1
        simpa using this
      refine ⟨y, by simp [Act.put, hi], ?_⟩
      have := hat (fun k => if k = i then b else β k) (by simp)
      cases z with
      | box cs => exact this
      | arr cs n => exact this
      | _ => cases hx
    · obtain ⟨u, hu, h1⟩ := killRefs_get hz'
      obtain ⟨y', hy', hr'⟩ := h.tmps i u hu
      refine ⟨y', by simp [Act.put, hy', Ne.symm hne], ?_⟩
      rcases h1 with rfl | ⟨rfl, hnr⟩
      · trivial
      · have hr2 := hr'.step (Le.refl μ) (fun v hv ho => g.block _ (h.lt hv ho)) hu
        cases z with
        | bot => trivial
        | v z => exact hr2
        | box cs => simp only [TRel, if_neg hne]; exact hr2
        | arr cs n => simp only [TRel, if_neg hne]; exact hr2
        | ref e off =>
          intro cs hcs
          have hed : e ≠ d := fun he => hnr off (by rw [he])
          rcases hget e _ hcs with ⟨he, _⟩ | ⟨_, hcs'⟩
          · exact absurd he hed
          · simp only [if_neg hed]
            exact hr' cs (hold e _ hed hcs' rfl)
  · intro i z hz ho
    rcases hget i z hz with ⟨rfl, rfl⟩ | ⟨hne, hz'⟩
    · simp only [if_true]
      refine ⟨Nat.le_trans h.base.keep.size hb, fun r row L h1 h2 => ?_⟩
      have := h.base.sim.block_lt h1 h2
      omega
    · simp only [if_neg hne]
      exact h.mine i z (hold i z hne hz' ho) ho
  · intro i j z z' hz hz' ho ho' hij
    rcases hget i z hz with ⟨rfl, rfl⟩ | ⟨hne, hz1⟩ <;> rcases hget j z' hz' with ⟨rfl, rfl⟩ | ⟨hne', hz2⟩
    · exact absurd rfl hij
    · simp only [if_true, if_neg hne']
      exact Ne.symm (hbne j z' (hold j z' hne' hz2 ho') ho')
    · simp only [if_true, if_neg hne]
      exact hbne i z (hold i z hne hz1 ho) ho
    · simp only [if_neg hne, if_neg hne']
      exact h.apart i j z z' (hold i z hne hz1 ho) (hold j z' hne' hz2 ho') ho ho' hij
  · simp [Act.put, h.defers]
  · simp [hlen, h.len]
end Go.HM
