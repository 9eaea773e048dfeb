/- New blocks that were laid before they are told of: what an operation that lays one does, and a block that lies there becomes a row or a private block. -/
import Derived.Test.YtoakhfnojbmhgaaGreatHMRun0
set_option linter.unusedSimpArgs false
set_option linter.unusedVariables false
namespace Go.HM
section
variable {C : Ctx} {μ : Mu} {β : Nat → Nat} {t : List T} {σ : Heap} {a : Act} {w : World}
def addR (σ : Heap) (ty esz : Nat) (cells : List V) : Heap := σ ++ [some ⟨cells, esz, false, ty⟩]
theorem Sim.addT (h : Sim μ σ w) (ty esz size : Nat) (cells : List V) (b : Nat) (hb : ∀ (r : Nat) row L, σ[r]? = some (some row) → μ r = some L → L.block ≠ b)
    (hat : At w b 0 size μ cells true ty) : Sim (upd μ σ.length ⟨b, 0, esz, size⟩) (hnewT σ ty esz cells) w := by
  have hle : Le μ (upd μ σ.length ⟨b, 0, esz, size⟩) := le_upd (h.fresh _ (Nat.le_refl _))
  refine ⟨fun r hr => ?_, fun r row hr => ?_, fun r r' row row' L L' h1 h2 h3 h4 h5 h6 => ?_, fun g hg => let ⟨L, h1, h2⟩ := h.glob g hg; ⟨L, hle _ _ h1, h2⟩, fun g row M hg hr hM => ?_⟩
  · simp [hnewT] at hr
    unfold upd
    rw [if_neg (by omega)]
    exact h.fresh r (by omega)
  · rcases hnewT_old hr with ⟨hr, hlt⟩ | ⟨rfl, rfl⟩
    · obtain ⟨L, k1, k2, k3, k4⟩ := h.live r row hr
      exact ⟨L, hle _ _ k1, k2, k3.mono hle, k4⟩
    · exact ⟨⟨b, 0, esz, size⟩, by unfold upd; rw [if_pos rfl], rfl, hat.mono hle, fun _ => rfl⟩
  · have old : ∀ {r : Nat} {row : Row} {L : Loc}, σ[r]? = some (some row) → r < σ.length → upd μ σ.length ⟨b, 0, esz, size⟩ r = some L → L.block ≠ b := by
      intro r row L hr hlt hL
      unfold upd at hL
      rw [if_neg (by omega)] at hL
      exact hb r row L hr hL
    rcases hnewT_old h1 with ⟨h1, l1⟩ | ⟨rfl, rfl⟩ <;> rcases hnewT_old h2 with ⟨h2, l2⟩ | ⟨rfl, rfl⟩
    · unfold upd at h5 h6
      rw [if_neg (by omega)] at h5 h6
      exact h.apart r r' row row' L L' h1 h2 h3 h4 h5 h6
    · have := old h1 l1 h5
      unfold upd at h6
      rw [if_pos rfl] at h6
      injection h6 with h6
      rw [← h6]
      exact this
    · have := old h2 l2 h6
      unfold upd at h5
      rw [if_pos rfl] at h5
      injection h5 with h5
      rw [← h5]
      exact Ne.symm this
    · exact absurd rfl h4
  · rcases hnewT_old hr with ⟨hr, hlt⟩ | ⟨rfl, _⟩
    · unfold upd at hM
      rw [if_neg (by omega)] at hM
      exact h.exact g row M hg hr hM
    · obtain ⟨N, n1, _⟩ := h.glob _ hg
      rw [h.fresh _ (Nat.le_refl _)] at n1
      cases n1
theorem Base.addT (h : Base C μ σ w) (ty esz size : Nat) (cells : List V) (b : Nat) (hlow : C.w.heap.size ≤ b) (hb : ∀ (r : Nat) row L, σ[r]? = some (some row) → μ r = some L → L.block ≠ b)
    (hat : At w b 0 size μ cells true ty) : Base C (upd μ σ.length ⟨b, 0, esz, size⟩) (hnewT σ ty esz cells) w where
  sim := h.sim.addT ty esz size cells b hb hat
  keep := h.keep
  le := h.le.trans (le_upd (h.sim.fresh _ (Nat.le_refl _)))
  okb := by
    intro r row L h1 h2
    rcases hnewT_old h1 with ⟨h1, l1⟩ | ⟨rfl, rfl⟩
    · unfold upd at h2
      rw [if_neg (by omega)] at h2
      exact h.okb r row L h1 h2
    · unfold upd at h2
      rw [if_pos rfl] at h2
      injection h2 with h2
      rw [← h2]
      exact .inr (.inl hlow)
theorem St.addRow (h : St C μ β t σ a w) (ty esz size : Nat) (cells : List V) (b : Nat) (hlow : C.w.heap.size ≤ b) (hb : ∀ (r : Nat) row L, σ[r]? = some (some row) → μ r = some L → L.block ≠ b)
    (hown : ∀ (i : Nat) x, t[i]? = some x → x.own = true → β i ≠ b) (hat : At w b 0 size μ cells true ty) : St C (upd μ σ.length ⟨b, 0, esz, size⟩) β t (hnewT σ ty esz cells) a w where
  base := h.base.addT ty esz size cells b hlow hb hat
  size := h.size
  tmps := fun i x hx => let ⟨y, hy, hr⟩ := h.tmps i x hx; ⟨y, hy, hr.step (le_upd (h.base.sim.fresh _ (Nat.le_refl _))) (fun z hz ho => rfl) hx⟩
  mine := by
    intro i x hx ho
    refine ⟨(h.mine i x hx ho).1, fun r row L h1 h2 => ?_⟩
    rcases hnewT_old h1 with ⟨h1, l1⟩ | ⟨rfl, rfl⟩
    · unfold upd at h2
      rw [if_neg (by omega)] at h2
      exact (h.mine i x hx ho).2 r row L h1 h2
    · unfold upd at h2
      rw [if_pos rfl] at h2
      injection h2 with h2
      rw [← h2]
      exact Ne.symm (hown i x hx ho)
  apart := h.apart
  defers := h.defers
  len := h.len
/-- A block that lies there is told of as the private block of a temporary that holds its address. -/
theorem St.addOwn (h : St C μ β t σ a w) (d : Nat) (x : T) (y : Value) (b : Nat) (hd : a.tmps[d]? = some y) (hlow : C.w.heap.size ≤ b) (hrow : ∀ (r : Nat) row L, σ[r]? = some (some row) → μ r = some L → L.block ≠ b)
    (hown : ∀ (i : Nat) x, t[i]? = some x → x.own = true → β i ≠ b) (hx : x.own = true) (hat : ∀ β' : Nat → Nat, β' d = b → TRel μ β' [] d w x y) :
    St C μ (fun k => if k = d then b else β k) ((killRefs d t).set d x) σ a w := by
  have hget : ∀ (i : Nat) z, ((killRefs d t).set d x)[i]? = some z → (i = d ∧ z = x) ∨ (i ≠ d ∧ (killRefs d t)[i]? = some z) := by
    intro i z hz
    simp only [List.getElem?_set] at hz
    split at hz
    · split at hz
      · injection hz with hz; exact .inl ⟨by omega, hz.symm⟩
      · cases hz
    · exact .inr ⟨by omega, hz⟩
  have hlen : (killRefs d t).length = t.length := by simp [killRefs]
  have hold : ∀ (i : Nat) z, i ≠ d → (killRefs d t)[i]? = some z → z.own = true → t[i]? = some z := by
    intro i z _ hz ho
    obtain ⟨u, hu, h1⟩ := killRefs_get hz
    rcases h1 with rfl | ⟨rfl, _⟩
    · cases ho
    · exact hu
  constructor
  · exact h.base
  · simp [hlen, h.size]
  · intro i z hz
    rcases hget i z hz with ⟨rfl, rfl⟩ | ⟨hne, hz'⟩
    · refine ⟨y, hd, ?_⟩
      have := hat (fun k => if k = i then b else β k) (by simp)
      cases z with
      | box cs => exact this
      | arr cs n => exact this
      | _ => cases hx
    · obtain ⟨u, hu, h1⟩ := killRefs_get hz'
      obtain ⟨y', hy', hr'⟩ := h.tmps i u hu
      refine ⟨y', hy', ?_⟩
      rcases h1 with rfl | ⟨rfl, hnr⟩
      · trivial
      · cases z with
        | bot => trivial
        | v z => exact hr'
        | box cs => simp only [TRel, if_neg hne]; exact hr'
        | arr cs n => simp only [TRel, if_neg hne]; exact hr'
        | ref e off =>
          intro cs hcs
          have hed : e ≠ d := fun he => hnr off (by rw [he])
          rcases hget e _ hcs with ⟨he, _⟩ | ⟨_, hcs'⟩
          · exact absurd he hed
          · simp only [if_neg hed]
            exact hr' cs (hold e _ hed hcs' rfl)
  · intro i z hz ho
    rcases hget i z hz with ⟨rfl, rfl⟩ | ⟨hne, hz'⟩
    · simp only [if_true]
      exact ⟨hlow, hrow⟩
    · simp only [if_neg hne]
      exact h.mine i z (hold i z hne hz' ho) ho
  · intro i j z z' hz hz' ho ho' hij
    rcases hget i z hz with ⟨rfl, rfl⟩ | ⟨hne, hz1⟩ <;> rcases hget j z' hz' with ⟨rfl, rfl⟩ | ⟨hne', hz2⟩
    · exact absurd rfl hij
    · simp only [if_true, if_neg hne']
      exact Ne.symm (hown j z' (hold j z' hne' hz2 ho') ho')
    · simp only [if_true, if_neg hne]
      exact hown i z (hold i z hne hz1 ho) ho
    · simp only [if_neg hne, if_neg hne']
      exact h.apart i j z z' (hold i z hne hz1 ho) (hold j z' hne' hz2 ho') ho ho' hij
  · exact h.defers
  · simp [hlen, h.len]
end
/-- The value that an operation that lays a new block yields: an address, or a slice of it all. -/
def mkV (kd : Option Nat) (b : Nat) : Value := match kd with
  | none => .pointer (some ⟨b, 0, none⟩)
  | some n => .slice (some ⟨b, 0, none⟩) n n
theorem mkV_inj {k k' : Option Nat} {b : Nat} (h : mkV k b = mkV k' b) : k = k' := by
  cases k <;> cases k' <;> simp [mkV] at h <;> simp [h]
def ownOf (kd : Option Nat) (xs : List V) : T := match kd with
  | none => .box xs
  | some n => .arr xs n
section
variable {α : Type} {E : Env} {o : Oper} {t : List T} {σ : Heap} {r : α} {C : Ctx} {μ : Mu} {β : Nat → Nat} {a : Act} {w : World}
/-- What an operation that lays a new block does, in whatever world; and what the small machine makes of it. -/
def Lays0 (E : Env) (o : Oper) (a : Act) (os : Array Value) (ty : TypeId) (kd : Option Nat) : Prop :=
  ∀ w', (execOp a.eval o).run E.P w' = .ok (.value (mkV kd w'.heap.size)) { w' with heap := w'.heap.push (.cells os ty) }
def Parts (E : Env) (o : Oper) (t : List T) (σ : Heap) (μ : Mu) (a : Act) (K : List T → Heap → Option α) (r : α) (xs : List V) (os : Array Value) (ty : TypeId) (kd : Option Nat) (d : Nat) : Prop :=
  o.dst = some d ∧ RelC μ xs os.toList ∧ Lays0 E o a os ty kd ∧
    (K (putT o.dst (ownOf kd xs) (killRefs d t)) σ = some r ∨
     ∃ esz tw x, (tw = 0 ∨ tw = ty + 1) ∧ x.isTuple = false ∧ K (putT o.dst (.v x) t) (hnewT σ tw esz xs) = some r ∧ ∀ b, Rel (upd μ σ.length ⟨b, 0, esz, os.size⟩) x (mkV kd b))
theorem parts_alloc {K : List T → Heap → Option α} (st : St C μ β t σ a w) {d : Nat} (hd : o.dst = some d) {ty : TypeId} (ho : o.op = .alloc ty) (h : hop E o t σ K = some r) : ∃ xs os ty kd d, Parts E o t σ μ a K r xs os ty kd d := by
  simp only [hop, ho] at h
  obtain ⟨z, hz, h0⟩ := Option.bind_eq_some_iff.1 h
  obtain ⟨i, y, hi, hzr, hzv⟩ := zeros_some hz
  have hc : RelC μ z.cells y.cells.toList := ofZero hzv
  have run : Lays0 E o a y.cells ty none := fun w' => by
    simp [execOp, ho, Instr.alloc, zeroValue, typeInfo, hi, hzr, newVar, newRow, mkV]
  refine ⟨z.cells, y.cells, ty, none, d, hd, hc, run, ?_⟩
  split at h0
  · rw [hd] at h0
    exact .inl (by rw [hd]; exact h0)
  · refine .inr ?_
    cases ht : E.tyd ty with
    | true =>
      rw [ht, cond_true] at h0
      exact ⟨_, ty + 1, _, .inr rfl, rfl, h0, fun b => rel_ptr_new⟩
    | false =>
      rw [ht, cond_false] at h0
      exact ⟨_, 0, _, .inl rfl, rfl, h0, fun b => rel_ptr_new⟩
theorem parts_box {K : List T → Heap → Option α} (st : St C μ β t σ a w) {d : Nat} (hd : o.dst = some d) {ty : TypeId} {x : Operand} (ho : o.op = .box ty x) (h : hop E o t σ K = some r) : ∃ xs os ty kd d, Parts E o t σ μ a K r xs os ty kd d := by
  simp only [hop, ho] at h
  obtain ⟨z, h0, rz⟩ := evV_some st h
  obtain ⟨ht, h1⟩ := cellsT_some h0
  have hc : RelC μ z.cells (a.eval x).cells.toList := rz.cells ht
  have run : Lays0 E o a (a.eval x).cells ty none := fun w' => by
    simp [execOp, ho, Instr.box, newVar, newRow, mkV]
  refine ⟨z.cells, _, ty, none, d, hd, hc, run, ?_⟩
  split at h1
  · rw [hd] at h1
    exact .inl (by rw [hd]; exact h1)
  · exact .inr ⟨_, 0, _, .inl rfl, rfl, h1, fun b => rel_ptr_new⟩
theorem fillV_length (pl : Nat → Option (Nat × Nat)) : ∀ (xs : List (Nat × List V)) (c out : List V), fillV pl c xs = some out → out.length = c.length
  | [], c, out, hh => by simp [fillV] at hh; rw [hh]
  | (i, v) :: xs, c, out, hh => by
    rw [fillV] at hh
    split at hh
    · split at hh
      · rw [fillV_length pl xs _ _ hh, setCellsL_length]
      · cases hh
    · cases hh
theorem parts_buildSlice {K : List T → Heap → Option α} (st : St C μ β t σ a w) {d : Nat} (hd : o.dst = some d) {ty : TypeId} {n : Nat} {parts : Array (Nat × Operand)} (ho : o.op = .buildSlice ty n parts) (h : hop E o t σ K = some r) : ∃ xs os ty kd d, Parts E o t σ μ a K r xs os ty kd d := by
  simp only [hop, ho] at h
  obtain ⟨e, he, h⟩ := Option.bind_eq_some_iff.1 h
  obtain ⟨sz, hsz, h⟩ := Option.bind_eq_some_iff.1 h
  obtain ⟨z, hz, h⟩ := Option.bind_eq_some_iff.1 h
  have hu := elemT_some he
  obtain ⟨ii, hi, hn⟩ := esize_some hsz
  obtain ⟨i2, y, hi2, hzr, hzv⟩ := zeros_some hz
  rw [hi] at hi2
  injection hi2 with hi2
  subst hi2
  split at h
  · cases h
  · rename_i hb
    have hb1 : ¬ n * sz > 2 ^ 24 := fun hc => hb (.inl hc)
    have hb2 : z.cells.length = sz := by
      rcases Nat.decEq z.cells.length sz with h1 | h1
      · exact absurd (.inr (.inl h1)) hb
      · exact h1
    have hb3 : sz ≠ 0 := fun hc => hb (.inr (.inr hc))
    obtain ⟨ps, h1, hlen, hps⟩ := evParts_some st h
    obtain ⟨cs, hcs, h3⟩ := Option.bind_eq_some_iff.1 h1
    have hvals : ∀ (k n : Nat) v (m : Nat) q, ps[k]? = some (n, v) → ((parts.map fun (i, x) => (i, a.eval x)).toList)[k]? = some (m, q) → n = m ∧ RelC μ v q.cells.toList := by
      intro k n v m q h4 h5
      simp only [Array.toList_map, List.getElem?_map, Option.map_eq_some_iff] at h5
      obtain ⟨⟨m', q'⟩, h6, h7⟩ := h5
      injection h7 with h7 h8
      subst h7 h8
      exact hps k n v m' q' h4 h6
    have hzc := ofZero (μ := μ) hzv
    have hysz : y.cells.size = sz := by have := hzc.1; simp at this; omega
    have hrow : RelC μ (List.replicate n z.cells).flatten ((Array.range (n * y.cells.size)).map (y.cells[· % y.cells.size]!)).toList := by
      rw [range_cells _ _ (by omega)]
      exact relC_replicate hzc n
    obtain ⟨os, h4, h5⟩ := fill_rel (μ := μ) (place' := fun j => some (j * sz, sz)) ps _ _ _ cs (by simp [hlen]) hvals (fun j p hp => hp) hrow hcs
    have hcells : ((Array.range (n * sz)).map ((if n * sz = 0 then #[] else y.cells)[· % (if n * sz = 0 then #[] else y.cells).size]!)) = ((Array.range (n * y.cells.size)).map (y.cells[· % y.cells.size]!)) := by
      rw [hysz]
      split
      · rename_i h0; rw [h0]; simp
      · rw [hysz]
    have hfin : Lays0 E o a os e (some n) := fun w' => by
      have hgo := run_buildSlice (P := E.P) (w := w') (parts := parts.map fun (i, x) => (i, a.eval x)) (n := n) (os := os) hu hi hzr (by rw [hn]; exact hb1) (by rw [hn, hcells]; exact h4)
      simp only [execOp, ho, Sem.run_bind, hgo, Result.andThen_ok]
      rfl
    have hos : os.size = n * sz := by
      have h6 := h5.1
      simp at h6
      rw [← h6, fillV_length _ _ _ _ hcs]
      simp [hb2]
    refine ⟨cs, os, e, some n, d, hd, h5, hfin, ?_⟩
    split at h3
    · rw [hd] at h3
      exact .inl (by rw [hd]; exact h3)
    · exact .inr ⟨sz, 0, _, .inl rfl, rfl, h3, fun b => rel_sl_new (Nat.le_refl _) (by omega) (fun _ => rfl)⟩
theorem alloc_parts {K : List T → Heap → Option α} (st : St C μ β t σ a w) (hal : isAlloc o = true) (h : hop E o t σ K = some r) : ∃ xs os ty kd d, Parts E o t σ μ a K r xs os ty kd d := by
  unfold isAlloc at hal
  simp only [Bool.and_eq_true] at hal
  obtain ⟨⟨_, hd⟩, h3⟩ := hal
  obtain ⟨d, hd⟩ := Option.isSome_iff_exists.1 hd
  cases ho : o.op with
  | alloc ty => exact parts_alloc st hd ho h
  | box ty x => exact parts_box st hd ho h
  | buildSlice ty n ps => exact parts_buildSlice st hd ho h
  | _ => simp [ho] at h3
end
end Go.HM
