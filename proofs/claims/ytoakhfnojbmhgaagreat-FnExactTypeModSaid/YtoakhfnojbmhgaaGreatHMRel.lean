/- How the small machine's values and memory stand to the model's. -/
import Derived.Test.YtoakhfnojbmhgaaGreatHMDefs
import Derived.Deep.AppendSrc
import Derived.Deep.MidRow
set_option linter.unusedSimpArgs false
set_option linter.unusedVariables false
namespace Go.HM

structure Loc where
  block : Nat
  base : Nat
  esz : Nat
  size : Nat

abbrev Mu := Nat → Option Loc

inductive Rel (μ : Mu) : V → Value → Prop where
  | int (k : IntKind) (n : Int) : Rel μ (.int k n) (.int k n)
  | bool (b : Bool) : Rel μ (.bool b) (.bool b)
  | str (s : ByteArray) : Rel μ (.str s) (.string s)
  | ptr {r off : Nat} {L : Loc} : μ r = some L → Rel μ (.ptr r off) (.pointer (some ⟨L.block, L.base + off, none⟩))
  | nilp : Rel μ .nilp (.pointer none)
  | sl {r off len c : Nat} {lim : Bool} {L : Loc} : μ r = some L → len ≤ c → (off = 0 → L.base + c * L.esz ≤ L.size) → (lim = true → c = len) →
      Rel μ (.sl r off len lim) (.slice (some ⟨L.block, L.base + off, none⟩) len c)
  | nils : Rel μ .nils (.slice none 0 0)
  | emp {a : Addr} {c : Nat} : Rel μ .emp (.slice (some a) 0 c)
  | fn {f : FuncId} {cap : List V} {vs : Array Value} : cap.length = vs.size → (∀ (i : Nat) x y, cap[i]? = some x → vs[i]? = some y → Rel μ x y) → Rel μ (.fn f cap) (.func (.func f) #[] vs)
  | nilf : Rel μ .nilf .nilFunc
  | iface {t : TypeId} {v : V} {w : Value} : Rel μ v w → Rel μ (.iface t v) (.iface t w)
  | nili : Rel μ .nili .nilIface
  | agg {cs : List V} {vs : Array Value} : cs.length = vs.size → (∀ (i : Nat) x y, cs[i]? = some x → vs[i]? = some y → Rel μ x y) → (∀ (i : Nat) y, vs[i]? = some y → y.oneCell' = true) → Rel μ (.agg cs) (.agg vs)
  | tuple {cs : List V} {vs : Array Value} : cs.length = vs.size → (∀ (i : Nat) x y, cs[i]? = some x → vs[i]? = some y → Rel μ x y) → Rel μ (.tuple cs) (.tuple vs)

/-- A list of values. -/
def Rels (μ : Mu) (xs : List V) (ys : List Value) : Prop := xs.length = ys.length ∧ ∀ (i : Nat) x y, xs[i]? = some x → ys[i]? = some y → Rel μ x y
/-- A list of cells. -/
def RelC (μ : Mu) (xs : List V) (ys : List Value) : Prop := xs.length = ys.length ∧ ∀ (i : Nat) x y, xs[i]? = some x → ys[i]? = some y → Rel μ x y ∧ y.oneCell' = true

def Le (μ ν : Mu) : Prop := ∀ r L, μ r = some L → ν r = some L
theorem Le.refl (μ : Mu) : Le μ μ := fun _ _ h => h
theorem Le.trans {a b c : Mu} (h : Le a b) (k : Le b c) : Le a c := fun r L x => k r L (h r L x)

theorem Rel.mono {μ ν : Mu} (h : Le μ ν) {x : V} {y : Value} (hr : Rel μ x y) : Rel ν x y := by
  induction hr with
  | int k n => exact .int k n
  | bool b => exact .bool b
  | str s => exact .str s
  | ptr hm => exact .ptr (h _ _ hm)
  | nilp => exact .nilp
  | sl hm h1 h2 h3 => exact .sl (h _ _ hm) h1 h2 h3
  | nils => exact .nils
  | emp => exact .emp
  | fn hl _ ih => exact .fn hl ih
  | nilf => exact .nilf
  | iface _ ih => exact .iface ih
  | nili => exact .nili
  | agg hl _ h1 ih => exact .agg hl ih h1
  | tuple hl _ ih => exact .tuple hl ih
theorem Rels.mono {μ ν : Mu} (h : Le μ ν) {x : List V} {y : List Value} (hr : Rels μ x y) : Rels ν x y := ⟨hr.1, fun i a b ha hb => (hr.2 i a b ha hb).mono h⟩
theorem RelC.mono {μ ν : Mu} (h : Le μ ν) {x : List V} {y : List Value} (hr : RelC μ x y) : RelC ν x y := ⟨hr.1, fun i a b ha hb => ⟨(hr.2 i a b ha hb).1.mono h, (hr.2 i a b ha hb).2⟩⟩

/-- What lies at a place. -/
def At (w : World) (b base size : Nat) (μ : Mu) (cells : List V) (plain : Bool) (ty : Nat := 0) : Prop :=
  ∃ (cs : Array Value) (t : TypeId) (fz : Nat × Nat), w.heap[b]? = some (.cells cs t fz) ∧ cs.size = size ∧ base + cells.length ≤ size ∧
    (∀ (i : Nat) x, cells[i]? = some x → ∃ y, cs[base + i]? = some y ∧ Rel μ x y ∧ y.oneCell' = true) ∧ (plain = true → fz = (0, 0)) ∧ (ty ≠ 0 → t + 1 = ty)

theorem At.mono {w : World} {b base size : Nat} {μ ν : Mu} {cells : List V} {p : Bool} {ty : Nat} (h : At w b base size μ cells p ty) (hl : Le μ ν) : At w b base size ν cells p ty := by
  obtain ⟨cs, t, fz, h1, h2, h3, h4, h5⟩ := h
  exact ⟨cs, t, fz, h1, h2, h3, fun i x hx => let ⟨y, a, b, c⟩ := h4 i x hx; ⟨y, a, b.mono hl, c⟩, h5⟩
theorem At.keep {w w' : World} {b base size : Nat} {μ : Mu} {cells : List V} {p : Bool} {ty : Nat} (h : At w b base size μ cells p ty) (hb : w'.heap[b]? = w.heap[b]?) : At w' b base size μ cells p ty := by
  unfold At; rw [hb]; exact h
theorem At.any {w : World} {b base size : Nat} {μ : Mu} {cells : List V} {p : Bool} {ty : Nat} (h : At w b base size μ cells p ty) : At w b base size μ cells p := by
  obtain ⟨cs, t, fz, h1, h2, h3, h4, h5, h6⟩ := h
  exact ⟨cs, t, fz, h1, h2, h3, h4, h5, fun h => absurd rfl h⟩
theorem At.lt {w : World} {b base size : Nat} {μ : Mu} {cells : List V} {p : Bool} {ty : Nat} (h : At w b base size μ cells p ty) : b < w.heap.size := by
  obtain ⟨cs, t, fz, h1, _⟩ := h
  rcases Nat.lt_or_ge b w.heap.size with hlt | hge
  · exact hlt
  · rw [Array.getElem?_eq_none hge] at h1; cases h1

/-- The memory. -/
structure Sim (μ : Mu) (σ : Heap) (w : World) : Prop where
  fresh : ∀ r, σ.length ≤ r → μ r = none
  live : ∀ (r : Nat) row, σ[r]? = some (some row) → ∃ L, μ r = some L ∧ row.esz = L.esz ∧ At w L.block L.base L.size μ row.cells (!row.ro) row.ty ∧ (row.ro = false → L.base = 0)
  apart : ∀ (r r' : Nat) row row' L L', σ[r]? = some (some row) → σ[r']? = some (some row') → row.ro = false → r ≠ r' → μ r = some L → μ r' = some L' → L.block ≠ L'.block
  glob : ∀ g, g < 64 → ∃ L, μ g = some L ∧ L.block = g ∧ L.base = 0
  exact : ∀ (g : Nat) (row : Row) (L : Loc), g < 64 → σ[g]? = some (some row) → μ g = some L → row.ro = true ∧ row.cells.length = L.size

/-- Where a call began. -/
structure Ctx where
  w : World
  σ : Heap
  μ : Mu
  n : Nat

/-- A block that a row of the beginning lies in (one that may be written, where w is true). -/
def Ctx.img (C : Ctx) (wr : Bool) (b : Nat) : Prop := ∃ (r : Nat) (row : Row) (L : Loc), C.σ[r]? = some (some row) ∧ C.μ r = some L ∧ L.block = b ∧ (wr = true → row.ro = false)
/-- A block that rows may lie in. -/
def Ctx.okb (C : Ctx) (wr : Bool) (b : Nat) : Prop := C.w.heap.size ≤ b ∨ C.img wr b

/-- A row that was there (and no freer than it was), or one whose block may be written. -/
def Ctx.okr (C : Ctx) (r : Nat) (row : Row) (L : Loc) : Prop := (∃ row0, C.σ[r]? = some (some row0) ∧ C.μ r = some L ∧ (row.ro = false → row0.ro = false)) ∨ C.okb true L.block
theorem Ctx.okr_rw {C : Ctx} {r : Nat} {row : Row} {L : Loc} (h : C.okr r row L) (hr : row.ro = false) : C.okb true L.block := by
  rcases h with ⟨row0, h1, h2, h3⟩ | h
  · exact .inr ⟨r, row0, L, h1, h2, rfl, fun _ => h3 hr⟩
  · exact h

/-- What has been kept since the call began. -/
structure Keep (C : Ctx) (w : World) : Prop where
  os : w.os = C.w.os
  tape : w.tape = C.w.tape
  output : w.output = C.w.output
  size : C.w.heap.size ≤ w.heap.size
  block : ∀ b, b < C.w.heap.size → ¬ C.img true b → w.heap[b]? = C.w.heap[b]?

theorem Keep.refl (C : Ctx) : Keep C C.w := ⟨rfl, rfl, rfl, Nat.le_refl _, fun _ _ _ => rfl⟩

structure Base (C : Ctx) (μ : Mu) (σ : Heap) (w : World) : Prop where
  sim : Sim μ σ w
  keep : Keep C w
  le : Le C.μ μ
  okb : ∀ (r : Nat) row L, σ[r]? = some (some row) → μ r = some L → C.okr r row L

/-- What the temporaries hold. -/
def TRel (μ : Mu) (β : Nat → Nat) (t : List T) (i : Nat) (w : World) : T → Value → Prop
  | .bot, _ => True
  | .v x, y => Rel μ x y
  | .box cs, y => y = .pointer (some ⟨β i, 0, none⟩) ∧ At w (β i) 0 cs.length μ cs true
  | .ref e off, y => ∀ cs, t[e]? = some (.box cs) → y = .pointer (some ⟨β e, off, none⟩)
  | .arr cs n, y => y = .slice (some ⟨β i, 0, none⟩) n n ∧ At w (β i) 0 cs.length μ cs true

def T.own : T → Bool
  | .box _ => true
  | .arr _ _ => true
  | _ => false

structure St (C : Ctx) (μ : Mu) (β : Nat → Nat) (t : List T) (σ : Heap) (a : Act) (w : World) : Prop where
  base : Base C μ σ w
  size : a.tmps.size = t.length
  tmps : ∀ (i : Nat) x, t[i]? = some x → ∃ y, a.tmps[i]? = some y ∧ TRel μ β t i w x y
  mine : ∀ (i : Nat) x, t[i]? = some x → x.own = true → C.w.heap.size ≤ β i ∧ ∀ (r : Nat) row L, σ[r]? = some (some row) → μ r = some L → L.block ≠ β i
  apart : ∀ (i j : Nat) x y, t[i]? = some x → t[j]? = some y → x.own = true → y.own = true → i ≠ j → β i ≠ β j
  defers : a.defers = []
  len : t.length = C.n

/-- Knowing less. -/
theorem St.weaken {C : Ctx} {μ : Mu} {β : Nat → Nat} {t t' : List T} {σ : Heap} {a : Act} {w : World} (h : St C μ β t σ a w) (hl : t'.length = t.length)
    (hk : ∀ (i : Nat) x, t'[i]? = some x → x = .bot ∨ t[i]? = some x) : St C μ β t' σ a w where
  base := h.base
  size := by rw [h.size, hl]
  tmps := by
    intro i x hx
    rcases hk i x hx with rfl | hx'
    · have hi : i < t.length := by
        rw [← hl]; exact (List.getElem?_eq_some_iff.1 hx).1
      obtain ⟨y, hy, _⟩ := h.tmps i t[i] (List.getElem?_eq_getElem hi)
      exact ⟨y, hy, trivial⟩
    · obtain ⟨y, hy, hr⟩ := h.tmps i x hx'
      refine ⟨y, hy, ?_⟩
      cases x with
      | ref e off =>
        intro cs hcs
        rcases hk e _ hcs with hb | hb
        · cases hb
        · exact hr cs hb
      | _ => exact hr
  mine := by
    intro i x hx ho
    rcases hk i x hx with rfl | hx'
    · cases ho
    · exact h.mine i x hx' ho
  apart := by
    intro i j x y hx hy hox hoy
    rcases hk i x hx with rfl | hx'
    · cases hox
    rcases hk j y hy with rfl | hy'
    · cases hoy
    exact h.apart i j x y hx' hy' hox hoy
  defers := h.defers
  len := by rw [hl]; exact h.len

/-- A value is put into a temporary that holds nothing private. -/
theorem St.put {C : Ctx} {μ : Mu} {β : Nat → Nat} {t : List T} {σ : Heap} {a : Act} {w : World} (h : St C μ β t σ a w) (dst : Option Nat) (x : T) (y : Value) (hx : x.own = false)
    (hr : TRel μ β t 0 w x y) : St C μ β (putT dst x t) σ (a.put dst y) w := by
  cases dst with
  | none => exact h
  | some d =>
    have hget : ∀ (i : Nat) z, (putT (some d) x t)[i]? = some z → (i = d ∧ z = x) ∨ (i ≠ d ∧ t[i]? = some z) := by
      intro i z hz
      simp only [putT, List.getElem?_set] at hz
      split at hz
      · split at hz
        · injection hz with hz; exact .inl ⟨by omega, hz.symm⟩
        · cases hz
      · exact .inr ⟨by omega, hz⟩
    have hown : ∀ (i : Nat) z, (putT (some d) x t)[i]? = some z → z.own = true → i ≠ d ∧ t[i]? = some z := by
      intro i z hz ho
      rcases hget i z hz with ⟨_, rfl⟩ | h'
      · rw [hx] at ho; cases ho
      · exact h'
    have hbox : ∀ (e : Nat) cs, (putT (some d) x t)[e]? = some (.box cs) → t[e]? = some (.box cs) := fun e cs hz => (hown e _ hz rfl).2
    constructor
    · exact h.base
    · simp [Act.put, putT, h.size]
    · intro i z hz
      rcases hget i z hz with ⟨rfl, rfl⟩ | ⟨hne, hz'⟩
      · have hi : i < a.tmps.size := by
          rw [h.size]
          have := (List.getElem?_eq_some_iff.1 hz).1
          simpa [putT] using this
        refine ⟨y, by simp [Act.put, hi], ?_⟩
        cases z with
        | bot => trivial
        | v z => exact hr
        | ref e off => exact fun cs hcs => hr cs (hbox e cs hcs)
        | box cs => cases hx
        | arr cs n => cases hx
      · obtain ⟨y', hy', hr'⟩ := h.tmps i z hz'
        refine ⟨y', by simp [Act.put, hy', Ne.symm hne], ?_⟩
        cases z with
        | ref e off => exact fun cs hcs => hr' cs (hbox e cs hcs)
        | _ => exact hr'
    · intro i z hz ho
      exact h.mine i z (hown i z hz ho).2 ho
    · intro i j z z' hz hz' ho ho'
      exact h.apart i j z z' (hown i z hz ho).2 (hown j z' hz' ho').2 ho ho'
    · simp [Act.put, h.defers]
    · simpa [putT] using h.len

theorem RelC.agg {μ : Mu} {xs : List V} {ys : Array Value} (h : RelC μ xs ys.toList) : Rel μ (.agg xs) (.agg ys) := by
  obtain ⟨h1, h2⟩ := h
  refine .agg (by simpa using h1) (fun i x y hx hy => (h2 i x y hx (by simpa using hy)).1) (fun i y hy => ?_)
  have hi : i < xs.length := by
    rw [h1]
    have := (Array.getElem?_eq_some_iff.1 hy).1
    simpa using this
  exact (h2 i xs[i] y (List.getElem?_eq_getElem hi) (by simpa using hy)).2

theorem ofCell_rel {μ : Mu} {y : Value} {x : V} (h : ofCell y = some x) : Rel μ x y ∧ y.oneCell' = true := by
  unfold ofCell at h
  split at h <;> first
    | (injection h with h; subst h; exact ⟨by constructor, rfl⟩)
    | cases h
theorem ofCells_rel {μ : Mu} : ∀ {ys : List Value} {xs : List V}, ofCells ys = some xs → RelC μ xs ys
  | [], xs, h => by simp [ofCells] at h; subst h; exact ⟨rfl, fun i x y hx => by simp at hx⟩
  | y :: ys, xs, h => by
    simp only [ofCells, Option.bind_eq_some_iff] at h
    obtain ⟨x, hx, l, hl, he⟩ := h
    injection he with he
    subst he
    obtain ⟨h1, h2⟩ := ofCells_rel (μ := μ) hl
    refine ⟨by simp [h1], fun i a b ha hb => ?_⟩
    cases i with
    | zero => simp at ha hb; subst ha hb; exact ofCell_rel hx
    | succ i => exact h2 i a b (by simpa using ha) (by simpa using hb)
theorem ofValue_rel {μ : Mu} {y : Value} {x : V} (h : ofValue y = some x) : Rel μ x y := by
  unfold ofValue at h
  split at h
  · rename_i cs
    obtain ⟨l, hl, he⟩ := Option.bind_eq_some_iff.1 h
    injection he with he
    subst he
    obtain ⟨h1, h2⟩ := ofCells_rel (μ := μ) hl
    exact RelC.agg ⟨h1, h2⟩
  · exact (ofCell_rel h).1

/-- The cells of a value. -/
theorem Rel.cells {μ : Mu} {x : V} {y : Value} (h : Rel μ x y) (ht : x.isTuple = false) : RelC μ x.cells y.cells.toList := by
  have h0 := h
  cases h with
  | agg hl hc h1 => exact ⟨by simpa [V.cells, Value.cells] using hl, fun i a b ha hb => ⟨hc i a b ha (by simpa [Value.cells] using hb), h1 i b (by simpa [Value.cells] using hb)⟩⟩
  | tuple => cases ht
  | _ =>
    refine ⟨rfl, fun i a b ha hb => ?_⟩
    cases i with
    | zero =>
      simp [V.cells, Value.cells] at ha hb
      subst ha hb
      exact ⟨h0, rfl⟩
    | succ i => simp [V.cells] at ha

/-- What an operand is. -/
theorem St.ev {C : Ctx} {μ : Mu} {β : Nat → Nat} {t : List T} {σ : Heap} {a : Act} {w : World} (h : St C μ β t σ a w) (o : Operand) :
    (∃ i cs n, ev t o = .arr cs n ∧ t[i]? = some (.arr cs n) ∧ a.eval o = .slice (some ⟨β i, 0, none⟩) n n ∧ At w (β i) 0 cs.length μ cs true) ∨ ((∀ cs, ev t o ≠ .box cs) ∧ (ev t o).own = false ∧ TRel μ β t 0 w (ev t o) (a.eval o)) := by
  cases o with
  | tmp i =>
    simp only [HM.ev]
    cases hi : t[i]? with
    | none => exact .inr ⟨fun cs => (by simp), rfl, trivial⟩
    | some x =>
      obtain ⟨y, hy, hr⟩ := h.tmps i x hi
      have he : a.eval (.tmp i) = y := by simp [Act.eval, Array.getD_eq_getD_getElem?, hy]
      cases x with
      | box cs =>
        refine .inr ⟨fun cs => (by simp), rfl, fun cs' hcs' => ?_⟩
        rw [he]
        exact hr.1
      | arr cs n => exact .inl ⟨i, cs, n, rfl, hi, by rw [he]; exact hr.1, hr.2⟩
      | bot => exact .inr ⟨fun cs => (by simp), rfl, trivial⟩
      | v x => exact .inr ⟨fun cs => (by simp), rfl, by rw [he]; exact hr⟩
      | ref e off => exact .inr ⟨fun cs => (by simp), rfl, by rw [he]; exact hr⟩
  | const c =>
    simp only [HM.ev]
    cases hc : ofValue c with
    | none => exact .inr ⟨fun cs => (by simp), rfl, trivial⟩
    | some x => exact .inr ⟨fun cs => (by simp), rfl, ofValue_rel hc⟩
  | func f => exact .inr ⟨fun cs => (by simp [HM.ev]), rfl, .fn rfl (fun i x y hx => by simp at hx)⟩
  | global g =>
    simp only [HM.ev]
    split
    · rename_i hg
      obtain ⟨L, h1, h2, h3⟩ := h.base.sim.glob g hg
      refine .inr ⟨fun cs => (by simp), rfl, ?_⟩
      have := Rel.ptr (off := 0) h1
      rw [h2, h3] at this
      exact this
    · exact .inr ⟨fun cs => (by simp), rfl, trivial⟩

theorem evV_some {α : Type} {C : Ctx} {μ : Mu} {β : Nat → Nat} {t : List T} {σ : Heap} {a : Act} {w : World} (h : St C μ β t σ a w) {o : Operand} {K : V → Option α} {r : α} (hr : evV t o K = some r) :
    ∃ x, K x = some r ∧ Rel μ x (a.eval o) := by
  unfold evV at hr
  split at hr
  · rename_i x hx
    rcases h.ev o with ⟨i, cs, n, he, _⟩ | ⟨_, _, hT⟩
    · rw [he] at hx; cases hx
    · rw [hx] at hT; exact ⟨x, hr, hT⟩
  · cases hr

theorem evs_some {α : Type} {C : Ctx} {μ : Mu} {β : Nat → Nat} {t : List T} {σ : Heap} {a : Act} {w : World} (h : St C μ β t σ a w) : ∀ {os : List Operand} {K : List V → Option α} {r : α}, evs t os K = some r →
    ∃ xs, K xs = some r ∧ Rels μ xs (os.map a.eval)
  | [], K, r, hr => ⟨[], hr, rfl, fun i x y hx => by simp at hx⟩
  | o :: os, K, r, hr => by
    obtain ⟨x, hx, hrel⟩ := evV_some h hr
    obtain ⟨xs, hxs, h1, h2⟩ := evs_some h hx
    refine ⟨x :: xs, hxs, by simpa using h1, fun i u v hu hv => ?_⟩
    cases i with
    | zero => simp at hu hv; subst hu hv; exact hrel
    | succ i => exact h2 i u v (by simpa using hu) (by simpa using hv)
end Go.HM
