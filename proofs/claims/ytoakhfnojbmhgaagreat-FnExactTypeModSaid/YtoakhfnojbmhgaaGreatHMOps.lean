/- Each operation of the small machine is one of the model's. -/
import Derived.Test.YtoakhfnojbmhgaaGreatHMStore
set_option linter.unusedSimpArgs false
set_option linter.unusedVariables false
namespace Go.HM

def Post (C : Ctx) (v : V) (σ' : Heap) : Ending → World → Prop
  | .returned y, w' => ∃ μ', Base C μ' σ' w' ∧ Rel μ' v y
  | _, _ => False

structure EnvOk (E : Env) : Prop where
  call : ∀ f args σ v σ', E.call f args σ = some (v, σ') → ∀ μ w (vs : Array Value), Sim μ σ w → Rels μ args vs.toList →
    (callFunc f vs).run E.P w = .ok (.enter f vs) w ∧ Calls E.P f vs w (Post ⟨w, σ, μ, 0⟩ v σ')

section
variable {P : Program} {o : Oper} {a : Act} {w w' : World} {next : Act → World → Prop} {Q : Exit → Act → World → Prop}
theorem wp_value {y : Value} (h : (execOp a.eval o).run P w = .ok (.value y) w') (hn : next (a.put o.dst y) w') : o.wp P a w next Q := by
  unfold Oper.wp; rw [h]; exact hn
theorem wp_skip' (h : (execOp a.eval o).run P w = .ok .skip w') (hn : next (a.put o.dst undef) w') : o.wp P a w next Q := by
  unfold Oper.wp; rw [h]; exact hn
end

theorem castInt_some {α : Type} {k : IntKind} {c : V} {K : Int → Option α} {r : α} (h : castInt k c K = some r) : ∃ n, c = .int k n ∧ K n = some r := by
  unfold castInt at h
  split at h
  · split at h
    · subst_vars; exact ⟨_, rfl, h⟩
    · cases h
  · cases h
theorem castIdx_some {α : Type} {c : V} {K : Int → Option α} {r : α} (h : castIdx c K = some r) : ∃ k n, c = .int k n ∧ K n = some r := by
  unfold castIdx at h
  split at h
  · exact ⟨_, _, rfl, h⟩
  · cases h
theorem castBool_some {α : Type} {c : V} {K : Bool → Option α} {r : α} (h : castBool c K = some r) : ∃ b, c = .bool b ∧ K b = some r := by
  unfold castBool at h
  split at h
  · exact ⟨_, rfl, h⟩
  · cases h
theorem castStr_some {α : Type} {c : V} {K : ByteArray → Option α} {r : α} (h : castStr c K = some r) : ∃ b, c = .str b ∧ K b = some r := by
  unfold castStr at h
  split at h
  · exact ⟨_, rfl, h⟩
  · cases h
theorem castPtr_some {α : Type} {c : V} {K : Nat → Nat → Option α} {r : α} (h : castPtr c K = some r) : ∃ b o, c = .ptr b o ∧ K b o = some r := by
  unfold castPtr at h
  split at h
  · exact ⟨_, _, rfl, h⟩
  · cases h
theorem castFn_some {α : Type} {c : V} {K : FuncId → List V → Option α} {r : α} (h : castFn c K = some r) : ∃ b o, c = .fn b o ∧ K b o = some r := by
  unfold castFn at h
  split at h
  · exact ⟨_, _, rfl, h⟩
  · cases h
theorem cellsT_some {α : Type} {P : Program} {ty : TypeId} {v : V} {K : List V → Option α} {r : α} (h : cellsT P ty v K = some r) : v.isTuple = false ∧ K v.cells = some r := by
  obtain ⟨ag, _, h⟩ := Option.bind_eq_some_iff.1 h
  cases ag with
  | true =>
    rw [cond_true] at h
    cases v <;> first | exact ⟨rfl, h⟩ | cases h
  | false =>
    rw [cond_false] at h
    cases v <;> first | exact ⟨rfl, h⟩ | cases h

theorem castAgg_some {α : Type} {c : V} {K : List V → Option α} {r : α} (h : castAgg c K = some r) : ∃ b, c = .agg b ∧ K b = some r := by
  unfold castAgg at h
  split at h
  · exact ⟨_, rfl, h⟩
  · cases h
theorem castTuple_some {α : Type} {c : V} {K : List V → Option α} {r : α} (h : castTuple c K = some r) : ∃ b, c = .tuple b ∧ K b = some r := by
  unfold castTuple at h
  split at h
  · exact ⟨_, rfl, h⟩
  · cases h
theorem uncons_some {α : Type} {cs : List V} {K : V → List V → Option α} {r : α} (h : uncons cs K = some r) : ∃ c l, cs = c :: l ∧ K c l = some r := by
  unfold uncons at h
  split at h
  · exact ⟨_, _, rfl, h⟩
  · cases h
theorem isNil_some {α : Type} {cs : List V} {K : Option α} {r : α} (h : isNil cs K = some r) : cs = [] ∧ K = some r := by
  unfold isNil at h
  split at h
  · exact ⟨rfl, h⟩
  · cases h
theorem castLeaf_some {α : Type} {k : LK} {c : V} {K : V → Option α} {r : α} (h : castLeaf k c K = some r) : K c = some r := by
  unfold castLeaf at h
  split at h
  · obtain ⟨n, rfl, h1⟩ := castInt_some h; exact h1
  · obtain ⟨n, rfl, h1⟩ := castBool_some h; exact h1
  · obtain ⟨n, rfl, h1⟩ := castStr_some h; exact h1
  · exact h
theorem castCells_some {α : Type} : ∀ {ks : List LK} {cs : List V} {K : List V → Option α} {r : α}, castCells ks cs K = some r → K cs = some r
  | [], cs, K, r, h => by
    obtain ⟨rfl, h1⟩ := isNil_some h; exact h1
  | k :: ks, cs, K, r, h => by
    obtain ⟨c, l, rfl, h1⟩ := uncons_some h
    exact castCells_some (K := fun cs => K (c :: cs)) (castLeaf_some h1)
theorem castOne_some {α : Type} {P : Program} {t : TypeId} {v : V} {K : V → Option α} {r : α} (h : castOne P t v K = some r) : K v = some r := by
  unfold castOne at h
  split at h
  · obtain ⟨cs, rfl, h1⟩ := castAgg_some h
    exact castCells_some (K := fun cs => K (.agg cs)) h1
  · split at h
    · exact castLeaf_some h
    · cases h
theorem castMany_some {α : Type} {P : Program} : ∀ {ts : List TypeId} {vs : List V} {K : List V → Option α} {r : α}, castMany P ts vs K = some r → K vs = some r
  | [], vs, K, r, h => by
    obtain ⟨rfl, h1⟩ := isNil_some h; exact h1
  | t :: ts, vs, K, r, h => by
    obtain ⟨c, l, rfl, h1⟩ := uncons_some h
    exact castMany_some (K := fun cs => K (c :: cs)) (castOne_some h1)
theorem castTy_some {α : Type} {P : Program} {t : TypeId} {v : V} {K : V → Option α} {r : α} (h : castTy P t v K = some r) : K v = some r := by
  unfold castTy at h
  split at h
  · obtain ⟨cs, rfl, h1⟩ := castTuple_some h
    exact castMany_some (K := fun cs => K (.tuple cs)) h1
  · exact castOne_some h

theorem elemT_some {P : Program} {t e : TypeId} (h : elemT P t = some e) : P.underlying t = some (.slice e) := by
  unfold elemT at h
  split at h
  · rename_i h'; injection h with h; rw [h', h]
  · cases h
theorem esize_some {P : Program} {t : TypeId} {n : Nat} (h : esize P t = some n) : ∃ i, P.info? t = some i ∧ i.size = n := by
  unfold esize at h
  split at h
  · rename_i i h'; injection h with h; exact ⟨i, h', h⟩
  · cases h
theorem zeros_some {P : Program} {t : TypeId} {z : V} (h : zeros P t = some z) : ∃ i y, P.info? t = some i ∧ i.zero = some y ∧ ofValue y = some z := by
  unfold zeros at h
  split at h
  · rename_i i h'
    split at h
    · rename_i y h''; exact ⟨i, y, h', h'', h⟩
    · cases h
  · cases h
theorem fieldOff_some {P : Program} {t : TypeId} {i : Nat} {p : Nat × TypeId} (h : fieldOff P t i = some p) : ∃ fs f, P.underlying t = some (.struct fs) ∧ fs[i]? = some f ∧ p = (f.offset, f.type) := by
  unfold fieldOff at h
  split at h
  · rename_i fs h'
    split at h
    · rename_i f h''; injection h with h; exact ⟨fs, f, h', h'', h.symm⟩
    · cases h
  · cases h
theorem ofCell_tuple {y : Value} {x : V} (h : ofCell y = some x) : x.isTuple = false := by
  unfold ofCell at h
  split at h <;> first
    | (injection h with h; subst h; rfl)
    | cases h
theorem ofValue_tuple {y : Value} {x : V} (h : ofValue y = some x) : x.isTuple = false := by
  unfold ofValue at h
  split at h
  · obtain ⟨l, hl, he⟩ := Option.bind_eq_some_iff.1 h
    injection he with he
    subst he
    rfl
  · exact ofCell_tuple h
theorem nsize_of {P : Program} {t : TypeId} {i : TypeInfo} (h : P.info? t = some i) : nsize P t = i.size := by simp [nsize, esize, h]

theorem aggOf_run {P : Program} {t : TypeId} {b : Bool} (h : aggOf P t = some b) (w : World) : (isAgg t).run P w = .ok b w := by
  unfold aggOf at h
  split at h
  · rename_i g hg; injection h with h; subst h; simp [isAgg, run_underlying hg]
  · rename_i g hg; injection h with h; subst h; simp [isAgg, run_underlying hg]
  · rename_i d h1 h2 hd
    injection h with h; subst h
    simp only [isAgg, Sem.run_bind, run_underlying hd, Result.andThen_ok]
    cases d <;> first | rfl | (exfalso; first | exact h1 _ rfl | exact h2 _ _ rfl)
  · cases h
theorem aggOf_info {P : Program} {t : TypeId} {b : Bool} (h : aggOf P t = some b) : ∃ i, P.info? t = some i := by
  cases hi : P.info? t with
  | some i => exact ⟨i, rfl⟩
  | none => simp [aggOf, Program.underlying, hi] at h

section ops
variable {α : Type} {E : Env} {o : Oper} {t : List T} {σ : Heap} {K : List T → Heap → Option α} {r : α} {C : Ctx} {μ : Mu} {β : Nat → Nat} {a : Act} {w : World} {next : Act → World → Prop} {Q : Exit → Act → World → Prop}

/-- What an operation leaves. -/
structure Step (w : World) (σ : Heap) (μ : Mu) (t : List T) (β : Nat → Nat) (ex : Nat → Bool) (w' : World) (σ' : Heap) (μ' : Mu) (t' : List T) (β' : Nat → Nat) : Prop where
  le : Le μ μ'
  ro : ∀ (r : Nat) row L, σ[r]? = some (some row) → row.ro = true → μ r = some L → w'.heap[L.block]? = w.heap[L.block]?
  own : ∀ (i : Nat) x, t[i]? = some x → x.own = true → ex i = false → w'.heap[β i]? = w.heap[β i]? ∧ β' i = β i ∧ ∃ x', t'[i]? = some x' ∧ x'.own = true
  desc : ∀ (r : Nat) row L, σ'[r]? = some (some row) → μ' r = some L → (⟨w, σ, μ, 0⟩ : Ctx).okr r row L
  fresh : ∀ (i : Nat) x', t'[i]? = some x' → x'.own = true → (β' i = β i ∧ ∃ x, t[i]? = some x ∧ x.own = true) ∨ w.heap.size ≤ β' i
  keepb : ∀ b, b < w.heap.size → (∀ (r : Nat) row L, σ[r]? = some (some row) → row.ro = false → μ r = some L → L.block ≠ b) → (∀ (i : Nat) x, t[i]? = some x → x.own = true → β i ≠ b) → w'.heap[b]? = w.heap[b]?
  size : w.heap.size ≤ w'.heap.size

theorem put_own {o : Oper} {t : List T} {x : T} {i : Nat} {z : T} (h : t[i]? = some z) (ho : z.own = true) (he : touch o t i = false) : ∃ x', (putT o.dst x t)[i]? = some x' ∧ x'.own = true := by
  cases hd : o.dst with
  | none => exact ⟨z, h, ho⟩
  | some d =>
    have : d ≠ i := by
      intro hdi
      simp [touch, hd, hdi] at he
    exact ⟨z, by simp [putT, List.getElem?_set, this, h], ho⟩

/-- By what is known of the memory. -/
theorem Step.ofBase {C : Ctx} {μ μ' : Mu} {β : Nat → Nat} {t : List T} {σ σ' : Heap} {a : Act} {w w' : World} {o : Oper} (st : St C μ β t σ a w) (hb : Base ⟨w, σ, μ, 0⟩ μ' σ' w') (x : T) (hx : x.own = false) : Step w σ μ t β (touch o t) w' σ' μ' (putT o.dst x t) β where
  le := hb.le
  ro := by
    intro r row L h1 h2 h3
    refine hb.keep.block _ (st.base.sim.block_lt h1 h3) ?_
    rintro ⟨r0, row0, L0, h4, h5, h6, h7⟩
    have hne : r0 ≠ r := by
      intro he
      subst he
      rw [h1] at h4
      injection h4 with h4
      injection h4 with h4
      subst h4
      rw [h7 rfl] at h2
      cases h2
    exact st.base.sim.apart r0 r row0 row L0 L h4 h1 (h7 rfl) hne h5 h3 h6
  own := by
    intro i z hz ho he
    refine ⟨hb.keep.block _ (st.lt hz ho) ?_, rfl, put_own hz ho he⟩
    rintro ⟨r0, row0, L0, h4, h5, h6, _⟩
    exact (st.mine i z hz ho).2 r0 row0 L0 h4 h5 h6
  keepb := fun b hlt h1 _ => hb.keep.block b hlt (by
    rintro ⟨r0, row0, L0, h4, h5, h6, h7⟩
    exact h1 r0 row0 L0 h4 (h7 rfl) h5 h6)
  size := hb.keep.size
  desc := hb.okb
  fresh := by
    intro i z hz ho
    refine .inl ⟨rfl, ?_⟩
    cases hd : o.dst with
    | none => rw [hd] at hz; exact ⟨z, hz, ho⟩
    | some d =>
      rw [hd] at hz
      simp only [putT, List.getElem?_set] at hz
      split at hz
      · split at hz
        · injection hz with hz
          rw [← hz, hx] at ho
          cases ho
        · cases hz
      · exact ⟨z, hz, ho⟩

/-- What is to be shown of an operation. -/
abbrev Goes (E : Env) (o : Oper) (t : List T) (σ : Heap) (μ : Mu) (β : Nat → Nat) (K : List T → Heap → Option α) (r : α) (C : Ctx) (a : Act) (w : World) (next : Act → World → Prop) (Q : Exit → Act → World → Prop) : Prop :=
  (∀ t' σ' μ' β' a' w', St C μ' β' t' σ' a' w' → Step w σ μ t β (touch o t) w' σ' μ' t' β' → K t' σ' = some r → next a' w') → o.wp E.P a w next Q

/-- An operation that yields a value and leaves the world. -/
theorem goes_value (st : St C μ β t σ a w) {x : T} {y : Value} (hx : x.own = false) (hr : TRel μ β t 0 w x y) (hK : K (putT o.dst x t) σ = some r) (he : (execOp a.eval o).run E.P w = .ok (.value y) w) : Goes E o t σ μ β K r C a w next Q :=
  fun hk => wp_value he (hk _ _ _ _ _ _ (st.put o.dst x y hx hr) (Step.ofBase st (st.base.sim.base 0) x hx) hK)

theorem evA_some (st : St C μ β t σ a w) {x : Operand} {K : T → Option α} (h : evA t x K = some r) : ∃ u, K u = some r ∧ u.own = false ∧ TRel μ β t 0 w u (a.eval x) := by
  unfold evA at h
  rcases st.ev x with ⟨i, cs, n, h1, _⟩ | ⟨h1, h2, h3⟩
  · rw [h1] at h; cases h
  · refine ⟨ev t x, ?_, h2, h3⟩
    split at h
    · cases h
    · cases h
    · exact h

theorem evP_some (st : St C μ β t σ a w) {x : Operand} {K K' : Nat → Nat → Option α} (h : evP t x K K' = some r) :
    (∃ d off cs, K d off = some r ∧ t[d]? = some (.box cs) ∧ a.eval x = .pointer (some ⟨β d, off, none⟩) ∧ TRel μ β t 0 w (.ref d off) (a.eval x) ∧ ev t x = .ref d off) ∨
    (∃ q off L, K' q off = some r ∧ μ q = some L ∧ a.eval x = .pointer (some ⟨L.block, L.base + off, none⟩) ∧ ev t x = .v (.ptr q off)) := by
  unfold evP at h
  rcases st.ev x with ⟨i, cs, n, h1, _⟩ | ⟨h1, h2, h3⟩
  · rw [h1] at h; cases h
  · split at h
    · rename_i d off he
      rw [he] at h3
      split at h
      · rename_i cs hd
        exact .inl ⟨d, off, cs, h, hd, h3 cs hd, h3, he⟩
      · cases h
    · rename_i v he
      rw [he] at h3
      split at h
      · rename_i q off
        have h3' : Rel μ (.ptr q off) (a.eval x) := h3
        generalize hv : a.eval x = y at h3'
        cases h3' with
        | ptr hm => exact .inr ⟨q, off, _, h, hm, rfl, he⟩
      · cases h
    · cases h

theorem rel_bool {b : Bool} {y : Value} (h : Rel μ (.bool b) y) : y = .bool b := by cases h; rfl
theorem rel_int {k : IntKind} {n : Int} {y : Value} (h : Rel μ (.int k n) y) : y = .int k n := by cases h; rfl
theorem rel_str {s : ByteArray} {y : Value} (h : Rel μ (.str s) y) : y = .string s := by cases h; rfl

theorem goes_v (st : St C μ β t σ a w) {x : V} {y : Value} (hr : Rel μ x y) (hK : K (putT o.dst (.v x) t) σ = some r) (he : (execOp a.eval o).run E.P w = .ok (.value y) w) : Goes E o t σ μ β K r C a w next Q :=
  goes_value st (x := .v x) rfl hr hK he

/-- An operation that yields a value in every world that meets S, and leaves that world. -/
def PureStep (E : Env) (o : Oper) (t : List T) (σ : Heap) (μ : Mu) (β : Nat → Nat) (K : List T → Heap → Option α) (r : α) (a : Act) (w : World) (S : World → Prop) : Prop :=
  ∃ x y, x.own = false ∧ TRel μ β t 0 w x y ∧ K (putT o.dst x t) σ = some r ∧ ∀ w', S w' → (execOp a.eval o).run E.P w' = .ok (.value y) w'
theorem pure_value {S : World → Prop} {x : T} {y : Value} (hx : x.own = false) (hr : TRel μ β t 0 w x y) (hK : K (putT o.dst x t) σ = some r) (he : ∀ w', S w' → (execOp a.eval o).run E.P w' = .ok (.value y) w') : PureStep E o t σ μ β K r a w S :=
  ⟨x, y, hx, hr, hK, he⟩
theorem pure_v {S : World → Prop} {x : V} {y : Value} (hr : Rel μ x y) (hK : K (putT o.dst (.v x) t) σ = some r) (he : ∀ w', S w' → (execOp a.eval o).run E.P w' = .ok (.value y) w') : PureStep E o t σ μ β K r a w S :=
  ⟨.v x, y, rfl, hr, hK, he⟩
theorem PureStep.goes {S : World → Prop} (st : St C μ β t σ a w) (h : PureStep E o t σ μ β K r a w S) (hS : S w) : Goes E o t σ μ β K r C a w next Q := by
  obtain ⟨x, y, hx, hr, hK, he⟩ := h
  exact goes_value st hx hr hK (he w hS)

theorem pure_move {S : World → Prop} (st : St C μ β t σ a w) {x : Operand} (ho : o.op = .move x ∨ o.op = .assign x) (h : hop E o t σ K = some r) : PureStep E o t σ μ β K r a w S := by
  have he : ∀ w, (execOp a.eval o).run E.P w = .ok (.value (a.eval x)) w := by
    intro w
    rcases ho with ho | ho <;> simp [execOp, ho]
  have h' : evA t x (fun x => K (putT o.dst x t) σ) = some r := by
    rcases ho with ho | ho <;> simpa only [hop, ho] using h
  obtain ⟨u, h1, h2, h3⟩ := evA_some st h'
  exact pure_value h2 h3 h1 (fun w' _ => he w')

theorem pure_pick {S : World → Prop} (st : St C μ β t σ a w) {c x y : Operand} (ho : o.op = .pick c x y) (h : hop E o t σ K = some r) : PureStep E o t σ μ β K r a w S := by
  simp only [hop, ho] at h
  obtain ⟨c', h1, rc⟩ := evV_some st h
  obtain ⟨b, rfl, h2⟩ := castBool_some h1
  have hc := rel_bool rc
  cases b with
  | true =>
    obtain ⟨x', h3, rx⟩ := evV_some st h2
    exact pure_v rx h3 (fun w' _ => by simp [execOp, ho, hc, asBool])
  | false =>
    obtain ⟨x', h3, rx⟩ := evV_some st h2
    exact pure_v rx h3 (fun w' _ => by simp [execOp, ho, hc, asBool])

theorem pure_unOp {S : World → Prop} (st : St C μ β t σ a w) {ty : TypeId} {x : Operand} (ho : o.op = .unOp .not ty x) (h : hop E o t σ K = some r) : PureStep E o t σ μ β K r a w S := by
  simp only [hop, ho] at h
  obtain ⟨c', h1, rc⟩ := evV_some st h
  obtain ⟨b, rfl, h2⟩ := castBool_some h1
  have hc := rel_bool rc
  exact pure_v (y := .bool !b) (Rel.bool _) h2 (fun w' _ => by simp [execOp, ho, hc, Op.unary])

theorem pure_neg {S : World → Prop} (st : St C μ β t σ a w) {ty : TypeId} {x : Operand} (ho : o.op = .unOp .neg ty x) (h : hop E o t σ K = some r) : PureStep E o t σ μ β K r a w S := by
  simp only [hop, ho] at h
  obtain ⟨c', h1, rc⟩ := evV_some st h
  split at h1
  · rename_i k n
    have hc := rel_int rc
    exact pure_v (Rel.int k _) h1 (fun w' _ => by simp [execOp, ho, hc, Op.unary, Op.intArith])
  · cases h1

theorem pure_extract {S : World → Prop} (st : St C μ β t σ a w) {x : Operand} {i : Nat} (ho : o.op = .extract x i) (h : hop E o t σ K = some r) : PureStep E o t σ μ β K r a w S := by
  simp only [hop, ho] at h
  obtain ⟨c', h1, rc⟩ := evV_some st h
  obtain ⟨vs, rfl, h2⟩ := castTuple_some h1
  split at h2
  · rename_i v hv
    generalize he : a.eval x = y at rc
    cases rc with
    | tuple hl hr =>
      rename_i ys
      have hi : i < ys.size := by rw [← hl]; exact (List.getElem?_eq_some_iff.1 hv).1
      exact pure_v (y := ys[i]) (hr i v _ hv (Array.getElem?_eq_getElem hi)) h2 (fun w' _ => by simp [execOp, ho, he, Instr.extract, hi])
  · cases h2

theorem pure_nilCheck {S : World → Prop} (st : St C μ β t σ a w) {x : Operand} (ho : o.op = .nilCheck x) (h : hop E o t σ K = some r) : PureStep E o t σ μ β K r a w S := by
  simp only [hop, ho] at h
  rcases evP_some st h with ⟨d, off, cs, h1, h2, h3, h4, h5⟩ | ⟨q, off, L, h1, h2, h3, _⟩
  · rw [h3] at h4
    exact pure_value rfl h4 h1 (fun w' _ => by simp [execOp, ho, h3])
  · exact pure_v (Rel.ptr h2) h1 (fun w' _ => by simp [execOp, ho, h3])

theorem pure_fieldAddr {S : World → Prop} (st : St C μ β t σ a w) {ty : TypeId} {x : Operand} {i : Nat} (ho : o.op = .fieldAddr ty x i) (h : hop E o t σ K = some r) : PureStep E o t σ μ β K r a w S := by
  simp only [hop, ho] at h
  obtain ⟨p, hp, h0⟩ := Option.bind_eq_some_iff.1 h
  obtain ⟨fs, f, hu, hf, rfl⟩ := fieldOff_some hp
  split at h0
  · cases h0
  · rename_i hn
    have hsz : ∃ n, n ≠ 0 ∧ ∀ w, (sizeOf f.type).run E.P w = .ok n w := by
      cases hi : E.P.info? f.type with
      | none => simp [nsize, esize, hi] at hn
      | some i => exact ⟨i.size, by simpa [nsize, esize, hi] using hn, fun w => by simp [sizeOf, typeInfo, hi]⟩
    obtain ⟨n, hn0, hs⟩ := hsz
    have run : ∀ (b off : Nat), a.eval x = .pointer (some ⟨b, off, none⟩) → ∀ w, (execOp a.eval o).run E.P w = .ok (.value (.pointer (some ⟨b, off + f.offset, none⟩))) w := by
      intro b off he w
      simp [execOp, ho, he, Instr.fieldAt, run_underlying hu, hf, Instr.sureAddr, fieldPlace, hs, hn0, Addr.add_mid]
    rcases evP_some st h0 with ⟨d, off, cs, h1, h2, h3, h4, h5⟩ | ⟨q, off, L, h1, h2, h3, _⟩
    · refine pure_value (x := .ref d (off + f.offset)) rfl (fun cs' hcs' => ?_) h1 (fun w' _ => run _ _ h3 w')
      rfl
    · have := run _ _ h3
      rw [Nat.add_assoc] at this
      exact pure_v (Rel.ptr h2) h1 (fun w' _ => this w')
theorem pure_field {S : World → Prop} (st : St C μ β t σ a w) {ty : TypeId} {x : Operand} {i : Nat} (ho : o.op = .field ty x i) (h : hop E o t σ K = some r) : PureStep E o t σ μ β K r a w S := by
  simp only [hop, ho] at h
  obtain ⟨p, hp, h0⟩ := Option.bind_eq_some_iff.1 h
  obtain ⟨fs, f, hu, hf, rfl⟩ := fieldOff_some hp
  obtain ⟨ag, hag0, h0⟩ := Option.bind_eq_some_iff.1 h0
  obtain ⟨x', h1, rx⟩ := evV_some st h0
  obtain ⟨cs, rfl, h2⟩ := castAgg_some h1
  have hag := aggOf_run hag0
  obtain ⟨ii, hi⟩ := aggOf_info hag0
  generalize he : a.eval x = y at rx
  cases rx with
  | agg hl hr h1c =>
    rename_i ys
    cases ag with
    | true =>
      have hn : nsize E.P f.type = ii.size := nsize_of hi
      refine pure_v (y := .agg (ys.extract f.offset (f.offset + ii.size))) ?_ h2 (fun w' _ => by simp [execOp, ho, he, Instr.field, run_underlying hu, hf, asAgg, part, hag, sizeOf, typeInfo, hi])
      refine RelC.agg ⟨?_, fun j u v hu' hv => ?_⟩
      · simp [hn]; omega
      · simp only [hn] at hu'
        have hj : j < ii.size := by
          have := (List.getElem?_eq_some_iff.1 hu').1
          simp at this
          omega
        have hu2 : cs[f.offset + j]? = some u := by
          rw [List.getElem?_take, if_pos hj, List.getElem?_drop] at hu'
          exact hu'
        have hv2 : ys[f.offset + j]? = some v := by
          simp only [Array.getElem?_toList, Array.getElem?_extract] at hv
          split at hv
          · exact hv
          · cases hv
        exact ⟨hr _ u v hu2 hv2, h1c _ v hv2⟩
    | false =>
      simp only [cond_false] at h2
      split at h2
      · rename_i c hc
        have hi : f.offset < ys.size := by rw [← hl]; exact (List.getElem?_eq_some_iff.1 hc).1
        exact pure_v (y := ys[f.offset]) (hr _ c _ hc (Array.getElem?_eq_getElem hi)) h2 (fun w' _ => by simp [execOp, ho, he, Instr.field, run_underlying hu, hf, asAgg, part, hag, hi])
      · cases h2

theorem ofZero {z : V} {y : Value} (h : ofValue y = some z) : RelC μ z.cells y.cells.toList := (ofValue_rel h).cells (ofValue_tuple h)

theorem at_new {w : World} {ty : TypeId} {xs : List V} {ys : Array Value} (h : RelC μ xs ys.toList) : At { w with heap := w.heap.push (.cells ys ty) } w.heap.size 0 ys.size μ xs true :=
  at_push ty (by have := h.1; simp at this; omega) (fun i x hx => by simpa using h.cell i x hx)

theorem at_newT {w : World} {ty : TypeId} {xs : List V} {ys : Array Value} (h : RelC μ xs ys.toList) : At { w with heap := w.heap.push (.cells ys ty) } w.heap.size 0 ys.size μ xs true (ty + 1) :=
  at_pushT ty (by have := h.1; simp at this; omega) (fun i x hx => by simpa using h.cell i x hx)

/-- A step of the memory that yields a value. -/
theorem goes_base (st : St C μ β t σ a w) {σ' : Heap} {μ' : Mu} {w' : World} (hb : Base ⟨w, σ, μ, 0⟩ μ' σ' w') {x : V} {y : Value} (hr : Rel μ' x y) (hK : K (putT o.dst (.v x) t) σ' = some r)
    (he : (execOp a.eval o).run E.P w = .ok (.value y) w') : Goes E o t σ μ β K r C a w next Q := fun hk =>
  wp_value he (hk _ _ _ _ _ _ ((st.call hb).put o.dst (.v x) y rfl hr) (Step.ofBase st hb (.v x) rfl) hK)

/-- A new row with an address. -/
theorem goes_newRow (st : St C μ β t σ a w) {xs : List V} {ys : Array Value} (esz : Nat) {ty : TypeId} (hc : RelC μ xs ys.toList) {x : V} {y : Value}
    (hr : Rel (upd μ σ.length ⟨w.heap.size, 0, esz, ys.size⟩) x y) (hK : K (putT o.dst (.v x) t) (hnew σ esz xs) = some r)
    (he : (execOp a.eval o).run E.P w = .ok (.value y) { w with heap := w.heap.push (.cells ys ty) }) : Goes E o t σ μ β K r C a w next Q :=
  goes_base st ((st.base.sim.base 0).new (Grew.push w (.cells ys ty)) esz ys.size xs w.heap.size (Nat.le_refl _) (at_new hc)) hr hK he

theorem goes_newRowT (st : St C μ β t σ a w) {xs : List V} {ys : Array Value} (esz : Nat) {ty : TypeId} (hc : RelC μ xs ys.toList) {x : V} {y : Value}
    (hr : Rel (upd μ σ.length ⟨w.heap.size, 0, esz, ys.size⟩) x y) (hK : K (putT o.dst (.v x) t) (hnewT σ (ty + 1) esz xs) = some r)
    (he : (execOp a.eval o).run E.P w = .ok (.value y) { w with heap := w.heap.push (.cells ys ty) }) : Goes E o t σ μ β K r C a w next Q :=
  goes_base st ((st.base.sim.base 0).newT (Grew.push w (.cells ys ty)) (ty + 1) esz ys.size xs w.heap.size (Nat.le_refl _) (at_newT hc)) hr hK he

theorem rel_ptr_new {σ : Heap} {b esz n : Nat} : Rel (upd μ σ.length ⟨b, 0, esz, n⟩) (.ptr σ.length 0) (.pointer (some ⟨b, 0, none⟩)) := by
  have := Rel.ptr (μ := upd μ σ.length ⟨b, 0, esz, n⟩) (r := σ.length) (off := 0) (L := ⟨b, 0, esz, n⟩) (by unfold upd; rw [if_pos rfl])
  simpa using this

theorem Step.newOwn {C : Ctx} {μ : Mu} {β : Nat → Nat} {t : List T} {σ : Heap} {a : Act} {w w' : World} {o : Oper} (st : St C μ β t σ a w) (g : Grew w w') {d : Nat} (hd : o.dst = some d) (x : T) (b : Nat) (hb : w.heap.size ≤ b) :
    Step w σ μ t β (touch o t) w' σ μ (putT o.dst x (killRefs d t)) (fun k => if k = d then b else β k) where
  le := Le.refl _
  ro := fun r row L h1 _ h3 => g.block _ (st.base.sim.block_lt h1 h3)
  own := by
    intro i z hz ho he
    have hne : i ≠ d := by
      intro h
      simp [touch, hd, h] at he
    refine ⟨g.block _ (st.lt hz ho), by simp only [if_neg hne], z, ?_, ho⟩
    rw [hd]
    simp only [putT, List.getElem?_set, if_neg (Ne.symm hne), killRefs, List.getElem?_map, hz, Option.map_some]
    cases z <;> first | rfl | cases ho
  keepb := fun b hlt _ _ => g.block b hlt
  size := g.size
  desc := (st.base.sim.base 0).okb
  fresh := by
    intro i z hz ho
    by_cases hid : i = d
    · right
      show w.heap.size ≤ (if i = d then b else β i)
      rw [if_pos hid]
      exact hb
    · refine .inl ⟨by simp only [if_neg hid], ?_⟩
      rw [hd] at hz
      simp only [putT, List.getElem?_set, if_neg (Ne.symm hid)] at hz
      obtain ⟨u, hu, h1⟩ := killRefs_get hz
      rcases h1 with rfl | ⟨rfl, _⟩
      · cases ho
      · exact ⟨z, hu, ho⟩

/-- A private block. -/
theorem goes_newOwn (st : St C μ β t σ a w) {xs : List V} {ys : Array Value} {ty : TypeId} (hc : RelC μ xs ys.toList) {d : Nat} (hd : o.dst = some d) (hK : K (putT o.dst (.box xs) (killRefs d t)) σ = some r)
    (he : (execOp a.eval o).run E.P w = .ok (.value (.pointer (some ⟨w.heap.size, 0, none⟩))) { w with heap := w.heap.push (.cells ys ty) }) : Goes E o t σ μ β K r C a w next Q := fun hk => by
  have hsz : ys.size = xs.length := by have := hc.1; simp at this; omega
  have st' := st.newOwn (Grew.push w (.cells ys ty)) d (.box xs) (.pointer (some ⟨w.heap.size, 0, none⟩)) w.heap.size (Nat.le_refl _) rfl (fun β' hb => by
    refine ⟨by rw [hb], ?_⟩
    rw [hb, ← hsz]
    exact at_new hc)
  rw [show ((killRefs d t).set d (.box xs)) = putT o.dst (.box xs) (killRefs d t) from by rw [hd]; rfl, ← hd] at st'
  exact wp_value he (hk _ _ _ _ _ _ st' (Step.newOwn st (Grew.push w (.cells ys ty)) hd _ _ (Nat.le_refl _)) hK)

theorem goes_alloc (st : St C μ β t σ a w) {ty : TypeId} (ho : o.op = .alloc ty) (h : hop E o t σ K = some r) : Goes E o t σ μ β K r C a w next Q := by
  simp only [hop, ho] at h
  obtain ⟨z, hz, h0⟩ := Option.bind_eq_some_iff.1 h
  obtain ⟨i, y, hi, hzr, hzv⟩ := zeros_some hz
  have hc : RelC μ z.cells y.cells.toList := ofZero hzv
  have run : (execOp a.eval o).run E.P w = .ok (.value (.pointer (some ⟨w.heap.size, 0, none⟩))) { w with heap := w.heap.push (.cells y.cells ty) } := by
    simp [execOp, ho, Instr.alloc, zeroValue, typeInfo, hi, hzr, newVar, newRow]
  split at h0
  · rename_i hl
    cases hd : o.dst with
    | none => simp [isLocal, hd] at hl
    | some d =>
      rw [hd] at h0
      exact goes_newOwn st hc hd (by rw [hd]; exact h0) run
  · cases ht : E.tyd ty with
    | true =>
      rw [ht, cond_true] at h0
      exact goes_newRowT st z.cells.length hc rel_ptr_new h0 run
    | false =>
      rw [ht, cond_false] at h0
      exact goes_newRow st z.cells.length hc rel_ptr_new h0 run

theorem goes_box (st : St C μ β t σ a w) {ty : TypeId} {x : Operand} (ho : o.op = .box ty x) (h : hop E o t σ K = some r) : Goes E o t σ μ β K r C a w next Q := by
  simp only [hop, ho] at h
  obtain ⟨z, h0, rz⟩ := evV_some st h
  obtain ⟨ht, h1⟩ := cellsT_some h0
  · have hc : RelC μ z.cells (a.eval x).cells.toList := rz.cells ht
    have run : (execOp a.eval o).run E.P w = .ok (.value (.pointer (some ⟨w.heap.size, 0, none⟩))) { w with heap := w.heap.push (.cells (a.eval x).cells ty) } := by
      simp [execOp, ho, Instr.box, newVar, newRow]
    split at h1
    · rename_i hl
      cases hd : o.dst with
      | none => simp [isLocal, hd] at hl
      | some d =>
        rw [hd] at h1
        exact goes_newOwn st hc hd (by rw [hd]; exact h1) run
    · exact goes_newRow st z.cells.length hc rel_ptr_new h1 run
end ops
end Go.HM
