/- Each operation of the small machine is one of the model's: numbers and texts, slices, calls. -/
import Derived.Test.YtoakhfnojbmhgaaGreatHMOps2
import Derived.Laws.StructEq
set_option linter.unusedSimpArgs false
set_option linter.unusedVariables false
namespace Go.HM

theorem str_inj {a b : ByteArray} (h : a.toList = b.toList) : a = b := by
  rw [ByteArray.toList_eq, ByteArray.toList_eq] at h
  have := Array.toList_inj.mp h
  cases a; cases b; simp_all
theorem str_iff {a b : ByteArray} : a.toList = b.toList ↔ a = b := ⟨str_inj, fun h => by rw [h]⟩
theorem str_beq (a b : ByteArray) : (a.toList == b.toList) = decide (a = b) := by
  by_cases h : a = b
  · simp [h]
  · have : ¬ a.toList = b.toList := fun h' => h (str_inj h')
    simp [h, this]

theorem bytesLess_flip : ∀ (a b : List UInt8), (Op.bytesLess b a || b == a) = !Op.bytesLess a b
  | [], [] => rfl
  | [], _ :: _ => rfl
  | _ :: _, [] => rfl
  | x :: a, y :: b => by
    have ih := bytesLess_flip a b
    have hlt : ∀ p q : UInt8, p < q ↔ p.toNat < q.toNat := fun p q => UInt8.lt_iff_toNat_lt
    have heq : ∀ p q : UInt8, p = q ↔ p.toNat = q.toNat := fun p q => ⟨fun h => by rw [h], fun h => UInt8.toNat_inj.mp h⟩
    simp only [Op.bytesLess]
    by_cases h1 : x < y
    · have h2 : ¬ y < x := by rw [hlt] at h1 ⊢; omega
      have h3 : ¬ y = x := by rw [heq]; rw [hlt] at h1; omega
      simp [h1, h2, h3]
    · by_cases h2 : y < x
      · have h3 : ¬ x = y := by rw [heq]; rw [hlt] at h2; omega
        simp [h1, h2, h3]
      · have h3 : x = y := by
          rw [heq]
          rw [hlt] at h1 h2
          omega
        subst h3
        simp only [h1, decide_false, Bool.false_or, BEq.rfl, Bool.true_and]
        rw [← ih]
        simp

theorem run_eqGuard_int {P : Program} {w : World} {op : BinOp} {ty : TypeId} {x y : Operand} {k l : IntKind} {m n : Int} : (eqGuard op ty x y (.int k m) (.int l n)).run P w = .ok () w := by
  unfold eqGuard
  split <;> rfl
theorem run_eqGuard_str {P : Program} {w : World} {op : BinOp} {ty : TypeId} {x y : Operand} {a b : ByteArray} : (eqGuard op ty x y (.string a) (.string b)).run P w = .ok () w := by
  unfold eqGuard
  split <;> rfl
theorem run_eqGuard_bool {P : Program} {w : World} {op : BinOp} {ty : TypeId} {x y : Operand} {a b : Bool} : (eqGuard op ty x y (.bool a) (.bool b)).run P w = .ok () w := by
  unfold eqGuard
  split <;> rfl

section ops
variable {α : Type} {E : Env} {o : Oper} {t : List T} {σ : Heap} {K : List T → Heap → Option α} {r : α} {C : Ctx} {μ : Mu} {β : Nat → Nat} {a : Act} {w : World} {next : Act → World → Prop} {Q : Exit → Act → World → Prop}

theorem run_binInt {P : Program} {op : BinOp} {k : IntKind} {m n : Int} {K : V → Option α} {ty : TypeId} (h : hbinInt op k m n K = some r) :
    ∃ v y, K v = some r ∧ (∀ w, (binOp op ty (.int k m) (.int k n)).run P w = .ok y w) ∧ Rel μ v y := by
  cases op <;> simp only [hbinInt] at h
  case add => exact ⟨_, .int k (k.wrap (m + n)), h, fun w => by simp [binOp, Op.intArith], Rel.int _ _⟩
  case sub => exact ⟨_, .int k (k.wrap (m - n)), h, fun w => by simp [binOp, Op.intArith], Rel.int _ _⟩
  case mul => exact ⟨_, .int k (k.wrap (m * n)), h, fun w => by simp [binOp, Op.intArith], Rel.int _ _⟩
  case quo =>
    split at h
    · cases h
    · rename_i hb
      exact ⟨_, .int k (k.wrap (m.tdiv n)), h, fun w => by simp only [binOp, ne_eq, not_true, if_false]; unfold Op.intDiv; rw [if_neg hb]; rfl, Rel.int _ _⟩
  case rem =>
    split at h
    · cases h
    · rename_i hb
      exact ⟨_, .int k (m.tmod n), h, fun w => by simp only [binOp, ne_eq, not_true, if_false]; unfold Op.intDiv; rw [if_neg hb]; rfl, Rel.int _ _⟩
  case and => exact ⟨_, _, h, fun w => by simp only [binOp, ne_eq, not_true, if_false]; unfold Op.intBits; rfl, Rel.int _ _⟩
  case or => exact ⟨_, _, h, fun w => by simp only [binOp, ne_eq, not_true, if_false]; unfold Op.intBits; rfl, Rel.int _ _⟩
  case xor => exact ⟨_, _, h, fun w => by simp only [binOp, ne_eq, not_true, if_false]; unfold Op.intBits; rfl, Rel.int _ _⟩
  case eql => exact ⟨_, .bool (decide (m = n)), h, fun w => by simp [binOp, Op.intCmp]; rfl, Rel.bool _⟩
  case neq => exact ⟨_, .bool (!decide (m = n)), h, fun w => by simp [binOp, Op.intCmp]; rfl, Rel.bool _⟩
  case lss => exact ⟨_, .bool (decide (m < n)), h, fun w => by simp [binOp, Op.intCmp], Rel.bool _⟩
  case leq => exact ⟨_, .bool (decide (m ≤ n)), h, fun w => by simp [binOp, Op.intCmp], Rel.bool _⟩
  case gtr => exact ⟨_, .bool (decide (n < m)), h, fun w => by simp [binOp, Op.intCmp], Rel.bool _⟩
  case geq => exact ⟨_, .bool (decide (n ≤ m)), h, fun w => by simp [binOp, Op.intCmp], Rel.bool _⟩
  all_goals cases h

theorem run_binStr {P : Program} {op : BinOp} {m n : ByteArray} {K : V → Option α} {ty : TypeId} (h : hbinStr op m n K = some r) :
    ∃ v y, K v = some r ∧ (∀ w, (binOp op ty (.string m) (.string n)).run P w = .ok y w) ∧ Rel μ v y := by
  have key : ∀ op', ∀ w, (binOp op' ty (.string m) (.string n)).run P w = (Op.stringOp op' m n).run P w := fun op' w => by cases op' <;> rfl
  have flip := bytesLess_flip n.toList m.toList
  cases op <;> simp only [hbinStr] at h
  case add =>
    split at h
    · rename_i hb
      refine ⟨_, .string (m ++ n), h, fun w => ?_, Rel.str _⟩
      rw [key]
      have : ¬ (((m.size + n.size : Nat) : Int) > IntKind.i64.max) := by
        have : IntKind.i64.max = 9223372036854775807 := by decide
        rw [this]
        have : (2 : Nat) ^ 62 = 4611686018427387904 := by decide
        omega
      simp only [Op.stringOp, if_neg this]
      rfl
    · cases h
  case eql => exact ⟨_, .bool (decide (m = n)), h, fun w => by rw [key, ← str_beq]; rfl, Rel.bool _⟩
  case neq => exact ⟨_, .bool (!decide (m = n)), h, fun w => by rw [key, ← str_beq]; rfl, Rel.bool _⟩
  case lss => exact ⟨_, .bool (Op.bytesLess m.toList n.toList), h, fun w => by rw [key]; rfl, Rel.bool _⟩
  case leq => exact ⟨_, .bool (!Op.bytesLess n.toList m.toList), h, fun w => by rw [key, ← flip]; rfl, Rel.bool _⟩
  case gtr =>
    refine ⟨_, .bool (Op.bytesLess n.toList m.toList), h, fun w => ?_, Rel.bool _⟩
    rw [key]
    show Result.ok (Value.bool (!(Op.bytesLess m.toList n.toList || m.toList == n.toList))) w = _
    rw [flip, Bool.not_not]
  case geq => exact ⟨_, .bool (!Op.bytesLess m.toList n.toList), h, fun w => by rw [key]; rfl, Rel.bool _⟩
  all_goals cases h

theorem run_hbin {P : Program} {op : BinOp} {u v : V} {x y : Value} {K : V → Option α} {ty : TypeId} {xo yo : Operand} (h : hbin op u v K = some r) (ru : Rel μ u x) (rv : Rel μ v y) :
    ∃ z q, K z = some r ∧ (∀ w, (do eqGuard op ty xo yo x y; binOp op ty x y).run P w = .ok q w) ∧ Rel μ z q := by
  unfold hbin at h
  split at h
  · split at h
    · rename_i hb
      have hx := rel_int ru
      have hy := rel_int rv
      refine ⟨_, _, h, fun w => ?_, Rel.int _ _⟩
      simp only [hx, hy, Sem.run_bind, run_eqGuard_int, Result.andThen_ok]
      have hn : ¬ (_ : Int) < 0 := Int.not_lt.mpr hb
      simp only [binOp]
      unfold Op.shift
      rw [if_neg hn]
      rfl
    · cases h
  · split at h
    · rename_i hb
      have hx := rel_int ru
      have hy := rel_int rv
      refine ⟨_, _, h, fun w => ?_, Rel.int _ _⟩
      simp only [hx, hy, Sem.run_bind, run_eqGuard_int, Result.andThen_ok]
      have hn : ¬ (_ : Int) < 0 := Int.not_lt.mpr hb
      simp only [binOp]
      unfold Op.shift
      rw [if_neg hn]
      rfl
    · cases h
  · split at h
    · rename_i hk
      subst hk
      have hx := rel_int ru
      have hy := rel_int rv
      obtain ⟨z, q, h3, h4, h5⟩ := run_binInt (P := P) (μ := μ) (ty := ty) h
      exact ⟨z, q, h3, fun w => by simp [hx, hy, run_eqGuard_int, h4], h5⟩
    · cases h
  · have hx := rel_str ru
    have hy := rel_str rv
    obtain ⟨z, q, h3, h4, h5⟩ := run_binStr (P := P) (μ := μ) (ty := ty) h
    exact ⟨z, q, h3, fun w => by simp [hx, hy, run_eqGuard_str, h4], h5⟩
  · cases h

/-- By the model's equality. -/
theorem run_heq {P : Program} {op : BinOp} {b : Bool} {x y : Value} {K : V → Option α} {ty : TypeId} {xo yo : Operand} (h : heq op b K = some r) (hg : ∀ w, (eqGuard op ty xo yo x y).run P w = .ok () w)
    (he : ∀ w, (binOp .eql ty x y).run P w = .ok (.bool b) w) (hn : ∀ w, (binOp .neq ty x y).run P w = .ok (.bool !b) w) :
    ∃ z q, K z = some r ∧ (∀ w, (do eqGuard op ty xo yo x y; binOp op ty x y).run P w = .ok q w) ∧ Rel μ z q := by
  cases op <;> simp only [heq] at h
  case eql => exact ⟨_, _, h, fun w => by simp only [Sem.run_bind, hg, Result.andThen_ok]; exact he w, Rel.bool _⟩
  case neq => exact ⟨_, _, h, fun w => by simp only [Sem.run_bind, hg, Result.andThen_ok]; exact hn w, Rel.bool _⟩
  all_goals cases h

theorem run_eqLeaf {P : Program} {d : Nat} {ty : TypeId} {u v : V} {x y : Value} {e : Bool} (h : eqLeaf (P.underlying ty) u v = some e) (hx : Rel μ u x) (hy : Rel μ v y) :
    (Op.equalIn (d + 1) ty x y).run P w = .ok e w ∧ (isAgg ty).run P w = .ok false w := by
  unfold eqLeaf at h
  split at h
  · rename_i k a k' b hu
    split at h
    · rename_i hk
      injection h with h
      subst hk
      rw [rel_int hx, rel_int hy]
      exact ⟨by rw [run_equalIn_int w d ty _ _ _ _ hu, ← h]; rfl, by simp [isAgg, run_underlying hu]⟩
    · cases h
  · rename_i hu
    injection h with h
    rw [rel_str hx, rel_str hy]
    exact ⟨by rw [run_equalIn_string w d ty _ _ hu, ← h, str_beq], by simp [isAgg, run_underlying hu]⟩
  · rename_i hu
    injection h with h
    rw [rel_bool hx, rel_bool hy]
    exact ⟨by rw [run_equalIn_bool' w d ty _ _ hu, ← h], by simp [isAgg, run_underlying hu]⟩
  · cases h

theorem run_eqFields {P : Program} {d : Nat} {cs ds : List V} {xs ys : Array Value} (hx : RelC μ cs xs.toList) (hy : RelC μ ds ys.toList) : ∀ (fs : List Field) (i : Nat) (b : Bool),
    eqFlat P fs i (cs.drop i) (ds.drop i) = some b → (Op.eqFields (d + 1) xs ys fs).run P w = .ok b w := by
  intro fs
  induction fs with
  | nil =>
    intro i b h
    cases hc : cs.drop i <;> cases hd : ds.drop i <;> rw [hc, hd] at h <;> simp [eqFlat] at h
    subst h
    rfl
  | cons f fs ih =>
    intro i b h
    cases hc : cs.drop i with
    | nil => rw [hc] at h; simp [eqFlat] at h
    | cons u us =>
      cases hd : ds.drop i with
      | nil => rw [hc, hd] at h; simp [eqFlat] at h
      | cons v vs =>
        rw [hc, hd, eqFlat] at h
        have hcond : (f.name != "_" && f.offset == i) = true := by
          cases hq : (f.name != "_" && f.offset == i) with
          | true => rfl
          | false => rw [hq] at h; simp at h
        rw [hcond, cond_true] at h
        obtain ⟨e, he, h⟩ := Option.bind_eq_some_iff.1 h
        obtain ⟨c, hcc, h⟩ := Option.bind_eq_some_iff.1 h
        injection h with h
        subst h
        have hu : cs[i]? = some u := by
          have : (cs.drop i)[0]? = some u := by rw [hc]; rfl
          rw [List.getElem?_drop] at this
          simpa using this
        have hv : ds[i]? = some v := by
          have : (ds.drop i)[0]? = some v := by rw [hd]; rfl
          rw [List.getElem?_drop] at this
          simpa using this
        have hus : cs.drop (i + 1) = us := by
          have : (cs.drop i).drop 1 = us := by rw [hc]; rfl
          rw [List.drop_drop] at this
          exact this
        have hvs : ds.drop (i + 1) = vs := by
          have : (ds.drop i).drop 1 = vs := by rw [hd]; rfl
          rw [List.drop_drop] at this
          exact this
        have ih' := ih (i + 1) c (by rw [hus, hvs]; exact hcc)
        obtain ⟨x, hx1, hx2, _⟩ := hx.cell i _ hu
        obtain ⟨y, hy1, hy2, _⟩ := hy.cell i _ hv
        simp only [Bool.and_eq_true] at hcond
        have hoff : f.offset = i := by simpa using hcond.2
        have hname : f.name ≠ "_" := by simpa using hcond.1
        obtain ⟨hleaf, hag⟩ := run_eqLeaf (P := P) (w := w) (d := d) he hx2 hy2
        have hpart : ∀ (zs : Array Value) z, zs.toList[i]? = some z → (part f.type zs f.offset).run P w = .ok z w := by
          intro zs z hz
          have hz' : zs[i]? = some z := by simpa using hz
          simp [part, hag, hoff, hz']
        rw [Op.eqFields]
        simp only [if_pos hname, Sem.run_bind, hpart _ _ hx1, hpart _ _ hy1, hleaf, Result.andThen_ok]
        cases e
        · simp
        · simpa using ih'

theorem rel_aggC {cs : List V} {y : Value} (h : Rel μ (.agg cs) y) : ∃ ys : Array Value, y = .agg ys ∧ RelC μ cs ys.toList := by
  have := h.cells rfl
  cases h with
  | agg hl hr h1 => exact ⟨_, rfl, this⟩

theorem equal_in {ty : TypeId} {x y : Value} : Op.equal ty x y = Op.equalIn (9999 + 1) ty x y := rfl
theorem run_nilS {P : Program} {ty e : TypeId} {u : V} {x : Value} {b : Bool} (ht : P.underlying ty = some (.slice e)) (h : nilS u = some b) (hr : Rel μ u x) : (Op.equal ty x (.slice none 0 0)).run P w = .ok b w := by
  rw [equal_in, Op.equalIn]
  cases hr <;> simp [nilS] at h <;> subst h <;> simp [run_underlying ht]
theorem run_nilP {P : Program} {ty e : TypeId} {u : V} {x : Value} {b : Bool} (ht : P.underlying ty = some (.pointer e)) (h : nilP u = some b) (hr : Rel μ u x) : (Op.equal ty x (.pointer none)).run P w = .ok b w := by
  rw [equal_in, Op.equalIn]
  cases hr <;> simp [nilP] at h <;> subst h <;> simp [run_underlying ht]
theorem run_nilI {P : Program} {ty : TypeId} {ms : Array (String × TypeId)} {u : V} {x : Value} {b : Bool} (ht : P.underlying ty = some (.interface ms)) (h : nilI u = some b) (hr : Rel μ u x) : (Op.equal ty x .nilIface).run P w = .ok b w := by
  rw [equal_in, Op.equalIn]
  cases hr <;> simp [nilI] at h <;> subst h <;> simp [run_underlying ht]

theorem pure_binOp {S : World → Prop} (st : St C μ β t σ a w) {op : BinOp} {ty ty2 : TypeId} {x y : Operand} (ho : o.op = .binOp op ty x y ty2) (h : hop E o t σ K = some r) : PureStep E o t σ μ β K r a w S := by
  simp only [hop, ho] at h
  obtain ⟨u, h1, ru⟩ := evV_some st h
  obtain ⟨v, h2, rv⟩ := evV_some st h1
  have fin : (∃ z q, K (putT o.dst (.v z) t) σ = some r ∧ (∀ w, (do eqGuard op ty x y (a.eval x) (a.eval y); binOp op ty (a.eval x) (a.eval y)).run E.P w = .ok q w) ∧ Rel μ z q) → PureStep E o t σ μ β K r a w S := by
    rintro ⟨z, q, h3, h4, h5⟩
    refine pure_v h5 h3 (fun w' _ => ?_)
    simp only [execOp, ho]
    rw [Sem.run_bind, h4]
    rfl
  split at h2
  · exact fin (run_hbin (K := fun z => K (putT o.dst (.v z) t) σ) h2 ru rv)
  · exact fin (run_hbin (K := fun z => K (putT o.dst (.v z) t) σ) h2 ru rv)
  · rename_i hu
    obtain ⟨p, rfl, h3⟩ := castBool_some h2
    obtain ⟨q, rfl, h4⟩ := castBool_some h3
    have hx := rel_bool ru
    have hy := rel_bool rv
    refine fin (run_heq (K := fun z => K (putT o.dst (.v z) t) σ) h4 (fun w => by rw [hx, hy]; exact run_eqGuard_bool) (fun w => ?_) (fun w => ?_))
    · rw [hx, hy]; simp [binOp, Op.equal, Op.maxDepth, run_equalIn_bool' w _ ty _ _ hu]
    · rw [hx, hy]; simp [binOp, Op.equal, Op.maxDepth, run_equalIn_bool' w _ ty _ _ hu]
  · rename_i fs hu
    cases hok : eqOk E.P ty with
    | false => rw [hok] at h2; cases h2
    | true =>
      rw [hok, cond_true] at h2
      obtain ⟨cs, rfl, h3⟩ := castAgg_some h2
      obtain ⟨ds, rfl, h4⟩ := castAgg_some h3
      obtain ⟨b, hb, h5⟩ := Option.bind_eq_some_iff.1 h4
      obtain ⟨xs, hx, rx⟩ := rel_aggC ru
      obtain ⟨ys, hy, ry⟩ := rel_aggC rv
      simp only [eqOk, Bool.and_eq_true, Bool.not_eq_true'] at hok
      have hf : E.P.fieldsOf ty = fs := by simp [Program.fieldsOf, hu]
      have hrun : ∀ w, (Op.equalIn 10000 ty (.agg xs) (.agg ys)).run E.P w = .ok b w := by
        intro w
        rw [run_equalIn_struct w 9999 ty xs ys (by rw [hf]; exact hu) hok.2, hf]
        exact run_eqFields rx ry _ 0 b (by simpa using hb)
      refine fin (run_heq (K := fun z => K (putT o.dst (.v z) t) σ) h5 (fun w => by rw [hx, hy]; exact run_eqGuard_agg w _ _ _ _ _ _ hok.1) (fun w => ?_) (fun w => ?_))
      · rw [hx, hy, run_eql_struct, hrun]; rfl
      · rw [hx, hy, run_neq_struct, hrun]; rfl
  · rename_i e hu
    split at h2
    · obtain ⟨b, hb, h3⟩ := Option.bind_eq_some_iff.1 h2
      have hy : a.eval y = .slice none 0 0 := by generalize a.eval y = yy at rv; cases rv; rfl
      have hrun := fun w => run_nilS (P := E.P) (w := w) hu hb ru
      have hs : ∃ A n c, a.eval x = .slice A n c := by
        generalize a.eval x = xx at ru
        cases ru <;> simp [nilS] at hb <;> exact ⟨_, _, _, rfl⟩
      obtain ⟨A, n, c, hs⟩ := hs
      refine fin (run_heq (K := fun z => K (putT o.dst (.v z) t) σ) h3 (fun w => ?_) (fun w => ?_) (fun w => ?_))
      · rw [hs, hy]; unfold eqGuard; split <;> rfl
      · rw [hy]; rw [hs] at hrun ⊢; simp [binOp, hrun]
      · rw [hy]; rw [hs] at hrun ⊢; simp [binOp, hrun]
    · cases h2
  · rename_i e hu
    split at h2
    · obtain ⟨b, hb, h3⟩ := Option.bind_eq_some_iff.1 h2
      have hy : a.eval y = .pointer none := by generalize a.eval y = yy at rv; cases rv; rfl
      have hrun := fun w => run_nilP (P := E.P) (w := w) hu hb ru
      have hs : ∃ A, a.eval x = .pointer A := by
        generalize a.eval x = xx at ru
        cases ru <;> simp [nilP] at hb <;> exact ⟨_, rfl⟩
      obtain ⟨A, hs⟩ := hs
      refine fin (run_heq (K := fun z => K (putT o.dst (.v z) t) σ) h3 (fun w => ?_) (fun w => ?_) (fun w => ?_))
      · rw [hs, hy]; unfold eqGuard; split <;> rfl
      · rw [hy]; rw [hs] at hrun ⊢; simp [binOp, hrun]
      · rw [hy]; rw [hs] at hrun ⊢; simp [binOp, hrun]
    · cases h2
  · rename_i ms hu
    split at h2
    · cases hcst : isConst y with
      | false => rw [hcst] at h2; cases h2
      | true =>
        rw [hcst, cond_true] at h2
        obtain ⟨b, hb, h3⟩ := Option.bind_eq_some_iff.1 h2
        have hy : a.eval y = .nilIface := by generalize a.eval y = yy at rv; cases rv; rfl
        have hrun := fun w => run_nilI (P := E.P) (w := w) hu hb ru
        have hs : a.eval x = .nilIface ∨ ∃ q z, a.eval x = .iface q z := by
          generalize a.eval x = xx at ru
          cases ru <;> simp [nilI] at hb
          · exact .inr ⟨_, _, rfl⟩
          · exact .inl rfl
        refine fin (run_heq (K := fun z => K (putT o.dst (.v z) t) σ) h3 (fun w => ?_) (fun w => ?_) (fun w => ?_))
        · rw [hy]
          unfold eqGuard
          rcases hs with hs | ⟨q, z, hs⟩ <;> rw [hs]
          · cases y with
            | const c => split <;> first | rfl | (simp)
            | _ => cases hcst
          · split <;> rfl
        · rw [hy]; rcases hs with hs | ⟨q, z, hs⟩ <;> rw [hs] at hrun ⊢ <;> simp [binOp, hrun]
        · rw [hy]; rcases hs with hs | ⟨q, z, hs⟩ <;> rw [hs] at hrun ⊢ <;> simp [binOp, hrun]
    · cases h2
  · cases h2

theorem pure_convert {S : World → Prop} (st : St C μ β t σ a w) {src dst : TypeId} {x : Operand} (ho : o.op = .convert src dst x) (hs : isSlice E.P src = false) (h : hop E o t σ K = some r) : PureStep E o t σ μ β K r a w S := by
  simp only [hop, ho, hs, cond_false] at h
  obtain ⟨u, h1, ru⟩ := evV_some st h
  split at h1
  · rename_i s k k' n hs hd
    have hx := rel_int ru
    refine pure_v (Rel.int _ _) h1 (fun w' _ => ?_)
    simp [execOp, ho, hx, convert, run_underlying hs, run_underlying hd, Conv.intToInt]
  · rename_i s b hs hd
    have hx := rel_str ru
    refine pure_v (Rel.str _) h1 (fun w' _ => ?_)
    simp [execOp, ho, hx, convert, run_underlying hs, run_underlying hd]
  · cases h1

theorem pure_makeInterface {S : World → Prop} (st : St C μ β t σ a w) {ty : TypeId} {x : Operand} (ho : o.op = .makeInterface ty x) (h : hop E o t σ K = some r) : PureStep E o t σ μ β K r a w S := by
  simp only [hop, ho] at h
  split at h
  · cases h
  · rename_i d hno hd
    obtain ⟨u, h1, ru⟩ := evV_some st h
    refine pure_v (Rel.iface ru) h1 (fun w' _ => ?_)
    simp only [execOp, ho, Instr.makeInterface, Sem.run_bind, run_underlying hd, Result.andThen_ok]
    cases d <;> first | rfl | exact absurd rfl (hno _)
  · cases h

/-- The text of bytes, as the model reads it. -/
theorem bytes_loop {P : Program} (f : Value → ByteArray → Sem (ForInStep ByteArray)) (hf : ∀ n s w, (f (.int .u8 n) s).run P w = .ok (.yield (s.push (UInt8.ofNat n.toNat))) w) :
    ∀ (cs : List V) (vs : List Value) (s out : ByteArray), RelC μ cs vs → bytesOf cs s = some out → (forIn vs s f).run P w = .ok out w
  | [], [], s, out, _, h => by simp [bytesOf] at h; subst h; rfl
  | [], _ :: _, _, _, h, _ => by have := h.1; simp at this
  | _ :: _, [], _, _, h, _ => by have := h.1; simp at this
  | c :: cs, v :: vs, s, out, hr, h => by
    unfold bytesOf at h
    split at h
    · exact absurd ‹c :: cs = []› (by simp)
    · rename_i n cs' _ heq
      injection heq with h1 h2
      subst h1 h2
      have hv := rel_int (hr.2 0 _ _ rfl rfl).1
      subst hv
      simp only [List.forIn_cons, Sem.run_bind, hf, Result.andThen_ok]
      exact bytes_loop f hf _ vs _ out ⟨by have := hr.1; simpa using this, fun i x y hx hy => hr.2 (i + 1) x y (by simpa using hx) (by simpa using hy)⟩ h
    · cases h

theorem pure_makeFunc {S : World → Prop} (st : St C μ β t σ a w) {f : FuncId} {first captured : Array Operand} (ho : o.op = .makeFunc (.func f) first captured) (h : hop E o t σ K = some r) : PureStep E o t σ μ β K r a w S := by
  simp only [hop, ho] at h
  split at h
  · rename_i h0
    obtain ⟨cs, h1, rc⟩ := evs_some st h
    have hf : first = #[] := Array.eq_empty_of_size_eq_zero h0
    refine pure_v (y := .func (.func f) #[] (captured.map a.eval)) ?_ h1 (fun w' _ => by simp [execOp, ho, hf, Instr.makeFunc])
    refine Rel.fn (by simpa using rc.1) (fun i u v hu hv => rc.2 i u v hu ?_)
    simpa using hv
  · cases h

theorem pure_indexAddr {S : World → Prop} (st : St C μ β t σ a w) {ty : TypeId} {x i : Operand} (ho : o.op = .indexAddr ty x i) (h : hop E o t σ K = some r) : PureStep E o t σ μ β K r a w S := by
  simp only [hop, ho] at h
  split at h
  · rename_i n e hu
    obtain ⟨sz, hsz, h⟩ := Option.bind_eq_some_iff.1 h
    obtain ⟨ii, hi, hn⟩ := esize_some hsz
    obtain ⟨u, h1, ru⟩ := evV_some st h
    obtain ⟨v, h2, rv⟩ := evV_some st h1
    obtain ⟨q, off, rfl, h3⟩ := castPtr_some h2
    obtain ⟨ik, m, rfl, h4⟩ := castIdx_some h3
    have hy := rel_int rv
    split at h4
    · rename_i hb
      generalize hx : a.eval x = z at ru
      cases ru with
      | ptr hm =>
        rename_i L
        have := Rel.ptr (μ := μ) (off := off + m.toNat * sz) hm
        refine pure_v this h4 (fun w' _ => ?_)
        simp [execOp, ho, hx, hy, Instr.indexAt, Instr.sureAddr, asIntOf, run_underlying hu, hb, sizeOf, typeInfo, hi, hn, Addr.add_mid, Nat.add_assoc]
    · cases h4
  obtain ⟨e, he, h⟩ := Option.bind_eq_some_iff.1 h
  obtain ⟨sz, hsz, h⟩ := Option.bind_eq_some_iff.1 h
  have hu := elemT_some he
  obtain ⟨ii, hi, hn⟩ := esize_some hsz
  obtain ⟨u, h1, ru⟩ := evV_some st h
  obtain ⟨v, h2, rv⟩ := evV_some st h1
  obtain ⟨ik, n, rfl, h3⟩ := castIdx_some h2
  obtain ⟨p, hp, h4⟩ := Option.bind_eq_some_iff.1 h3
  have hy := rel_int rv
  unfold vidx at hp
  split at hp
  · split at hp
    · rename_i q off len lim hb
      injection hp with hp
      subst hp
      generalize hx : a.eval x = z at ru
      cases ru with
      | sl hm hlc hcap hlim =>
        rename_i L
        have := Rel.ptr (μ := μ) (off := off + n.toNat * sz) hm
        refine pure_v this h4 (fun w' _ => ?_)
        simp [execOp, ho, hx, hy, Instr.indexAt, asIntOf, run_underlying hu, hb, sizeOf, typeInfo, hi, hn, Addr.add_mid, Nat.add_assoc]
    · cases hp
  · cases hp

theorem pure_index {S : World → Prop} (st : St C μ β t σ a w) {ty : TypeId} {x i : Operand} (ho : o.op = .index ty x i) (h : hop E o t σ K = some r) : PureStep E o t σ μ β K r a w S := by
  simp only [hop, ho] at h
  split at h
  · rename_i hu
    obtain ⟨u, h1, ru⟩ := evV_some st h
    obtain ⟨v, h2, rv⟩ := evV_some st h1
    obtain ⟨s, rfl, h3⟩ := castStr_some h2
    obtain ⟨ik, n, rfl, h4⟩ := castIdx_some h3
    obtain ⟨b, hb, h5⟩ := Option.bind_eq_some_iff.1 h4
    have hx := rel_str ru
    have hy := rel_int rv
    unfold sbyte at hb
    split at hb
    · rename_i c hc
      injection hb with hb
      refine pure_v (Rel.int _ _) h5 (fun w' _ => ?_)
      simp [execOp, ho, hx, hy, Instr.index, asIntOf, run_underlying hu, hc, hb]
    · cases hb
  · rename_i n e hu
    obtain ⟨sz, hsz, h⟩ := Option.bind_eq_some_iff.1 h
    obtain ⟨ii, hi, hn⟩ := esize_some hsz
    obtain ⟨ag, hag0, h0⟩ := Option.bind_eq_some_iff.1 h
    have hag := aggOf_run hag0
    clear h
    split at h0
    · rename_i hc0
      obtain ⟨rfl, rfl⟩ := hc0
      obtain ⟨u, h1, ru⟩ := evV_some st h0
      obtain ⟨v, h2, rv⟩ := evV_some st h1
      obtain ⟨cs, rfl, h3⟩ := castAgg_some h2
      obtain ⟨ik, m, rfl, h4⟩ := castIdx_some h3
      obtain ⟨c, hc, h5⟩ := Option.bind_eq_some_iff.1 h4
      have hy := rel_int rv
      unfold aidx at hc
      split at hc
      · rename_i hb
        generalize hx : a.eval x = z at ru
        cases ru with
        | agg hl hr h1c =>
          rename_i vs
          have hlt : m.toNat < vs.size := by
            have := (List.getElem?_eq_some_iff.1 hc).1
            omega
          refine pure_v (y := vs[m.toNat]) (hr _ _ _ hc (Array.getElem?_eq_getElem hlt)) h5 (fun w' _ => ?_)
          simp [execOp, ho, hx, hy, Instr.index, asIntOf, run_underlying hu, hb, sizeOf, typeInfo, hi, hn, part, hag, hlt]
      · cases hc
    · cases h0
  · cases h
end ops
end Go.HM
