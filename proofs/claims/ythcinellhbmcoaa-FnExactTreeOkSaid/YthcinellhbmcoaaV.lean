/- What the reference asks of a function and of the module's size. -/
import Derived.Test.YthcinellhbmcoaaU
set_option linter.unusedVariables false
set_option linter.unusedSimpArgs false
namespace Go.X3
open Go.HM Go.Proofs
def FunOk (f : TreeFun) : Prop := IsName f.name ∧ f.args.length ≤ 4 ∧ IsType f.type ∧ Right f.body ∧ (∀ x, x ∈ f.args → IsType x.type) ∧ AllNames (f.args.map (·.name))
noncomputable instance (f : TreeFun) : Decidable (FunOk f) := Classical.propDecidable _
/-- The sizes, as they come. -/
def sizesOk : Nat → List TreeExpr → Prop
  | _, [] => True
  | n, e :: es => n + e.many ≤ 150 ∧ e.deep ≤ 16 ∧ sizesOk (n + e.many) es
noncomputable instance (n : Nat) (l : List TreeExpr) : Decidable (sizesOk n l) := Classical.propDecidable _
theorem l2Size_runs {σ : Heap} {m : TreeMod} (ht : m.total ≤ 1048576) {cs : List V} (hr : TreeMod.Rep σ cs m) : Runs G n_spec_l2Size [.agg cs] σ (.bool (decide (sizesOk 0 (bodies m)))) σ := by
  have hl1 : m.funs.length ≤ 1048576 := by rw [TreeMod.total_eq] at ht; omega
  have hl2 : m.main.length ≤ 1048576 := by rw [TreeMod.total_eq] at ht; omega
  have hb : ∀ x, x ∈ bodies m → x.total ≤ 1048576 := by
    intro x hx
    rw [TreeMod.total_eq] at ht
    rcases List.mem_append.1 hx with h | h
    · obtain ⟨f, hf, rfl⟩ := List.mem_map.1 h
      have h1 := totS_mem TreeFun.total hf
      rw [TreeFun.total_eq f] at h1
      omega
    · have := totS_mem TreeExpr.total h
      omega
  cases hr with
  | mk h0 h1 h2 =>
  rename_i a0 a1 a2
  have hlen : (bodies m).length = m.funs.length + m.main.length := by simp [bodies]
  have hw0 : IntKind.wrap .i64 ((m.funs.length : Int) + (m.main.length : Int)) = (((bodies m).length : Nat) : Int) := by rw [wrap_id (by omega) (by omega), hlen]; omega
  obtain ⟨w, σ', ⟨rfl, rfl⟩, he⟩ := loop (L := spec_l2Size.L0) (A := spec_l2Size.A0) (S := Nat × Nat)
    (Inv := fun s => s.1 ≤ (bodies m).length ∧ s.2 ≤ 150 ∧ (sizesOk 0 (bodies m) ↔ sizesOk s.2 ((bodies m).drop s.1))) (Good := fun w σ' => σ' = σ ∧ w = .bool (decide (sizesOk 0 (bodies m))))
    (vals := fun s => [.box [a0, a1, a2], .v (.int .i64 (s.2 : Int)), .v (.int .i64 (s.1 : Int))]) (hp := fun s => σ) (far := fun s => (bodies m).length - s.1) (fun ⟨i, n⟩ ⟨hi, hn, hok⟩ => by
      simp only at hi hn hok ⊢
      by_cases hlt : i < (bodies m).length
      · have hd : (bodies m).drop i = (bodies m)[i] :: (bodies m).drop (i + 1) := List.drop_eq_getElem_cons hlt
        have hm := hb _ (List.getElem_mem hlt)
        have hmem := TreeExpr.many_le (bodies m)[i]
        have hw : IntKind.wrap .i64 ((i : Int) + 1) = ((i + 1 : Nat) : Int) := wrap_id (by omega) (by omega)
        by_cases hf : i < m.funs.length
        · obtain ⟨r, o, hv, cs, hr, hP⟩ := h1.at hf
          have he : (bodies m)[i] = m.funs[i].body := by simp [bodies, List.getElem_append_left, hf]
          have hr4 := rdc_sub hr 4 5 (by omega)
          rw [he] at hd hm hmem
          generalize m.funs[i] = fn at hP hd hm hmem
          cases hP with
          | mk q0 q1 =>
          have c := specTreeNodes_runs (σ := σ) fn.body hm (.mk q1)
          generalize hx : fn.body = x at hd hm hmem c hr4
          have hr5 : rdc σ r (o + 4) 5 = some [.int .i64 x.kind, .int .i64 x.num, .str x.name, .str x.mod, _] := hr4
          have hlf : (i : Int) < (m.funs.length : Int) := by omega
          have hlb : (i : Int) < (((bodies m).length : Nat) : Int) := by omega
          have hw1 : IntKind.wrap .i64 ((n : Int) + (x.many : Int)) = ((n + x.many : Nat) : Int) := by rw [wrap_id (by omega) (by omega)]; omega
          by_cases g1 : n + x.many ≤ 150
          · have g1' : ¬ (150 : Int) < ((n + x.many : Nat) : Int) := by omega
            by_cases g2 : x.deep ≤ 16
            · have g2' : ¬ (16 : Int) < (x.deep : Int) := by omega
              refine .inr ⟨(i + 1, n + x.many), ⟨hlt, g1, ?_⟩, by simp only; omega, c.mono fun k e1 m' => ?_⟩
              · rw [hok, hd]; simp [sizesOk, g1, g2]
              · rw [spec_l2Size.L0_step, h1.vlen, h2.vlen]
                simp only [Option.bind_some, hw0, hlb, hlf, hv, hr5, e1, uncons_cons, castInt_int, castStr_str, castBool_bool, isNil_nil, castTuple_tuple, hw1, g1', g2', decide_false, cond_false, decide_true, cond_true, hw]
            · have g2' : (16 : Int) < (x.deep : Int) := by omega
              have hno : ¬ sizesOk 0 (bodies m) := by rw [hok, hd]; simp [sizesOk, g2]
              refine .inl ⟨_, σ, ⟨rfl, rfl⟩, c.mono fun k e1 m' => ?_⟩
              rw [spec_l2Size.L0_step, h1.vlen, h2.vlen]
              simp only [Option.bind_some, hw0, hlb, hlf, hv, hr5, e1, uncons_cons, castInt_int, castStr_str, castBool_bool, isNil_nil, castTuple_tuple, hw1, g1', g2', decide_false, cond_false, decide_true, cond_true, spec_l2Size.A0_ret, hno]
          · have g1' : (150 : Int) < ((n + x.many : Nat) : Int) := by omega
            have hno : ¬ sizesOk 0 (bodies m) := by rw [hok, hd]; simp [sizesOk, g1]
            refine .inl ⟨_, σ, ⟨rfl, rfl⟩, c.mono fun k e1 m' => ?_⟩
            rw [spec_l2Size.L0_step, h1.vlen, h2.vlen]
            simp only [Option.bind_some, hw0, hlb, hlf, hv, hr5, e1, uncons_cons, castInt_int, castStr_str, castBool_bool, isNil_nil, castTuple_tuple, hw1, g1', decide_false, cond_false, decide_true, cond_true, spec_l2Size.A0_ret, hno]
        · have hi2 : i - m.funs.length < m.main.length := by omega
          obtain ⟨r, o, hv, cs, hr, hP⟩ := h2.at hi2
          have he : (bodies m)[i] = m.main[i - m.funs.length] := by
            simp only [bodies]
            rw [List.getElem_append_right (by rw [List.length_map]; omega)]
            simp only [List.length_map]
          rw [he] at hd hm hmem
          generalize m.main[i - m.funs.length] = x at hP hd hm hmem
          have c := specTreeNodes_runs (σ := σ) x hm hP
          cases hP with
          | mk q1 =>
          have hlf : ¬ (i : Int) < (m.funs.length : Int) := by omega
          have hlb : (i : Int) < (((bodies m).length : Nat) : Int) := by omega
          have hws : IntKind.wrap .i64 ((i : Int) - (m.funs.length : Int)) = ((i - m.funs.length : Nat) : Int) := by rw [wrap_id (by omega) (by omega)]; omega
          have hw1 : IntKind.wrap .i64 ((n : Int) + (x.many : Int)) = ((n + x.many : Nat) : Int) := by rw [wrap_id (by omega) (by omega)]; omega
          by_cases g1 : n + x.many ≤ 150
          · have g1' : ¬ (150 : Int) < ((n + x.many : Nat) : Int) := by omega
            by_cases g2 : x.deep ≤ 16
            · have g2' : ¬ (16 : Int) < (x.deep : Int) := by omega
              refine .inr ⟨(i + 1, n + x.many), ⟨hlt, g1, ?_⟩, by simp only; omega, c.mono fun k e1 m' => ?_⟩
              · rw [hok, hd]; simp [sizesOk, g1, g2]
              · rw [spec_l2Size.L0_step, h1.vlen, h2.vlen]
                simp only [Option.bind_some, hw0, hlb, hlf, hws, hv, hr, e1, uncons_cons, castInt_int, castStr_str, castBool_bool, isNil_nil, castTuple_tuple, hw1, g1', g2', decide_false, cond_false, decide_true, cond_true, hw]
            · have g2' : (16 : Int) < (x.deep : Int) := by omega
              have hno : ¬ sizesOk 0 (bodies m) := by rw [hok, hd]; simp [sizesOk, g2]
              refine .inl ⟨_, σ, ⟨rfl, rfl⟩, c.mono fun k e1 m' => ?_⟩
              rw [spec_l2Size.L0_step, h1.vlen, h2.vlen]
              simp only [Option.bind_some, hw0, hlb, hlf, hws, hv, hr, e1, uncons_cons, castInt_int, castStr_str, castBool_bool, isNil_nil, castTuple_tuple, hw1, g1', g2', decide_false, cond_false, decide_true, cond_true, spec_l2Size.A0_ret, hno]
          · have g1' : (150 : Int) < ((n + x.many : Nat) : Int) := by omega
            have hno : ¬ sizesOk 0 (bodies m) := by rw [hok, hd]; simp [sizesOk, g1]
            refine .inl ⟨_, σ, ⟨rfl, rfl⟩, c.mono fun k e1 m' => ?_⟩
            rw [spec_l2Size.L0_step, h1.vlen, h2.vlen]
            simp only [Option.bind_some, hw0, hlb, hlf, hws, hv, hr, e1, uncons_cons, castInt_int, castStr_str, castBool_bool, isNil_nil, castTuple_tuple, hw1, g1', decide_false, cond_false, decide_true, cond_true, spec_l2Size.A0_ret, hno]
      · refine .inl ⟨_, σ, ⟨rfl, rfl⟩, Ev.now fun k m' => ?_⟩
        rw [List.drop_eq_nil_of_le (by omega)] at hok
        have : sizesOk 0 (bodies m) := hok.2 trivial
        rw [spec_l2Size.L0_step, h1.vlen, h2.vlen]
        simp only [Option.bind_some, hw0, Int.ofNat_lt, hlt, decide_false, cond_false, spec_l2Size.A0_x0]
        simp [this]) (0, 0) ⟨Nat.zero_le _, Nat.zero_le _, Iff.rfl⟩
  refine Runs.mk ((Ev.far (bodies m).length he).mono fun k ⟨e, hk⟩ => ?_)
  rw [spec_l2Size.eq]
  exact e k (by simpa using hk)
end Go.X3
