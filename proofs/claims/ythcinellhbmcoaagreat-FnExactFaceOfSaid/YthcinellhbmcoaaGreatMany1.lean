/- The contracts of this claim, laid together: part 1. -/
import Derived.Test.YthcinellhbmcoaaGreatMany0
import Derived.Test.YthcinellhbmcoaaGreatHMWp
import Derived.Test.YthcinellhbmcoaaGreatC
import Derived.Test.YthcinellhbmcoaaGreatHMOpen
/- TreeOk of the reference. -/
set_option linter.unusedVariables false
set_option linter.unusedSimpArgs false
namespace Go.Y
open Go.HM Go.Proofs
def ModOk (m : TreeMod) : Prop := m.uses.length ≤ 4 ∧ m.funs.length ≤ 8 ∧ m.main.length ≤ 1 ∧ AllNames m.uses ∧ sizesOk 0 (bodies m) ∧ (∀ f, f ∈ m.funs → FunOk f) ∧ AllNames (m.funs.map (·.name)) ∧ ∀ e, e ∈ m.main → Right e
noncomputable instance (m : TreeMod) : Decidable (ModOk m) := Classical.propDecidable _
theorem specTreeOk_gives {σ : Heap} {m : TreeMod} (hF : m.Fit) (htot : m.total ≤ 1048576) {cs : List V} (hr : TreeMod.Rep σ cs m) : Gives G n_spec_TreeOk [.agg cs] σ (.bool (decide (ModOk m))) := by
  have c2 : ∀ σ', Lh σ σ' → Runs G n_spec_l2Size [.agg cs] σ' (.bool (decide (sizesOk 0 (bodies m)))) σ' := fun σ' hl => l2Size_runs htot (TreeMod.Rep.le hl hr)
  cases hF with
  | mk f0 f1 f2 f3 f4 f5 =>
  cases hr with
  | mk h0 h1 h2 =>
  rename_i a1 a2 a3
  by_cases k1 : 4 < m.uses.length
  · refine Gives.mk (Lh.refl σ) (Ev.now fun k => ?_)
    have : ¬ ModOk m := fun h => by have := h.1; omega
    have k1' : (4 : Int) < (m.uses.length : Int) := by omega
    rw [spec_TreeOk.eq, h0.vlen]; simp only [Option.bind_some, k1', decide_true, cond_true, this, decide_false]
  by_cases k2 : 8 < m.funs.length
  · refine Gives.mk (Lh.refl σ) (Ev.now fun k => ?_)
    have : ¬ ModOk m := fun h => by have := h.2.1; omega
    have k1' : ¬ (4 : Int) < (m.uses.length : Int) := by omega
    have k2' : (8 : Int) < (m.funs.length : Int) := by omega
    rw [spec_TreeOk.eq, h0.vlen, h1.vlen]; simp only [Option.bind_some, k1', k2', decide_true, cond_true, this, decide_false, cond_false]
  by_cases k3 : 1 < m.main.length
  · refine Gives.mk (Lh.refl σ) (Ev.now fun k => ?_)
    have : ¬ ModOk m := fun h => by have := h.2.2.1; omega
    have k1' : ¬ (4 : Int) < (m.uses.length : Int) := by omega
    have k2' : ¬ (8 : Int) < (m.funs.length : Int) := by omega
    have k3' : (1 : Int) < (m.main.length : Int) := by omega
    rw [spec_TreeOk.eq, h0.vlen, h1.vlen, h2.vlen]; simp only [Option.bind_some, k1', k2', k3', decide_true, cond_true, this, decide_false, cond_false]
  have k1' : ¬ (4 : Int) < (m.uses.length : Int) := by omega
  have k2' : ¬ (8 : Int) < (m.funs.length : Int) := by omega
  have k3' : ¬ (1 : Int) < (m.main.length : Int) := by omega
  obtain ⟨σ1, l1, c1⟩ := l2Uses_gives σ h0 f0 f1
  by_cases hU : AllNames m.uses
  rotate_left
  · refine Gives.mk l1 (c1.mono fun k e1 => ?_)
    have : ¬ ModOk m := fun h => hU h.2.2.2.1
    rw [spec_TreeOk.eq, h0.vlen, h1.vlen, h2.vlen]; simp only [Option.bind_some, k1', k2', k3', decide_false, cond_false, e1, castBool_bool, hU, Bool.not_false, cond_true, this]
  have c2' := c2 σ1 l1
  by_cases hS : sizesOk 0 (bodies m)
  rotate_left
  · refine Gives.mk l1 ((c1.and c2').mono fun k ⟨e1, e2⟩ => ?_)
    have : ¬ ModOk m := fun h => hS h.2.2.2.2.1
    rw [spec_TreeOk.eq, h0.vlen, h1.vlen, h2.vlen]; simp only [Option.bind_some, k1', k2', k3', decide_false, cond_false, e1, castBool_bool, hU, decide_true, Bool.not_true, e2, hS, Bool.not_false, cond_true, this]
  obtain ⟨w, σ', ⟨hl, rfl⟩, he⟩ := loop (L := spec_TreeOk.L0) (A := spec_TreeOk.A0) (S := Nat × V × Heap)
    (Inv := fun s => s.1 ≤ m.funs.length ∧ Lh σ1 s.2.2 ∧ Grown σ1.length 1 StrRep s.2.2 s.2.1 ((m.funs.take s.1).map (·.name)) ∧ ∀ f, f ∈ m.funs.take s.1 → FunOk f) (Good := fun w σ' => Lh σ σ' ∧ w = .bool (decide (ModOk m)))
    (vals := fun s => [.box [a1, a2, a3], .v s.2.1, .v (.int .i64 (s.1 : Int))]) (hp := fun s => s.2.2) (far := fun s => m.funs.length - s.1) (fun ⟨i, u, σi⟩ ⟨hi, hle, hg, hok⟩ => by
      simp only at hi hle hg hok ⊢
      have hle0 := l1.trans hle
      by_cases hlt : i < m.funs.length
      · obtain ⟨r, o, hv, cs, hr, hP⟩ := h1.at hlt
        have hm : m.funs[i] ∈ m.funs := List.getElem_mem hlt
        have hfit := f3 _ hm
        have ht := take_next hlt
        have hw : IntKind.wrap .i64 ((i : Int) + 1) = ((i + 1 : Nat) : Int) := wrap_id (by omega) (by omega)
        have hli : ((m.funs.take i).map (·.name)).length ≤ 8 := by rw [List.length_map, List.length_take]; omega
        generalize m.funs[i] = x at hP ht hm hfit
        obtain ⟨u', σ2, ha, hg', hk⟩ := hg.app (bytes := 16) (Chunks.one (P := StrRep) (cs := [.str x.name]) (x := x.name) rfl) (by simp only [List.length_singleton]; omega) (by simp only [List.length_singleton]; omega)
        have ha' : vappend 1 16 σi u 1 [.str x.name] = some (u', σ2) := ha
        have hl2 := hk σ1 (Nat.le_refl _) hle
        have hl3 := l1.trans hl2
        obtain ⟨σ3, l3, c3⟩ := l2Fun_gives hfit (TreeFun.Rep.le hl3 hP)
        have g1 := rdc_sub (hle0.rdc hr) 0 1 (by omega)
        have g2 := hl3.rdc hr
        cases hP with
        | mk q0 q1 =>
        have g1' : rdc σi r (o + 0) 1 = some [.str x.name] := g1
        by_cases hFk : FunOk x
        · refine .inr ⟨(i + 1, u', σ3), ⟨hlt, hl2.trans l3, ?_, fun y hy => ?_⟩, by simp only; omega, c3.mono fun k e3 m => ?_⟩
          · simp only
            rw [ht, List.map_append]
            exact hg'.le l3
          · rw [ht] at hy
            rcases List.mem_append.1 hy with h | h
            · exact hok y h
            · simp at h; rw [h]; exact hFk
          · rw [spec_TreeOk.L0_step, h1.vlen]
            simp only [Option.bind_some, Int.ofNat_lt, hlt, decide_true, cond_true, hv, g1', ha', g2, uncons_cons, castStr_str, castBool_bool, castInt_int, isNil_nil, e3, hFk, Bool.not_true, cond_false, hw]
        · refine .inl ⟨_, σ3, ⟨hl3.trans l3, rfl⟩, c3.mono fun k e3 m' => ?_⟩
          have : ¬ ModOk m := fun h => hFk (h.2.2.2.2.2.1 _ hm)
          rw [spec_TreeOk.L0_step, h1.vlen]
          simp only [Option.bind_some, Int.ofNat_lt, hlt, decide_true, cond_true, hv, g1', ha', g2, uncons_cons, castStr_str, castBool_bool, castInt_int, isNil_nil, e3, hFk, decide_false, Bool.not_false, spec_TreeOk.A0_ret, this]
      · rw [List.take_of_length_le (by omega)] at hg hok
        have hR : RepS 1 StrRep σi u (m.funs.map (·.name)) := hg.rep fun cs x _ h => h
        obtain ⟨σ2, l2, c4⟩ := l2Uses_gives σi hR (by rw [List.length_map]; omega) (fun x hx => by
          obtain ⟨f, hf, rfl⟩ := List.mem_map.1 hx
          have := f3 f hf
          cases this with | mk g0 => exact g0)
        have hlt' : ¬ (i : Int) < (m.funs.length : Int) := by omega
        by_cases hN : AllNames (m.funs.map (·.name))
        rotate_left
        · refine .inl ⟨_, σ2, ⟨hle0.trans l2, rfl⟩, c4.mono fun k e4 m' => ?_⟩
          have : ¬ ModOk m := fun h => hN h.2.2.2.2.2.2.1
          rw [spec_TreeOk.L0_step, h1.vlen]
          simp only [Option.bind_some, hlt', decide_false, cond_false, spec_TreeOk.A0_x0, e4, castBool_bool, hN, this]
        by_cases hm0 : m.main.length = 0
        · refine .inl ⟨_, σ2, ⟨hle0.trans l2, rfl⟩, c4.mono fun k e4 m' => ?_⟩
          have hnil : m.main = [] := List.length_eq_zero_iff.1 hm0
          have : ModOk m := ⟨by omega, by omega, by omega, hU, hS, hok, hN, fun e he => by rw [hnil] at he; cases he⟩
          have hm0' : (m.main.length : Int) = 0 := by omega
          rw [spec_TreeOk.L0_step, h1.vlen]
          simp only [Option.bind_some, hlt', decide_false, cond_false, spec_TreeOk.A0_x0, e4, castBool_bool, hN, decide_true, cond_true, h2.vlen, hm0', this]
        · have h0l : 0 < m.main.length := by omega
          have l02 := hle0.trans l2
          obtain ⟨r, o, hv, cs, hr, hP⟩ := h2.at h0l
          obtain ⟨σ3, l3, c5⟩ := l2Expr_gives m.main[0] (f5 _ (List.getElem_mem h0l)) (σ := σ2) (TreeExpr.Rep.le l02 _ hP)
          have hr2 := l02.rdc hr
          have hall : (∀ e, e ∈ m.main → Right e) ↔ Right m.main[0] := by
            constructor
            · intro h; exact h _ (List.getElem_mem h0l)
            · intro h e he
              obtain ⟨j, hj, rfl⟩ := List.getElem_of_mem he
              have : j = 0 := by omega
              subst this
              exact h
          have hmk : ModOk m ↔ Right m.main[0] := ⟨fun h => hall.1 h.2.2.2.2.2.2.2, fun h => ⟨by omega, by omega, by omega, hU, hS, hok, hN, hall.2 h⟩⟩
          have hdec : decide (ModOk m) = decide (Right m.main[0]) := by simp [hmk]
          rw [hdec]
          generalize m.main[0] = x at hP c5
          cases hP with
          | mk q =>
          refine .inl ⟨_, σ3, ⟨l02.trans l3, rfl⟩, (c4.and c5).mono fun k ⟨e4, e5⟩ m' => ?_⟩
          have hm0' : ¬ (m.main.length : Int) = 0 := by omega
          have hv' : vidx 5 a3 0 = some (r, o) := hv
          rw [spec_TreeOk.L0_step, h1.vlen]
          simp only [Option.bind_some, hlt', decide_false, cond_false, spec_TreeOk.A0_x0, e4, castBool_bool, hN, decide_true, cond_true, h2.vlen, hm0', hv', hr2, uncons_cons, castInt_int, castStr_str, isNil_nil, e5]) (0, .sl σ1.length 0 0 true, hnew σ1 1 []) ⟨Nat.zero_le _, Lh.new _ _ _, Grown.start σ1 1 StrRep true, fun f hf => by simp at hf⟩
  refine Gives.mk hl ((Ev.and c1 (Ev.and c2' (Ev.far m.funs.length he))).mono fun k ⟨e1, e2, e3, hk⟩ => ?_)
  rw [spec_TreeOk.eq, h0.vlen, h1.vlen, h2.vlen]; simp only [Option.bind_some, k1', k2', k3', decide_false, cond_false, e1, castBool_bool, hU, decide_true, Bool.not_true, e2, hS]
  exact e3 k (by simpa using hk)
end Go.Y

/- TreeOk of the program (begun: modOk_iff builds). -/
set_option linter.unusedVariables false
set_option linter.unusedSimpArgs false
namespace Go.Y
open Go.HM Go.Proofs
/-- What the program asks of a function before it looks at bodies. -/
def HeadOk (f : TreeFun) : Prop := f.args.length ≤ 4 ∧ AllNames (f.args.map (·.name)) ∧ IsType f.type ∧ ∀ x, x ∈ f.args → IsType x.type
theorem modOk_iff (m : TreeMod) : ModOk m ↔ m.uses.length ≤ 4 ∧ m.funs.length ≤ 8 ∧ m.main.length ≤ 1 ∧ AllNames m.uses ∧ (∀ f, f ∈ m.funs → HeadOk f) ∧ sizesOk 0 (bodies m) ∧ (∀ e, e ∈ bodies m → Right e) ∧ AllNames (m.funs.map (·.name)) := by
  constructor
  · rintro ⟨h1, h2, h3, h4, h5, h6, h7, h8⟩
    refine ⟨h1, h2, h3, h4, fun f hf => ⟨(h6 f hf).2.1, (h6 f hf).2.2.2.2.2, (h6 f hf).2.2.1, (h6 f hf).2.2.2.2.1⟩, h5, fun e he => ?_, h7⟩
    rcases List.mem_append.1 he with h | h
    · obtain ⟨f, hf, rfl⟩ := List.mem_map.1 h
      exact (h6 f hf).2.2.2.1
    · exact h8 e h
  · rintro ⟨h1, h2, h3, h4, h5, h6, h7, h8⟩
    exact ⟨h1, h2, h3, h4, h6, fun f hf => ⟨h8.1 _ (List.mem_map.2 ⟨f, hf, rfl⟩), (h5 f hf).1, (h5 f hf).2.2.1, h7 _ (List.mem_append.2 (.inl (List.mem_map.2 ⟨f, hf, rfl⟩))), (h5 f hf).2.2.2, (h5 f hf).2.1⟩, h8, fun e he => h7 e (List.mem_append.2 (.inr he))⟩
/-- The first loop's test of one function. -/
theorem headOk_step {σ : Heap} {f : TreeFun} (hF : f.Fit) (ht : f.total ≤ 1048576) {v : V} (h : RepS 2 (TreeArg.Rep σ) σ v f.args) (hlen : f.args.length ≤ 4) :
    ∃ v1 σ1 σ2 σ3 b, Lh σ σ1 ∧ Lh σ1 σ2 ∧ Lh σ2 σ3 ∧ Runs G n_impl_argNames [v] σ v1 σ1 ∧ Runs G n_impl_areNames [v1] σ1 (.bool (decide (AllNames (f.args.map (·.name))))) σ2 ∧
      Runs G n_slices_ContainsFunc_impl_TreeArg_impl_TreeArg [v, .fn n_impl_TreeOk_1 []] σ2 (.bool b) σ3 ∧ (b = false ↔ ∀ x, x ∈ f.args → IsType x.type) := by
  obtain ⟨v1, σ1, l1, r1, c1⟩ := argNames_runs (by omega) h
  cases hF with
  | mk f0 f1 f2 f3 f4 =>
  obtain ⟨σ2, l2, c2⟩ := areNames_gives σ1 r1 (by rw [List.length_map]; omega) (fun x hx => by
    obtain ⟨a, ha, rfl⟩ := List.mem_map.1 hx
    have := f2 a ha
    cases this with | mk g0 g1 => exact g0)
  have l12 := l1.trans l2
  obtain ⟨σ3, l3, c3⟩ := containsArg_gives (σ := σ2) f1 (h.mono l12 fun cs x _ hc => TreeArg.Rep.le l12 hc) n_impl_TreeOk_1 (fun x => ¬ IsType x.type) (fun x _ σ cs hr => treeOk1_gives x σ cs hr)
  refine ⟨v1, σ1, σ2, σ3, _, l1, l2, l3, c1, c2, c3, ?_⟩
  rw [has_false]
  exact ⟨fun h x hx => Classical.not_not.1 (h x hx), fun h x hx hc => hc (h x hx)⟩
end Go.Y

/- TreeOk of the program. -/
set_option linter.unusedVariables false
set_option linter.unusedSimpArgs false
namespace Go.Y
open Go.HM Go.Proofs
theorem sizesOk_at : ∀ (l : List TreeExpr) (n i : Nat) (x : TreeExpr), l[i]? = some x → sizesOk n l → n + totS TreeExpr.many (l.take i) + x.many ≤ 150 ∧ x.deep ≤ 16
  | y :: l, n, 0, x, hx, h => by
    simp at hx; subst hx
    exact ⟨by simpa [totS] using h.1, h.2.1⟩
  | y :: l, n, i + 1, x, hx, h => by
    have := sizesOk_at l (n + y.many) i x (by simpa using hx) h.2.2
    rw [List.take_succ_cons, totS]
    omega
theorem sizesOk_of : ∀ (l : List TreeExpr) (n : Nat), (∀ i x, l[i]? = some x → n + totS TreeExpr.many (l.take i) + x.many ≤ 150 ∧ x.deep ≤ 16) → sizesOk n l
  | [], n, h => trivial
  | y :: l, n, h => by
    have h0 := h 0 y (by simp)
    refine ⟨by simpa [totS] using h0.1, h0.2, sizesOk_of l _ fun i x hx => ?_⟩
    have := h (i + 1) x (by simpa using hx)
    rw [List.take_succ_cons, totS] at this
    omega
theorem implTreeOk_gives {σ : Heap} {m : TreeMod} (hF : m.Fit) (htot : m.total ≤ 1048576) {cs : List V} (hr : TreeMod.Rep σ cs m) : Gives G n_impl_TreeOk [.agg cs] σ (.bool (decide (ModOk m))) := by
  have htot' := htot
  rw [TreeMod.total_eq] at htot'
  have hb : ∀ x, x ∈ bodies m → x.total ≤ 1048576 := by
    intro x hx
    rcases List.mem_append.1 hx with h | h
    · obtain ⟨f, hf, rfl⟩ := List.mem_map.1 h
      have h1 := totS_mem TreeFun.total hf
      rw [TreeFun.total_eq f] at h1
      omega
    · have := totS_mem TreeExpr.total h
      omega
  have cB : ∀ σ', Lh σ σ' → _ := fun σ' hl => bodies_runs (σ := σ') (m := m) (by omega) (by omega) (TreeMod.Rep.le hl hr)
  cases hF with
  | mk f0 f1 f2 f3 f4 f5 =>
  cases hr with
  | mk h0 h1 h2 =>
  rename_i a1 a2 a3
  have hbf : ∀ x, x ∈ bodies m → x.Fit := by
    intro x hx
    rcases List.mem_append.1 hx with h | h
    · obtain ⟨f, hf, rfl⟩ := List.mem_map.1 h
      have := f3 f hf
      cases this with | mk g0 g1 g2 g3 g4 => exact g4
    · exact f5 x h
  have hno : ∀ {w : V} {σ' : Heap}, ¬ ModOk m → Lh σ σ' → w = .bool (decide (ModOk m)) ∧ Lh σ σ' ∨ True := fun _ _ => .inr trivial
  apply Gives.of
  refine W.to (fun k _ => impl_TreeOk.eq k _ _ _ _) ?_
  refine W.len h0 (W.ite (fun k1 => W.ret ⟨?_, Lh.refl σ⟩) fun k1 => ?_)
  · have : ¬ ModOk m := fun h => by have := h.1; omega
    simp [this]
  refine W.len h1 (W.ite (fun k2 => W.ret ⟨?_, Lh.refl σ⟩) fun k2 => ?_)
  · have : ¬ ModOk m := fun h => by have := h.2.1; omega
    simp [this]
  refine W.len h2 (W.ite (fun k3 => W.ret ⟨?_, Lh.refl σ⟩) fun k3 => ?_)
  · have : ¬ ModOk m := fun h => by have := h.2.2.1; omega
    simp [this]
  refine W.give (areNames_gives σ h0 f0 f1) fun σ1 l1 => ?_
  try simp only [q_bind_some, Option.bind_assoc, castInt_int, q_castBool, q_castStr, q_castPtr, q_castFn, q_castAgg, q_castTuple, q_uncons, q_isNil, q_sl, q_nils, q_emp, q_ptr, q_nilp, q_fn, q_cond_true, q_cond_false, Bool.not_true, Bool.not_false, decide_true, decide_false, castInt_bind, castBool_bind, castStr_bind, castPtr_bind, castFn_bind, castAgg_bind, castTuple_bind, uncons_bind, isNil_bind, one_bind, cond_bind, ite_bind_, List.cons_append, List.nil_append]
  by_cases hU : AllNames m.uses
  rotate_left
  · have : ¬ ModOk m := fun h => hU h.2.2.2.1
    try simp only [q_bind_some, Option.bind_assoc, castInt_int, q_castBool, q_castStr, q_castPtr, q_castFn, q_castAgg, q_castTuple, q_uncons, q_isNil, q_sl, q_nils, q_emp, q_ptr, q_nilp, q_fn, q_cond_true, q_cond_false, Bool.not_true, Bool.not_false, decide_true, decide_false, castInt_bind, castBool_bind, castStr_bind, castPtr_bind, castFn_bind, castAgg_bind, castTuple_bind, uncons_bind, isNil_bind, one_bind, cond_bind, ite_bind_, List.cons_append, List.nil_append, hU]
    exact W.ret ⟨by simp [this], l1⟩
  try simp only [q_bind_some, Option.bind_assoc, castInt_int, q_castBool, q_castStr, q_castPtr, q_castFn, q_castAgg, q_castTuple, q_uncons, q_isNil, q_sl, q_nils, q_emp, q_ptr, q_nilp, q_fn, q_cond_true, q_cond_false, Bool.not_true, Bool.not_false, decide_true, decide_false, castInt_bind, castBool_bind, castStr_bind, castPtr_bind, castFn_bind, castAgg_bind, castTuple_bind, uncons_bind, isNil_bind, one_bind, cond_bind, ite_bind_, List.cons_append, List.nil_append, hU]
  refine W.len h1 ?_
  refine W.loop (S := Nat × V × Heap) (fun s => s.1 ≤ m.funs.length ∧ Lh σ1 s.2.2 ∧ Grown σ1.length 1 StrRep s.2.2 s.2.1 ((m.funs.take s.1).map (·.name)) ∧ ∀ f, f ∈ m.funs.take s.1 → HeadOk f)
    (fun s => [.box [a1, a2, a3], .v s.2.1, .v (.int .i64 0), .v a2, .v (.int .i64 (m.funs.length : Int)), .v (.int .i64 (s.1 : Int))]) (fun s => s.2.2) (fun s => m.funs.length - s.1) (fun ⟨i, u, σi⟩ ⟨hi, hle, hg, hok⟩ => ?_)
    (0, .sl σ1.length 0 0 true, hnew σ1 1 []) ⟨Nat.zero_le _, Lh.new _ _ _, Grown.start σ1 1 StrRep true, fun f hf => by simp at hf⟩
  simp only at hi hle hg hok ⊢
  have hle0 := l1.trans hle
  refine W.to (fun k _ => by rw [impl_TreeOk.L0_step]) ?_
  try simp only [q_bind_some, Option.bind_assoc, castInt_int, q_castBool, q_castStr, q_castPtr, q_castFn, q_castAgg, q_castTuple, q_uncons, q_isNil, q_sl, q_nils, q_emp, q_ptr, q_nilp, q_fn, q_cond_true, q_cond_false, Bool.not_true, Bool.not_false, decide_true, decide_false, castInt_bind, castBool_bind, castStr_bind, castPtr_bind, castFn_bind, castAgg_bind, castTuple_bind, uncons_bind, isNil_bind, one_bind, cond_bind, ite_bind_, List.cons_append, List.nil_append]
  refine W.ite (fun hlt => ?_) fun hlt => ?_
  · refine W.at h1 hle0 (by omega) fun r o cs x hx hr hP => ?_
    have hm : x ∈ m.funs := List.mem_of_getElem? hx
    have hfit := f3 _ hm
    have ht := take_next' hx
    have hli : ((m.funs.take i).map (·.name)).length ≤ 8 := by rw [List.length_map, List.length_take]; omega
    have hxt : x.total ≤ 1048576 := by have := totS_mem TreeFun.total hm; omega
    cases hP with
    | mk q0 q1 =>
    try simp only [q_bind_some, Option.bind_assoc, castInt_int, q_castBool, q_castStr, q_castPtr, q_castFn, q_castAgg, q_castTuple, q_uncons, q_isNil, q_sl, q_nils, q_emp, q_ptr, q_nilp, q_fn, q_cond_true, q_cond_false, Bool.not_true, Bool.not_false, decide_true, decide_false, castInt_bind, castBool_bind, castStr_bind, castPtr_bind, castFn_bind, castAgg_bind, castTuple_bind, uncons_bind, isNil_bind, one_bind, cond_bind, ite_bind_, List.cons_append, List.nil_append, hr]
    refine W.app hg (Chunks.one (P := StrRep) (cs := [.str x.name]) (x := x.name) rfl) rfl (by simp only [List.length_singleton]; omega) (by simp only [List.length_singleton]; omega) fun u' σ2 hg' hk => ?_
    have hl2 := hk σ1 (Nat.le_refl _) hle
    have hl3 := l1.trans hl2
    have q0' : RepS 2 (TreeArg.Rep σ2) σ2 _ _ := q0.mono hl3 fun cs x _ h => TreeArg.Rep.le hl3 h
    refine W.len q0' (W.ite (fun k4 => ?_) fun k4 => ?_)
    · have : ¬ ModOk m := fun h => by have := ((modOk_iff m).1 h).2.2.2.2.1 x hm; have := this.1; omega
      try simp only [q_bind_some, Option.bind_assoc, castInt_int, q_castBool, q_castStr, q_castPtr, q_castFn, q_castAgg, q_castTuple, q_uncons, q_isNil, q_sl, q_nils, q_emp, q_ptr, q_nilp, q_fn, q_cond_true, q_cond_false, Bool.not_true, Bool.not_false, decide_true, decide_false, castInt_bind, castBool_bind, castStr_bind, castPtr_bind, castFn_bind, castAgg_bind, castTuple_bind, uncons_bind, isNil_bind, one_bind, cond_bind, ite_bind_, List.cons_append, List.nil_append, impl_TreeOk.A0_ret]
      exact W.ret ⟨by simp [this], hl3⟩
    obtain ⟨v1, σ3, σ4, σ5, b, l3, l4, l5, c1, c2, c3, hbt⟩ := headOk_step hfit hxt q0' (by omega)
    have hno : ¬ HeadOk x → ¬ ModOk m := fun hn h => hn (((modOk_iff m).1 h).2.2.2.2.1 x hm)
    refine W.run (c1) ?_
    refine W.run (c2) ?_
    try simp only [q_bind_some, Option.bind_assoc, castInt_int, q_castBool, q_castStr, q_castPtr, q_castFn, q_castAgg, q_castTuple, q_uncons, q_isNil, q_sl, q_nils, q_emp, q_ptr, q_nilp, q_fn, q_cond_true, q_cond_false, Bool.not_true, Bool.not_false, decide_true, decide_false, castInt_bind, castBool_bind, castStr_bind, castPtr_bind, castFn_bind, castAgg_bind, castTuple_bind, uncons_bind, isNil_bind, one_bind, cond_bind, ite_bind_, List.cons_append, List.nil_append]
    by_cases hA : AllNames (x.args.map (·.name))
    rotate_left
    · have := hno fun h => hA h.2.1
      try simp only [q_bind_some, Option.bind_assoc, castInt_int, q_castBool, q_castStr, q_castPtr, q_castFn, q_castAgg, q_castTuple, q_uncons, q_isNil, q_sl, q_nils, q_emp, q_ptr, q_nilp, q_fn, q_cond_true, q_cond_false, Bool.not_true, Bool.not_false, decide_true, decide_false, castInt_bind, castBool_bind, castStr_bind, castPtr_bind, castFn_bind, castAgg_bind, castTuple_bind, uncons_bind, isNil_bind, one_bind, cond_bind, ite_bind_, List.cons_append, List.nil_append, hA, impl_TreeOk.A0_ret]
      exact W.ret ⟨by simp [this], hl3.trans (l3.trans l4)⟩
    try simp only [q_bind_some, Option.bind_assoc, castInt_int, q_castBool, q_castStr, q_castPtr, q_castFn, q_castAgg, q_castTuple, q_uncons, q_isNil, q_sl, q_nils, q_emp, q_ptr, q_nilp, q_fn, q_cond_true, q_cond_false, Bool.not_true, Bool.not_false, decide_true, decide_false, castInt_bind, castBool_bind, castStr_bind, castPtr_bind, castFn_bind, castAgg_bind, castTuple_bind, uncons_bind, isNil_bind, one_bind, cond_bind, ite_bind_, List.cons_append, List.nil_append, hA]
    refine W.run (isType_runs x.type) ?_
    try simp only [q_bind_some, Option.bind_assoc, castInt_int, q_castBool, q_castStr, q_castPtr, q_castFn, q_castAgg, q_castTuple, q_uncons, q_isNil, q_sl, q_nils, q_emp, q_ptr, q_nilp, q_fn, q_cond_true, q_cond_false, Bool.not_true, Bool.not_false, decide_true, decide_false, castInt_bind, castBool_bind, castStr_bind, castPtr_bind, castFn_bind, castAgg_bind, castTuple_bind, uncons_bind, isNil_bind, one_bind, cond_bind, ite_bind_, List.cons_append, List.nil_append]
    by_cases hT : 1 ≤ x.type ∧ x.type ≤ 3
    rotate_left
    · have := hno fun h => hT h.2.2.1
      try simp only [q_bind_some, Option.bind_assoc, castInt_int, q_castBool, q_castStr, q_castPtr, q_castFn, q_castAgg, q_castTuple, q_uncons, q_isNil, q_sl, q_nils, q_emp, q_ptr, q_nilp, q_fn, q_cond_true, q_cond_false, Bool.not_true, Bool.not_false, decide_true, decide_false, castInt_bind, castBool_bind, castStr_bind, castPtr_bind, castFn_bind, castAgg_bind, castTuple_bind, uncons_bind, isNil_bind, one_bind, cond_bind, ite_bind_, List.cons_append, List.nil_append, hT, impl_TreeOk.A0_ret]
      exact W.ret ⟨by simp [this], hl3.trans (l3.trans l4)⟩
    try simp only [q_bind_some, Option.bind_assoc, castInt_int, q_castBool, q_castStr, q_castPtr, q_castFn, q_castAgg, q_castTuple, q_uncons, q_isNil, q_sl, q_nils, q_emp, q_ptr, q_nilp, q_fn, q_cond_true, q_cond_false, Bool.not_true, Bool.not_false, decide_true, decide_false, castInt_bind, castBool_bind, castStr_bind, castPtr_bind, castFn_bind, castAgg_bind, castTuple_bind, uncons_bind, isNil_bind, one_bind, cond_bind, ite_bind_, List.cons_append, List.nil_append, hT, and_self]
    refine W.run (c3) ?_
    try simp only [q_bind_some, Option.bind_assoc, castInt_int, q_castBool, q_castStr, q_castPtr, q_castFn, q_castAgg, q_castTuple, q_uncons, q_isNil, q_sl, q_nils, q_emp, q_ptr, q_nilp, q_fn, q_cond_true, q_cond_false, Bool.not_true, Bool.not_false, decide_true, decide_false, castInt_bind, castBool_bind, castStr_bind, castPtr_bind, castFn_bind, castAgg_bind, castTuple_bind, uncons_bind, isNil_bind, one_bind, cond_bind, ite_bind_, List.cons_append, List.nil_append]
    cases b with
    | true =>
      have := hno fun h => by have := hbt.2 h.2.2.2; cases this
      try simp only [q_bind_some, Option.bind_assoc, castInt_int, q_castBool, q_castStr, q_castPtr, q_castFn, q_castAgg, q_castTuple, q_uncons, q_isNil, q_sl, q_nils, q_emp, q_ptr, q_nilp, q_fn, q_cond_true, q_cond_false, Bool.not_true, Bool.not_false, decide_true, decide_false, castInt_bind, castBool_bind, castStr_bind, castPtr_bind, castFn_bind, castAgg_bind, castTuple_bind, uncons_bind, isNil_bind, one_bind, cond_bind, ite_bind_, List.cons_append, List.nil_append, impl_TreeOk.A0_ret]
      exact W.ret ⟨by simp [this], hl3.trans (l3.trans (l4.trans l5))⟩
    | false =>
      try simp only [q_bind_some, Option.bind_assoc, castInt_int, q_castBool, q_castStr, q_castPtr, q_castFn, q_castAgg, q_castTuple, q_uncons, q_isNil, q_sl, q_nils, q_emp, q_ptr, q_nilp, q_fn, q_cond_true, q_cond_false, Bool.not_true, Bool.not_false, decide_true, decide_false, castInt_bind, castBool_bind, castStr_bind, castPtr_bind, castFn_bind, castAgg_bind, castTuple_bind, uncons_bind, isNil_bind, one_bind, cond_bind, ite_bind_, List.cons_append, List.nil_append, wrap_next (show i < m.funs.length by omega) (by omega)]
      refine W.again (i + 1, u', _) ⟨by show i + 1 ≤ m.funs.length; omega, hl2.trans (l3.trans (l4.trans l5)), ?_, fun y hy => ?_⟩ (by simp only; omega) rfl rfl
      · simp only
        rw [ht, List.map_append]
        exact hg'.le (l3.trans (l4.trans l5))
      · simp only at hy
        rw [ht] at hy
        rcases List.mem_append.1 hy with h | h
        · exact hok y h
        · simp at h; rw [h]; exact ⟨by omega, hA, hT, hbt.1 rfl⟩
  · rw [List.take_of_length_le (by omega)] at hg hok
    try simp only [q_bind_some, Option.bind_assoc, castInt_int, q_castBool, q_castStr, q_castPtr, q_castFn, q_castAgg, q_castTuple, q_uncons, q_isNil, q_sl, q_nils, q_emp, q_ptr, q_nilp, q_fn, q_cond_true, q_cond_false, Bool.not_true, Bool.not_false, decide_true, decide_false, castInt_bind, castBool_bind, castStr_bind, castPtr_bind, castFn_bind, castAgg_bind, castTuple_bind, uncons_bind, isNil_bind, one_bind, cond_bind, ite_bind_, List.cons_append, List.nil_append, impl_TreeOk.A0_x0]
    obtain ⟨vb, σ2, l2, hB, cb⟩ := cB σi hle0
    refine W.run (cb) ?_
    refine W.len hB ?_
    have hg2 := hg.le l2
    refine W.loop (S := Nat × Heap) (fun s => s.1 ≤ (bodies m).length ∧ Lh σ2 s.2 ∧ ∀ j x, j < s.1 → (bodies m)[j]? = some x → 0 + totS TreeExpr.many ((bodies m).take j) + x.many ≤ 150 ∧ x.deep ≤ 16 ∧ Right x)
      (fun s => [.v u, .v (.int .i64 (totS TreeExpr.many ((bodies m).take s.1) : Nat)), .v vb, .v (.int .i64 ((bodies m).length : Int)), .v (.int .i64 (s.1 : Int))]) (fun s => s.2) (fun s => (bodies m).length - s.1) (fun ⟨j, σj⟩ ⟨hj, hlj, hokj⟩ => ?_)
      (0, σ2) ⟨Nat.zero_le _, Lh.refl _, fun j x hj => absurd hj (Nat.not_lt_zero _)⟩
    simp only at hj hlj hokj ⊢
    have hlj0 := hle0.trans (l2.trans hlj)
    refine W.to (fun k _ => by rw [impl_TreeOk.L1_step]) ?_
    try simp only [q_bind_some, Option.bind_assoc, castInt_int, q_castBool, q_castStr, q_castPtr, q_castFn, q_castAgg, q_castTuple, q_uncons, q_isNil, q_sl, q_nils, q_emp, q_ptr, q_nilp, q_fn, q_cond_true, q_cond_false, Bool.not_true, Bool.not_false, decide_true, decide_false, castInt_bind, castBool_bind, castStr_bind, castPtr_bind, castFn_bind, castAgg_bind, castTuple_bind, uncons_bind, isNil_bind, one_bind, cond_bind, ite_bind_, List.cons_append, List.nil_append]
    refine W.ite (fun hlt => ?_) fun hlt => ?_
    · refine W.at hB hlj (by omega) fun r o cs x hx hr hP => ?_
      have hm : x ∈ bodies m := List.mem_of_getElem? hx
      have hP' := TreeExpr.Rep.le hlj x hP
      have hno : (¬ (0 + totS TreeExpr.many ((bodies m).take j) + x.many ≤ 150 ∧ x.deep ≤ 16) ∨ ¬ Right x) → ¬ ModOk m := fun hn h => by
        have h' := (modOk_iff m).1 h
        rcases hn with hn | hn
        · exact hn (sizesOk_at _ 0 j x hx h'.2.2.2.2.2.1)
        · exact hn (h'.2.2.2.2.2.2.1 x hm)
      have hxt := hb x hm
      have hmany := TreeExpr.many_le x
      have hsum : totS TreeExpr.many ((bodies m).take j) ≤ 150 := by
        rcases Nat.eq_zero_or_pos j with h | h
        · subst h; simp [totS]
        · have hlt' : j - 1 < (bodies m).length := by omega
          have h1 := hokj (j - 1) _ (by omega) (List.getElem?_eq_getElem hlt')
          have h2 := take_next hlt'
          have h3 : j - 1 + 1 = j := by omega
          rw [h3] at h2
          rw [h2, totS_append, totS, totS]
          omega
      obtain ⟨b, hbb, ceo⟩ := exprOk_gives x (hbf x hm) hxt hP'
      have cn := implTreeNodes_runs x hxt hP'
      cases hP with
      | mk q =>
      try simp only [q_bind_some, Option.bind_assoc, castInt_int, q_castBool, q_castStr, q_castPtr, q_castFn, q_castAgg, q_castTuple, q_uncons, q_isNil, q_sl, q_nils, q_emp, q_ptr, q_nilp, q_fn, q_cond_true, q_cond_false, Bool.not_true, Bool.not_false, decide_true, decide_false, castInt_bind, castBool_bind, castStr_bind, castPtr_bind, castFn_bind, castAgg_bind, castTuple_bind, uncons_bind, isNil_bind, one_bind, cond_bind, ite_bind_, List.cons_append, List.nil_append, hr]
      refine W.run (cn) ?_
      have hw : IntKind.wrap .i64 (((totS TreeExpr.many ((bodies m).take j) : Nat) : Int) + (x.many : Int)) = ((totS TreeExpr.many ((bodies m).take j) + x.many : Nat) : Int) := by
        rw [wrap_id (by omega) (by omega)]; omega
      try simp only [q_bind_some, Option.bind_assoc, castInt_int, q_castBool, q_castStr, q_castPtr, q_castFn, q_castAgg, q_castTuple, q_uncons, q_isNil, q_sl, q_nils, q_emp, q_ptr, q_nilp, q_fn, q_cond_true, q_cond_false, Bool.not_true, Bool.not_false, decide_true, decide_false, castInt_bind, castBool_bind, castStr_bind, castPtr_bind, castFn_bind, castAgg_bind, castTuple_bind, uncons_bind, isNil_bind, one_bind, cond_bind, ite_bind_, List.cons_append, List.nil_append, hw]
      refine W.ite (fun k5 => ?_) fun k5 => ?_
      · have := hno (.inl fun h => by omega)
        try simp only [q_bind_some, Option.bind_assoc, castInt_int, q_castBool, q_castStr, q_castPtr, q_castFn, q_castAgg, q_castTuple, q_uncons, q_isNil, q_sl, q_nils, q_emp, q_ptr, q_nilp, q_fn, q_cond_true, q_cond_false, Bool.not_true, Bool.not_false, decide_true, decide_false, castInt_bind, castBool_bind, castStr_bind, castPtr_bind, castFn_bind, castAgg_bind, castTuple_bind, uncons_bind, isNil_bind, one_bind, cond_bind, ite_bind_, List.cons_append, List.nil_append, impl_TreeOk.A1_ret]
        exact W.ret ⟨by simp [this], hlj0⟩
      refine W.give ceo fun σ6 l6 => ?_
      try simp only [q_bind_some, Option.bind_assoc, castInt_int, q_castBool, q_castStr, q_castPtr, q_castFn, q_castAgg, q_castTuple, q_uncons, q_isNil, q_sl, q_nils, q_emp, q_ptr, q_nilp, q_fn, q_cond_true, q_cond_false, Bool.not_true, Bool.not_false, decide_true, decide_false, castInt_bind, castBool_bind, castStr_bind, castPtr_bind, castFn_bind, castAgg_bind, castTuple_bind, uncons_bind, isNil_bind, one_bind, cond_bind, ite_bind_, List.cons_append, List.nil_append]
      cases b with
      | false =>
        have : ¬ ModOk m := by
          by_cases hR : Right x
          · refine hno (.inl fun h => ?_)
            have := hbb.2 ⟨by omega, h.2, hR⟩
            cases this
          · exact hno (.inr hR)
        try simp only [q_bind_some, Option.bind_assoc, castInt_int, q_castBool, q_castStr, q_castPtr, q_castFn, q_castAgg, q_castTuple, q_uncons, q_isNil, q_sl, q_nils, q_emp, q_ptr, q_nilp, q_fn, q_cond_true, q_cond_false, Bool.not_true, Bool.not_false, decide_true, decide_false, castInt_bind, castBool_bind, castStr_bind, castPtr_bind, castFn_bind, castAgg_bind, castTuple_bind, uncons_bind, isNil_bind, one_bind, cond_bind, ite_bind_, List.cons_append, List.nil_append, impl_TreeOk.A1_ret]
        exact W.ret ⟨by simp [this], hlj0.trans l6⟩
      | true =>
        have hbx := hbb.1 rfl
        try simp only [q_bind_some, Option.bind_assoc, castInt_int, q_castBool, q_castStr, q_castPtr, q_castFn, q_castAgg, q_castTuple, q_uncons, q_isNil, q_sl, q_nils, q_emp, q_ptr, q_nilp, q_fn, q_cond_true, q_cond_false, Bool.not_true, Bool.not_false, decide_true, decide_false, castInt_bind, castBool_bind, castStr_bind, castPtr_bind, castFn_bind, castAgg_bind, castTuple_bind, uncons_bind, isNil_bind, one_bind, cond_bind, ite_bind_, List.cons_append, List.nil_append, wrap_next (show j < (bodies m).length by omega) (by simp [bodies]; omega)]
        have ht := take_next' hx
        refine W.again (j + 1, σ6) ⟨by show j + 1 ≤ (bodies m).length; omega, hlj.trans l6, fun i y hi hy => ?_⟩ (by simp only; omega) ?_ rfl
        · simp only at hi
          by_cases hij : i = j
          · subst hij
            rw [hx] at hy
            injection hy with hy
            subst hy
            exact ⟨by omega, hbx.2.1, hbx.2.2⟩
          · exact hokj i y (by omega) hy
        · simp only
          rw [ht, totS_append, totS, totS]
          rfl
    · try simp only [q_bind_some, Option.bind_assoc, castInt_int, q_castBool, q_castStr, q_castPtr, q_castFn, q_castAgg, q_castTuple, q_uncons, q_isNil, q_sl, q_nils, q_emp, q_ptr, q_nilp, q_fn, q_cond_true, q_cond_false, Bool.not_true, Bool.not_false, decide_true, decide_false, castInt_bind, castBool_bind, castStr_bind, castPtr_bind, castFn_bind, castAgg_bind, castTuple_bind, uncons_bind, isNil_bind, one_bind, cond_bind, ite_bind_, List.cons_append, List.nil_append, impl_TreeOk.A1_x2]
      have hR : RepS 1 StrRep σj u (m.funs.map (·.name)) := (hg2.le hlj).rep fun cs x _ h => h
      refine W.give (areNames_gives σj hR (by rw [List.length_map]; omega) (fun x hx => by
          obtain ⟨f, hf, rfl⟩ := List.mem_map.1 hx
          have := f3 f hf
          cases this with | mk g0 => exact g0)) fun σ7 l7 => ?_
      try simp only [q_bind_some, Option.bind_assoc, castInt_int, q_castBool, q_castStr, q_castPtr, q_castFn, q_castAgg, q_castTuple, q_uncons, q_isNil, q_sl, q_nils, q_emp, q_ptr, q_nilp, q_fn, q_cond_true, q_cond_false, Bool.not_true, Bool.not_false, decide_true, decide_false, castInt_bind, castBool_bind, castStr_bind, castPtr_bind, castFn_bind, castAgg_bind, castTuple_bind, uncons_bind, isNil_bind, one_bind, cond_bind, ite_bind_, List.cons_append, List.nil_append]
      have hall : ∀ i x, (bodies m)[i]? = some x → 0 + totS TreeExpr.many ((bodies m).take i) + x.many ≤ 150 ∧ x.deep ≤ 16 ∧ Right x := fun i x hx => hokj i x (by have := lt_of_get hx; omega) hx
      have hiff : ModOk m ↔ AllNames (m.funs.map (·.name)) := by
        rw [modOk_iff]
        constructor
        · intro h; exact h.2.2.2.2.2.2.2
        · intro h
          refine ⟨by omega, by omega, by omega, hU, hok, sizesOk_of _ 0 fun i x hx => ⟨(hall i x hx).1, (hall i x hx).2.1⟩, fun e he => ?_, h⟩
          obtain ⟨i, hi, rfl⟩ := List.getElem_of_mem he
          exact (hall i _ (List.getElem?_eq_getElem hi)).2.2
      exact W.ret ⟨by simp [hiff], hlj0.trans l7⟩
end Go.Y

/- FaceOf of the program. -/
set_option linter.unusedVariables false
set_option linter.unusedSimpArgs false
namespace Go.Y
open Go.HM Go.Proofs
def bitLen : Nat → Int
  | 0 => 0 | 1 => 1 | 2 => 2 | 3 => 2 | 4 => 3 | 5 => 3 | 6 => 3 | 7 => 3 | _ => 4
theorem bits_Len64_runs (σ : Heap) : ∀ (n : Nat), n ≤ 8 → Runs G n_math_bits_Len64 [.int .u64 (n : Int)] σ (.int .i64 (bitLen n)) σ
  | 0, _ => Runs.of (W.to (fun k _ => (math_bits_Len64.eq k 0 σ).trans (by kernel_rfl : _ = some (.int .i64 0, σ))) (W.ret ⟨rfl, rfl⟩))
  | 1, _ => Runs.of (W.to (fun k _ => (math_bits_Len64.eq k 1 σ).trans (by kernel_rfl : _ = some (.int .i64 1, σ))) (W.ret ⟨rfl, rfl⟩))
  | 2, _ => Runs.of (W.to (fun k _ => (math_bits_Len64.eq k 2 σ).trans (by kernel_rfl : _ = some (.int .i64 2, σ))) (W.ret ⟨rfl, rfl⟩))
  | 3, _ => Runs.of (W.to (fun k _ => (math_bits_Len64.eq k 3 σ).trans (by kernel_rfl : _ = some (.int .i64 2, σ))) (W.ret ⟨rfl, rfl⟩))
  | 4, _ => Runs.of (W.to (fun k _ => (math_bits_Len64.eq k 4 σ).trans (by kernel_rfl : _ = some (.int .i64 3, σ))) (W.ret ⟨rfl, rfl⟩))
  | 5, _ => Runs.of (W.to (fun k _ => (math_bits_Len64.eq k 5 σ).trans (by kernel_rfl : _ = some (.int .i64 3, σ))) (W.ret ⟨rfl, rfl⟩))
  | 6, _ => Runs.of (W.to (fun k _ => (math_bits_Len64.eq k 6 σ).trans (by kernel_rfl : _ = some (.int .i64 3, σ))) (W.ret ⟨rfl, rfl⟩))
  | 7, _ => Runs.of (W.to (fun k _ => (math_bits_Len64.eq k 7 σ).trans (by kernel_rfl : _ = some (.int .i64 3, σ))) (W.ret ⟨rfl, rfl⟩))
  | 8, _ => Runs.of (W.to (fun k _ => (math_bits_Len64.eq k 8 σ).trans (by kernel_rfl : _ = some (.int .i64 4, σ))) (W.ret ⟨rfl, rfl⟩))
theorem bits_Len_runs (σ : Heap) {n : Nat} (h : n ≤ 8) : Runs G n_math_bits_Len [.int .u64 (n : Int)] σ (.int .i64 (bitLen n)) σ := by
  refine Runs.of (W.to (fun k _ => math_bits_Len.eq k _ _) ?_)
  refine W.run (bits_Len64_runs σ n h) ?_
  try simp only [q_bind_some, Option.bind_assoc, castInt_int, q_castBool, q_castStr, q_castPtr, q_castFn, q_castAgg, q_castTuple, q_uncons, q_isNil, q_sl, q_nils, q_emp, q_ptr, q_nilp, q_fn, q_cond_true, q_cond_false, Bool.not_true, Bool.not_false, decide_true, decide_false, castInt_bind, castBool_bind, castStr_bind, castPtr_bind, castFn_bind, castAgg_bind, castTuple_bind, uncons_bind, isNil_bind, one_bind, cond_bind, ite_bind_, List.cons_append, List.nil_append]
  exact W.ret ⟨rfl, rfl⟩
theorem sortF_ends {σ : Heap} {q : Nat} {lim : Bool} {l : List El} (h : SRow σ q l) (hl : l.length ≤ 8) (hd : ((nm l).map (·.name)).Nodup) :
    HM.Ends G n_slices_SortFunc_impl_FaceSig_impl_FaceSig [.sl q 0 l.length lim, .fn n_impl_faceOf_1 []] σ (fun w σ' => w = .tuple [] ∧ ∃ l', SRow σ' q l' ∧ l'.Perm l ∧ (nm l').Pairwise Lt ∧ σ'.length = σ.length ∧ ∀ j, j ≠ q → σ'[j]? = σ[j]?) := by
  refine HM.Ends.mk (W.to (fun k _ => slices_SortFunc_impl_FaceSig_impl_FaceSig.eq k _ _ _) ?_)
  have hvl : vlen (.sl q 0 l.length lim) = some l.length := rfl
  refine W.bind hvl ?_
  have eu : IntKind.wrap .u64 (l.length : Int) = (l.length : Int) := wrap_u64 (by omega) (by omega)
  rw [eu]
  refine W.run (bits_Len_runs σ hl) ?_
  try simp only [q_bind_some, castInt_int, q_castBool, q_castStr, q_castPtr, q_castFn, q_castAgg, q_castTuple, q_uncons, q_isNil, q_sl, q_nils, q_emp, q_ptr, q_nilp, q_fn, q_cond_true, q_cond_false, Bool.not_true, Bool.not_false, decide_true, decide_false, List.cons_append, List.nil_append]
  have c : HM.Ends G n_slices_pdqsortCmpFunc_impl_FaceSig [.sl q 0 l.length lim, .int .i64 0, .int .i64 (l.length : Int), .int .i64 (bitLen l.length), .fn n_impl_faceOf_1 []] σ (fun w σ' => w = .tuple [] ∧ ∃ l', SRow σ' q l' ∧ l'.Perm l ∧ (nm l').Pairwise Lt ∧ σ'.length = σ.length ∧ ∀ j, j ≠ q → σ'[j]? = σ[j]?) := by
    refine HM.Ends.mk (W.to (fun k _ => slices_pdqsortCmpFunc_impl_FaceSig.eq k _ _ _ _ _ _) ?_)
    refine W.loop (S := Unit) (fun _ => True) (fun _ => [.v (.sl q 0 l.length lim), .v (.int .i64 0), .v (.int .i64 (l.length : Int)), .v (.int .i64 (bitLen l.length)), .v (.fn n_impl_faceOf_1 []), .v (.bool true), .v (.bool true)]) (fun _ => σ) (fun _ => 0) (fun _ _ => ?_)
      () trivial
    refine W.to (fun k _ => by rw [slices_pdqsortCmpFunc_impl_FaceSig.L0_step]) ?_
    have e12 : IntKind.wrap .i64 ((l.length : Int) - 0) ≤ 12 := by rw [wrap_id (by omega) (by omega)]; omega
    refine B.ite (fun _ => ?_) fun hx => absurd e12 hx
    refine B.call (insertion_ends (lim := lim) h (by omega) hd) ?_
    rintro _ σ' ⟨rfl, hp⟩
    try simp only [q_bind_some, castInt_int, q_castBool, q_castStr, q_castPtr, q_castFn, q_castAgg, q_castTuple, q_uncons, q_isNil, q_sl, q_nils, q_emp, q_ptr, q_nilp, q_fn, q_cond_true, q_cond_false, Bool.not_true, Bool.not_false, decide_true, decide_false, List.cons_append, List.nil_append, slices_pdqsortCmpFunc_impl_FaceSig.A0_ret]
    exact W.ret ⟨rfl, hp⟩
  refine W.call c ?_
  rintro _ σ' ⟨rfl, hp⟩
  try simp only [q_bind_some, castInt_int, q_castBool, q_castStr, q_castPtr, q_castFn, q_castAgg, q_castTuple, q_uncons, q_isNil, q_sl, q_nils, q_emp, q_ptr, q_nilp, q_fn, q_cond_true, q_cond_false, Bool.not_true, Bool.not_false, decide_true, decide_false, List.cons_append, List.nil_append]
  exact W.ret ⟨rfl, hp⟩
/-- A row of signatures of one's own, with the rows of their lists. -/
structure Fs (σ σi : Heap) (v : V) (l : List El) : Prop where
  row : ∃ q lim, v = .sl q 0 l.length lim ∧ SRow σi q l ∧ σ.length ≤ q ∧ (q :: (l.map (·.R)).flatten).Nodup
  els : ∀ e, e ∈ l → RepR 1 (RInt σi) σi e.v e.s.args e.R
  lo : ∀ e, e ∈ l → ∀ j, j ∈ e.R → σ.length ≤ j
  le : Lh σ σi
theorem Fs.start (σ : Heap) : Fs σ (hnew σ 3 []) (.sl σ.length 0 0 true) [] := ⟨⟨σ.length, true, rfl, ⟨0, by simp [hnew, flatE]⟩, Nat.le_refl _, by simp⟩, fun e he => (List.not_mem_nil he).elim, fun e he => (List.not_mem_nil he).elim, Lh.new _ _ _⟩
theorem Fs.up {σ σi σ' : Heap} {v : V} {l : List El} (h : Fs σ σi v l) (hl : Lh σi σ') : Fs σ σ' v l := by
  obtain ⟨⟨q, lim, h1, ⟨ty, h2⟩, h3, h4⟩, h5, h6, h7⟩ := h
  exact ⟨⟨q, lim, h1, ⟨ty, hl.row _ _ h2⟩, h3, h4⟩, fun e he => (h5 e he).le hl fun cs x R hq => hq, h6, h7.trans hl⟩
theorem elR_lt {σ : Heap} {e : El} (h : RepR 1 (RInt σ) σ e.v e.s.args e.R) : ∀ j, j ∈ e.R → j < σ.length := h.lt fun cs x R hq => RInt.lt cs x R hq
theorem Fs.add {σ σi σ' : Heap} {v : V} {l : List El} (h : Fs σ σi v l) {s : FaceSig} {av : V} {R : List Nat} (hO : Ow σi σ' av s.args R) (hl : l.length ≤ 1000) :
    ∃ v' σ'', vappend 3 48 σ' v 1 [.str s.name, av, .int .i64 s.type] = some (v', σ'') ∧ Fs σ σ'' v' (l ++ [⟨s, av, R⟩]) := by
  have h' := h.up hO.le
  have hold : ∀ e, e ∈ l → ∀ j, j ∈ e.R → j < σi.length := fun e he => elR_lt (h.els e he)
  obtain ⟨⟨q0, _, hv0, ⟨_, hS0⟩, _, _⟩, _, _, hle0⟩ := h
  have hq0 := get_lt hS0
  obtain ⟨⟨q, lim, rfl, ⟨ty, hS⟩, hq, hnd⟩, hels, hlo, hle⟩ := h'
  obtain rfl : q0 = q := by injection hv0 with e1 e2 e3 e4; exact e1.symm
  have hlt := get_lt hS
  have hRl := hO.r.lt fun cs x R hq => RInt.lt cs x R hq
  have hfl : ∀ j, j ∈ (l.map (·.R)).flatten → j < σi.length := fun j hj => by
    obtain ⟨R', hR', hj'⟩ := List.mem_flatten.1 hj
    obtain ⟨e, he, rfl⟩ := List.mem_map.1 hR'
    exact hold e he j hj'
  have hqn : q0 ∉ (l.map (·.R)).flatten := (List.nodup_cons.1 hnd).1
  have hqR : q0 ∉ R := fun hc => by have := hO.lo _ hc; omega
  have hi' := hO.le.len
  have h0' := hle0.len
  have hcells : ((flatE l).drop 0).take (l.length * 3) = flatE l := by rw [List.drop_zero]; exact List.take_of_length_le (by rw [flatE_len]; exact Nat.le_refl _)
  have hcells' : (flatE l).take (l.length * 3) = flatE l := List.take_of_length_le (by rw [flatE_len]; exact Nat.le_refl _)
  have happ : flatE l ++ [.str s.name, av, .int .i64 s.type] = flatE (l ++ [⟨s, av, R⟩]) := by unfold flatE; rw [List.map_append, List.flatten_append]; simp [El.cells]
  have fin : ∀ {σ'' : Heap}, σ''.length = σ'.length + 1 → σ''[σ'.length]? = some (some ⟨flatE (l ++ [⟨s, av, R⟩]), 3, false, 0⟩) → (∀ j, j ≠ q0 → j < σ'.length → σ''[j]? = σ'[j]?) → Fs σ σ'' (.sl σ'.length 0 (l.length + 1) false) (l ++ [⟨s, av, R⟩]) := fun {σ''} hn hrow hk => by
    have kp : ∀ {v : V} {k : List Int} {R : List Nat}, RepR 1 (RInt σ') σ' v k R → q0 ∉ R → RepR 1 (RInt σ'') σ'' v k R := fun hr hqr => hr.keep (fun j hj => hk j (fun hc => hqr (hc ▸ hj)) ((hr.lt fun cs x R hq => RInt.lt cs x R hq) j hj)) fun cs x R hq hk => hq
    refine ⟨⟨σ'.length, false, by simp, ⟨0, hrow⟩, by omega, ?_⟩, fun e he => ?_, fun e he j hj => ?_, ⟨by omega, fun j row hj => ?_⟩⟩
    · rw [List.map_append, List.flatten_append]
      refine List.nodup_cons.2 ⟨fun hc => ?_, nodup_far (n := σi.length) (List.nodup_cons.1 hnd).2 (by simpa using hO.nd) hfl (fun j hj => hO.lo j (by simpa using hj))⟩
      rcases List.mem_append.1 hc with hc | hc
      · have := hfl _ hc; omega
      · have := hRl _ (by simpa using hc); omega
    · rcases List.mem_append.1 he with he | he
      · refine kp (hels e he) fun hc => hqn (List.mem_flatten.2 ⟨e.R, List.mem_map_of_mem he, hc⟩)
      · simp at he
        subst he
        exact kp hO.r hqR
    · rcases List.mem_append.1 he with he | he
      · exact hlo e he j hj
      · simp at he
        subst he
        have := hO.lo j hj
        omega
    · have hjl := get_lt hj
      rw [hk j (by omega) (by omega)]
      exact hle.row _ _ hj
  unfold vappend
  simp only [hS]
  rw [if_pos ⟨trivial, by rw [flatE_len]; omega, by omega, by omega⟩]
  cases lim with
  | true =>
    rw [if_pos rfl, if_neg (by omega), hcells, happ]
    exact ⟨_, _, rfl, fin (by simp [hnew]) (by simp [hnew]) fun j _ hj => by simp [hnew, List.getElem?_append_left hj]⟩
  | false =>
    rw [if_neg (by simp), if_pos ⟨trivial, trivial⟩, hcells', happ]
    exact ⟨_, _, rfl, fin (by simp [hnew]) (by simp [hnew]) fun j hne hj => by rw [hnew, List.getElem?_append_left (by simpa using hj), List.getElem?_set, if_neg (Ne.symm hne)]⟩
def FaceP (σ : Heap) (l : List FaceSig) (w : V) (σ' : Heap) : Prop := ∃ R, RepR 3 (RSig σ') σ' w l R ∧ R.Nodup ∧ (∀ j, j ∈ R → σ.length ≤ j) ∧ Lh σ σ'
theorem Fs.face {σ σi : Heap} {v : V} {l : List El} (h : Fs σ σi v l) : FaceP σ (nm l) v σi := by
  obtain ⟨⟨q, lim, rfl, ⟨ty, hS⟩, hq, hnd⟩, hels, hlo, hle⟩ := h
  refine ⟨q :: (l.map (·.R)).flatten, ?_, hnd, fun j hj => ?_, hle⟩
  · refine .sl q 0 l.length lim _ (nm l) (l.map (·.R)) (by simp [nm]) hS rfl rfl (by simp [nm, flatE_len]) (by simp [nm]) fun i x R hx hR => ?_
    unfold nm at hx
    rw [List.getElem?_map] at hx hR
    cases he : l[i]? with
    | none => rw [he] at hx; cases hx
    | some e =>
      rw [he] at hx hR
      injection hx with hx
      injection hR with hR
      subst hx hR
      show RSig σi (((flatE l).drop (0 + i * 3)).take 3) e.s e.R
      rw [Nat.zero_add, flatE_at l i e he]
      exact ⟨e.v, rfl, hels e (List.mem_of_getElem? he)⟩
  · rcases List.mem_cons.1 hj with rfl | hj
    · exact hq
    · obtain ⟨R', hR', hj'⟩ := List.mem_flatten.1 hj
      obtain ⟨e, he, rfl⟩ := List.mem_map.1 hR'
      exact hlo e he j hj'
def pubs (l : List TreeFun) : List FaceSig := (l.filter (·.pub)).map sigOf
noncomputable def faceL (m : TreeMod) : List FaceSig := if ModOk m then sortL (pubs m.funs) else []
theorem pubs_next {l : List TreeFun} {i : Nat} {f : TreeFun} (h : l[i]? = some f) : pubs (l.take (i + 1)) = pubs (l.take i) ++ (if f.pub = true then [sigOf f] else []) := by
  unfold pubs
  rw [take_next' h, List.filter_append, List.map_append]
  congr 1
  cases hp : f.pub <;> simp [hp]
theorem pubs_nodup {m : TreeMod} (h : ModOk m) : ((pubs m.funs).map (·.name)).Nodup := by
  have h1 := h.2.2.2.2.2.2.1.2
  unfold pubs
  rw [List.map_map]
  have : (FaceSig.name ∘ sigOf) = TreeFun.name := rfl
  rw [this]
  exact h1.sublist ((List.filter_sublist).map _)
theorem pubs_len (l : List TreeFun) : (pubs l).length ≤ l.length := by unfold pubs; rw [List.length_map]; exact List.length_filter_le _ _
theorem implFaceOf0_ends {m : TreeMod} (hok : ModOk m) (ht : m.total ≤ 1048576) {σ : Heap} {cs : List V} (h : TreeMod.Rep σ cs m) : HM.Ends G n_impl_faceOf [.agg cs] σ (FaceP σ (sortL (pubs m.funs))) := by
  rw [TreeMod.total_eq] at ht
  have h8 := hok.2.1
  have hnd := pubs_nodup hok
  cases h with
  | mk hU hF hM =>
  rename_i a0 a1 a2
  refine HM.Ends.mk (W.to (fun k _ => impl_faceOf.eq k _ _ _ _) ?_)
  refine W.len hF ?_
  refine W.loop (S := Nat × V × Heap × List El) (fun s => s.1 ≤ m.funs.length ∧ Fs σ s.2.2.1 s.2.1 s.2.2.2 ∧ nm s.2.2.2 = pubs (m.funs.take s.1)) (fun s => [.v s.2.1, .v a1, .v (.int .i64 (m.funs.length : Int)), .v (.int .i64 (s.1 : Int))]) (fun s => s.2.2.1) (fun s => m.funs.length - s.1)
    (fun ⟨i, vi, σi, li⟩ ⟨hi, hFs, hnm⟩ => ?_) (0, .sl σ.length 0 0 true, hnew σ 3 [], []) ⟨Nat.zero_le _, Fs.start σ, rfl⟩
  simp only at hi hFs hnm ⊢
  have hll : li.length ≤ 8 := by
    have h1 := congrArg List.length hnm
    have h2 := pubs_len (m.funs.take i)
    unfold nm at h1
    rw [List.length_map] at h1
    rw [List.length_take] at h2
    omega
  refine W.to (fun k _ => by rw [impl_faceOf.L0_step]) ?_
  refine B.ite (fun hlt => ?_) fun hlt => ?_
  · have hil : i < m.funs.length := by omega
    have hx : m.funs[i]? = some m.funs[i] := List.getElem?_eq_getElem hil
    generalize m.funs[i] = f at hx
    have hpn := pubs_next hx
    obtain ⟨r, o, hv, cs, hr, hP⟩ := hF.at' hx
    have hr' := hFs.le.rdc hr
    have hfl : f.args.length ≤ 1048576 := by have := totS_mem TreeFun.total (List.mem_of_getElem? hx); have := TreeFun.total_eq f; omega
    have hc := implSig_ends hfl (TreeFun.Rep.le hFs.le hP)
    cases hP with
    | mk g1 g2 =>
    try simp only [q_bind_some, castInt_int, q_castBool, q_castStr, q_castPtr, q_castFn, q_castAgg, q_castTuple, q_uncons, q_isNil, q_sl, q_nils, q_emp, q_ptr, q_nilp, q_fn, q_cond_true, q_cond_false, Bool.not_true, Bool.not_false, decide_true, decide_false, List.cons_append, List.nil_append, hv, hr']
    refine B.cond (fun hp => ?_) fun hp => ?_
    · rw [if_pos hp] at hpn
      refine B.call hc ?_
      rintro _ σ' ⟨av, R, rfl, hO⟩
      obtain ⟨v', σ'', c1, c2⟩ := hFs.add (s := sigOf f) hO (by omega)
      try simp only [q_bind_some, castInt_int, q_castBool, q_castStr, q_castPtr, q_castFn, q_castAgg, q_castTuple, q_uncons, q_isNil, q_sl, q_nils, q_emp, q_ptr, q_nilp, q_fn, q_cond_true, q_cond_false, Bool.not_true, Bool.not_false, decide_true, decide_false, List.cons_append, List.nil_append, c1, wrap_next hil (by omega)]
      exact W.again (i + 1, v', σ'', li ++ [⟨sigOf f, av, R⟩]) ⟨by show i + 1 ≤ m.funs.length; omega, c2, by unfold nm at hnm ⊢; rw [List.map_append, hnm, hpn]; rfl⟩ (by simp only; omega) rfl rfl
    · rw [if_neg (by rw [hp]; simp), List.append_nil] at hpn
      try simp only [q_bind_some, castInt_int, q_castBool, q_castStr, q_castPtr, q_castFn, q_castAgg, q_castTuple, q_uncons, q_isNil, q_sl, q_nils, q_emp, q_ptr, q_nilp, q_fn, q_cond_true, q_cond_false, Bool.not_true, Bool.not_false, decide_true, decide_false, List.cons_append, List.nil_append, wrap_next hil (by omega)]
      exact W.again (i + 1, vi, σi, li) ⟨by show i + 1 ≤ m.funs.length; omega, hFs, by rw [hpn]; exact hnm⟩ (by simp only; omega) rfl rfl
  · obtain rfl : i = m.funs.length := by omega
    rw [List.take_length] at hnm
    try simp only [q_bind_some, castInt_int, q_castBool, q_castStr, q_castPtr, q_castFn, q_castAgg, q_castTuple, q_uncons, q_isNil, q_sl, q_nils, q_emp, q_ptr, q_nilp, q_fn, q_cond_true, q_cond_false, Bool.not_true, Bool.not_false, decide_true, decide_false, List.cons_append, List.nil_append, impl_faceOf.A0_x0]
    have hndl : ((nm li).map (·.name)).Nodup := by rw [hnm]; exact hnd
    obtain ⟨⟨q, lim, rfl, hS, hq, hndq⟩, hels, hlo, hle⟩ := hFs
    refine W.call (sortF_ends hS hll hndl) ?_
    rintro _ σ' ⟨rfl, l', g1, g2, g3, g4, g5⟩
    try simp only [q_bind_some, castInt_int, q_castBool, q_castStr, q_castPtr, q_castFn, q_castAgg, q_castTuple, q_uncons, q_isNil, q_sl, q_nils, q_emp, q_ptr, q_nilp, q_fn, q_cond_true, q_cond_false, Bool.not_true, Bool.not_false, decide_true, decide_false, List.cons_append, List.nil_append]
    have hl' := g2.length_eq
    have hkeep : ∀ {v : V} {k : List Int} {R : List Nat}, RepR 1 (RInt σi) σi v k R → q ∉ R → RepR 1 (RInt σ') σ' v k R := fun hr hqr => hr.keep (fun j hj => g5 j fun hc => hqr (hc ▸ hj)) fun cs x R hq hk => hq
    have hFs' : Fs σ σ' (.sl q 0 l'.length lim) l' := by
      refine ⟨⟨q, lim, rfl, g1, hq, ?_⟩, fun e he => ?_, fun e he => hlo e (g2.mem_iff.1 he), ⟨by rw [g4]; exact hle.len, fun j row hj => ?_⟩⟩
      · have hp : (q :: (l'.map (·.R)).flatten).Perm (q :: (li.map (·.R)).flatten) := ((g2.map (·.R)).flatten).cons q
        exact hp.nodup_iff.2 hndq
      · have he' := g2.mem_iff.1 he
        exact hkeep (hels e he') fun hc => (List.nodup_cons.1 hndq).1 (List.mem_flatten.2 ⟨e.R, List.mem_map_of_mem he', hc⟩)
      · rw [g5 j (by have := get_lt hj; omega)]
        exact hle.row _ _ hj
    have hres : nm l' = sortL (pubs m.funs) := by
      obtain ⟨s1, s2⟩ := sortL_sorted hnd
      refine sorted_unique g3 s1 ?_
      rw [← hnm] at s2 ⊢
      have hp : (nm l').Perm (nm li) := g2.map (fun e : El => e.s)
      exact hp.trans s2.symm
    rw [← hres, ← hl']
    exact W.ret hFs'.face
theorem implFaceOf_ends {m : TreeMod} (hF : m.Fit) (ht : m.total ≤ 1048576) {σ : Heap} {cs : List V} (h : TreeMod.Rep σ cs m) : HM.Ends G n_impl_FaceOf [.agg cs] σ (FaceP σ (faceL m)) := by
  have c1 := implTreeOk_gives hF ht h
  have h' := h
  cases h' with
  | mk h0 h1 h2 =>
  refine HM.Ends.mk (W.to (fun k _ => impl_FaceOf.eq k _ _ _ _) ?_)
  refine W.give c1 fun σ1 l1 => ?_
  unfold faceL
  by_cases hok : ModOk m
  · rw [if_pos hok]
    try simp only [q_bind_some, castInt_int, q_castBool, q_castStr, q_castPtr, q_castFn, q_castAgg, q_castTuple, q_uncons, q_isNil, q_sl, q_nils, q_emp, q_ptr, q_nilp, q_fn, q_cond_true, q_cond_false, Bool.not_true, Bool.not_false, decide_true, decide_false, List.cons_append, List.nil_append, decide_eq_true hok]
    refine W.call (implFaceOf0_ends hok ht (TreeMod.Rep.le l1 h)) ?_
    rintro w σ' ⟨R, g1, g2, g3, g4⟩
    exact W.ret ⟨R, g1, g2, fun j hj => Nat.le_trans l1.len (g3 j hj), l1.trans g4⟩
  · rw [if_neg hok]
    try simp only [q_bind_some, castInt_int, q_castBool, q_castStr, q_castPtr, q_castFn, q_castAgg, q_castTuple, q_uncons, q_isNil, q_sl, q_nils, q_emp, q_ptr, q_nilp, q_fn, q_cond_true, q_cond_false, Bool.not_true, Bool.not_false, decide_true, decide_false, List.cons_append, List.nil_append, decide_eq_false hok]
    exact W.ret ⟨[], .nils, List.nodup_nil, fun j hj => (List.not_mem_nil hj).elim, l1⟩
end Go.Y

/- FaceOf of the reference. -/
set_option linter.unusedVariables false
set_option linter.unusedSimpArgs false
namespace Go.Y
open Go.HM Go.Proofs
theorem rep_upto {α : Type} {esz : Nat} {P : List V → α → Prop} {σ : Heap} {v : V} {l : List α} (h : RepS esz P σ v l) (hne : v ≠ .emp) {i : Nat} (hi : i ≤ l.length) : ∃ u, vslice esz v none (some (i : Int)) = some u ∧ RepS esz P σ u (l.take i) := by
  rcases Nat.lt_or_ge i l.length with hlt | hge
  · exact h.first hlt
  · have e : i = l.length := by omega
    subst e
    rw [List.take_length]
    cases h with
    | nils => exact ⟨.nils, by simp [vslice], .nils⟩
    | emp => exact absurd rfl hne
    | sl r o n lim row l h1 h2 h3 h4 h5 =>
      subst h1
      exact ⟨.sl r o l.length (lim && decide (((l.length : Nat) : Int) = (l.length : Int))), by simp [vslice], .sl r o _ _ row l rfl h2 h3 h4 h5⟩
theorem rep_from {α : Type} {esz : Nat} {P : List V → α → Prop} {σ : Heap} {v : V} {l : List α} (h : RepS esz P σ v l) (hne : v ≠ .emp) {i : Nat} (hi : i ≤ l.length) : ∃ u, vslice esz v (some (i : Int)) none = some u ∧ RepS esz P σ u (l.drop i) := by
  cases h with
  | nils =>
    simp at hi
    subst hi
    exact ⟨.nils, by simp [vslice], .nils⟩
  | emp => exact absurd rfl hne
  | sl r o n lim row l h1 h2 h3 h4 h5 =>
    subst h1
    by_cases hc : 0 < i ∧ i = l.length
    · refine ⟨.emp, ?_, by rw [hc.2, List.drop_length]; exact .emp⟩
      simp only [vslice, Option.getD_some, Option.getD_none]
      rw [if_pos (by omega), if_pos (by omega)]
    · refine ⟨.sl r (o + i * esz) (l.length - i) (lim && decide (((l.length : Nat) : Int) = (l.length : Int))), ?_, ?_⟩
      · simp only [vslice, Option.getD_some, Option.getD_none]
        rw [if_pos (by omega), if_neg (by omega)]
        have e1 : ((l.length : Int) - (i : Int)).toNat = l.length - i := by omega
        rw [Int.toNat_natCast, e1]
      · have hm : i * esz + (l.length - i) * esz = l.length * esz := by rw [← Nat.add_mul]; congr 1; omega
        refine .sl r _ _ _ row _ (by rw [List.length_drop]) h2 h3 (by rw [List.length_drop]; omega) fun j x hx => ?_
        rw [List.getElem?_drop] at hx
        have := h5 (i + j) x hx
        rw [Nat.add_mul, ← Nat.add_assoc] at this
        exact this
theorem l3Put_ends {σ : Heap} {v : V} {acc : List FaceSig} (hv : RepS 3 (FaceSig.Rep σ) σ v acc) (hne : v ≠ .emp) (hl : acc.length ≤ 1000) {s : FaceSig} {cs : List V} (hs : FaceSig.Rep σ cs s) :
    HM.Ends G n_spec_l3Put [v, .agg cs] σ (fun w σ' => RepS 3 (FaceSig.Rep σ') σ' w (insAt s acc) ∧ w ≠ .emp ∧ Lh σ σ') := by
  have hs0 := hs
  cases hs with
  | mk g1 =>
  rename_i a3
  refine HM.Ends.mk (W.to (fun k _ => spec_l3Put.eq k _ _ _ _ _) ?_)
  have fin : ∀ {k : Nat}, k ≤ acc.length → insAt s acc = acc.take k ++ s :: acc.drop k → W (ι := Unit) (fun w σ' => RepS 3 (FaceSig.Rep σ') σ' w (insAt s acc) ∧ w ≠ .emp ∧ Lh σ σ') (fun _ => False) (fun k' _ => spec_l3Put.A0 k' (.exit 0, [.v v, .box [.str s.name, a3, .int .i64 s.type], .bot, .v (.int .i64 (k : Int))], σ)) := by
    intro k hk he
    obtain ⟨u1, e1, r1⟩ := rep_upto hv hne hk
    obtain ⟨u2, e2, r2⟩ := rep_from hv hne hk
    have lN : Lh σ (hnew σ 3 []) := Lh.new _ _ _
    have gN : Grown σ.length 3 (FaceSig.Rep σ) (hnew σ 3 []) (.sl σ.length 0 0 true) ([] : List FaceSig) := Grown.start σ 3 _ true
    try simp only [q_bind_some, castInt_int, q_castBool, q_castStr, q_castPtr, q_castFn, q_castAgg, q_castTuple, q_uncons, q_isNil, q_sl, q_nils, q_emp, q_ptr, q_nilp, q_fn, q_cond_true, q_cond_false, Bool.not_true, Bool.not_false, decide_true, decide_false, List.cons_append, List.nil_append, spec_l3Put.A0_x0, e1]
    have e46 : (2 : Nat) ^ 46 = 70368744177664 := by decide
    refine W.cells (σ' := σ) (r1.le lN) fun cs1 hc1 => ?_
    refine W.app gN hc1 rfl (by simp only [List.length_nil, List.length_take]; omega) (by simp only [List.length_nil, List.length_take]; omega) fun v1 σ1 g1' x1 => ?_
    have hc2 : Chunks 3 (FaceSig.Rep σ) [.str s.name, a3, .int .i64 s.type] [s] := Chunks.one hs0
    refine W.app g1' hc2 rfl (by simp only [List.nil_append, List.length_take, List.length_cons, List.length_nil]; omega) (by simp only [List.nil_append, List.length_take, List.length_cons, List.length_nil]; omega) fun v2 σ2 g2' x2 => ?_
    try simp only [q_bind_some, castInt_int, q_castBool, q_castStr, q_castPtr, q_castFn, q_castAgg, q_castTuple, q_uncons, q_isNil, q_sl, q_nils, q_emp, q_ptr, q_nilp, q_fn, q_cond_true, q_cond_false, Bool.not_true, Bool.not_false, decide_true, decide_false, List.cons_append, List.nil_append, e2]
    have l2 : Lh σ σ2 := x2 σ (Nat.le_refl _) (x1 σ (Nat.le_refl _) lN)
    refine W.cells (σ' := σ) (r2.le l2) fun cs3 hc3 => ?_
    refine W.app g2' hc3 rfl (by simp only [List.nil_append, List.length_append, List.length_take, List.length_drop, List.length_cons, List.length_nil]; omega) (by simp only [List.nil_append, List.length_append, List.length_take, List.length_drop, List.length_cons, List.length_nil]; omega) fun v3 σ3 g3' x3 => ?_
    have l3 : Lh σ σ3 := x3 σ (Nat.le_refl _) l2
    refine W.ret ⟨?_, ?_, l3⟩
    · rw [he]
      have := g3'.rep (Q := FaceSig.Rep σ3) fun cs x _ h => FaceSig.Rep.le l3 h
      simpa [List.append_assoc] using this
    · obtain ⟨r, lim, row, rfl, _⟩ := g3'
      simp
  refine W.loop (S := Nat) (fun k => k ≤ acc.length ∧ ∀ (j : Nat) x, j < k → acc[j]? = some x → Op.bytesLess x.name.toList s.name.toList = true) (fun k => [.v v, .box [.str s.name, a3, .int .i64 s.type], .v (.int .i64 (k : Int))]) (fun _ => σ) (fun k => acc.length - k)
    (fun k ⟨hk, hless⟩ => ?_) 0 ⟨Nat.zero_le _, fun j x hj => absurd hj (Nat.not_lt_zero _)⟩
  refine W.to (fun k _ => by rw [spec_l3Put.L0_step]) ?_
  refine B.len hv (B.ite (fun hlt => ?_) fun hlt => ?_)
  · have hkl : k < acc.length := by omega
    have hx : acc[k]? = some acc[k] := List.getElem?_eq_getElem hkl
    generalize acc[k] = x at hx
    obtain ⟨r, o, hv', cs, hr, hP⟩ := hv.at' hx
    cases hP with
    | mk g2 =>
    have e0 : rdc σ r (o + 0) 1 = some [.str x.name] := rdc_sub hr 0 1 (by omega)
    try simp only [q_bind_some, castInt_int, q_castBool, q_castStr, q_castPtr, q_castFn, q_castAgg, q_castTuple, q_uncons, q_isNil, q_sl, q_nils, q_emp, q_ptr, q_nilp, q_fn, q_cond_true, q_cond_false, Bool.not_true, Bool.not_false, decide_true, decide_false, List.cons_append, List.nil_append, hv', e0]
    cases hb : Op.bytesLess x.name.toList s.name.toList with
    | true =>
      try simp only [q_bind_some, castInt_int, q_castBool, q_castStr, q_castPtr, q_castFn, q_castAgg, q_castTuple, q_uncons, q_isNil, q_sl, q_nils, q_emp, q_ptr, q_nilp, q_fn, q_cond_true, q_cond_false, Bool.not_true, Bool.not_false, decide_true, decide_false, List.cons_append, List.nil_append, wrap_next hkl (by omega)]
      refine W.again (k + 1) ⟨by omega, fun j y hj hy => ?_⟩ (by omega) rfl rfl
      by_cases hjk : j = k
      · subst hjk
        rw [hx] at hy
        injection hy with hy
        rw [← hy]; exact hb
      · exact hless j y (by omega) hy
    | false =>
      try simp only [q_bind_some, castInt_int, q_castBool, q_castStr, q_castPtr, q_castFn, q_castAgg, q_castTuple, q_uncons, q_isNil, q_sl, q_nils, q_emp, q_ptr, q_nilp, q_fn, q_cond_true, q_cond_false, Bool.not_true, Bool.not_false, decide_true, decide_false, List.cons_append, List.nil_append]
      exact W.out' _ (fin hk (insAt_split s acc k hk hless fun y hy => by rw [hx] at hy; injection hy with hy; rw [← hy]; exact hb)) fun k j m => rfl
  · try simp only [q_bind_some, castInt_int, q_castBool, q_castStr, q_castPtr, q_castFn, q_castAgg, q_castTuple, q_uncons, q_isNil, q_sl, q_nils, q_emp, q_ptr, q_nilp, q_fn, q_cond_true, q_cond_false, Bool.not_true, Bool.not_false, decide_true, decide_false, List.cons_append, List.nil_append]
    exact W.out' _ (fin hk (insAt_split s acc k hk hless fun y hy => by have := lt_of_get hy; omega)) fun k j m => rfl
theorem specFaceOf_ends {m : TreeMod} (hF : m.Fit) (ht : m.total ≤ 1048576) {σ : Heap} {cs : List V} (h : TreeMod.Rep σ cs m) : HM.Ends G n_spec_FaceOf [.agg cs] σ (fun w σ' => RepS 3 (FaceSig.Rep σ') σ' w (faceL m) ∧ Lh σ σ') := by
  have lN : Lh σ (hnew σ 3 []) := Lh.new _ _ _
  have c1 := specTreeOk_gives hF ht (TreeMod.Rep.le lN h)
  have r0 : RepS 3 (FaceSig.Rep (hnew σ 3 [])) (hnew σ 3 []) (.sl σ.length 0 0 true) ([] : List FaceSig) := (Grown.start σ 3 (FaceSig.Rep (hnew σ 3 [])) true).rep fun cs x _ h => h
  rw [TreeMod.total_eq] at ht
  cases h with
  | mk hU hFn hM =>
  rename_i a0 a1 a2
  refine HM.Ends.mk (W.to (fun k _ => spec_FaceOf.eq k _ _ _ _) ?_)
  refine W.give c1 fun σ1 l1 => ?_
  have l01 := lN.trans l1
  have r1 := r0.mono l1 fun cs x _ h => FaceSig.Rep.le l1 h
  by_cases hok : ModOk m
  rotate_left
  · try simp only [q_bind_some, castInt_int, q_castBool, q_castStr, q_castPtr, q_castFn, q_castAgg, q_castTuple, q_uncons, q_isNil, q_sl, q_nils, q_emp, q_ptr, q_nilp, q_fn, q_cond_true, q_cond_false, Bool.not_true, Bool.not_false, decide_true, decide_false, List.cons_append, List.nil_append, decide_eq_false hok]
    refine W.ret ⟨?_, l01⟩
    unfold faceL
    rw [if_neg hok]
    exact r1
  try simp only [q_bind_some, castInt_int, q_castBool, q_castStr, q_castPtr, q_castFn, q_castAgg, q_castTuple, q_uncons, q_isNil, q_sl, q_nils, q_emp, q_ptr, q_nilp, q_fn, q_cond_true, q_cond_false, Bool.not_true, Bool.not_false, decide_true, decide_false, List.cons_append, List.nil_append, decide_eq_true hok]
  have h8 := hok.2.1
  have hfl : faceL m = (pubs m.funs).foldl (fun acc s => insAt s acc) [] := by unfold faceL; rw [if_pos hok]; rfl
  rw [hfl]
  refine W.loop (S := Nat × V × Heap) (fun s => s.1 ≤ m.funs.length ∧ RepS 3 (FaceSig.Rep s.2.2) s.2.2 s.2.1 ((pubs (m.funs.take s.1)).foldl (fun acc s => insAt s acc) []) ∧ s.2.1 ≠ .emp ∧ Lh σ s.2.2)
    (fun s => [.box [a0, a1, a2], .v s.2.1, .v (.int .i64 (s.1 : Int))]) (fun s => s.2.2) (fun s => m.funs.length - s.1) (fun ⟨i, vi, σi⟩ ⟨hi, hR, hne, hl⟩ => ?_)
    (0, .sl σ.length 0 0 true, σ1) ⟨Nat.zero_le _, r1, by simp, l01⟩
  simp only at hi hR hne hl ⊢
  refine W.to (fun k _ => by rw [spec_FaceOf.L0_step]) ?_
  refine B.len hFn (B.ite (fun hlt => ?_) fun hlt => ?_)
  · have hil : i < m.funs.length := by omega
    have hx : m.funs[i]? = some m.funs[i] := List.getElem?_eq_getElem hil
    generalize m.funs[i] = f at hx
    have hpn := pubs_next hx
    have hlen : ((pubs (m.funs.take i)).foldl (fun acc s => insAt s acc) []).length ≤ 1000 := by
      have hfo : ∀ (l acc : List FaceSig), (l.foldl (fun acc s => insAt s acc) acc).length = acc.length + l.length := fun l => by
        induction l with
        | nil => intro acc; rfl
        | cons s l ih =>
          intro acc
          rw [List.foldl_cons, ih, (insAt_perm s acc).length_eq]
          simp
          omega
      rw [hfo]
      have := pubs_len (m.funs.take i)
      rw [List.length_take] at this
      simp
      omega
    obtain ⟨r, o, hv, cs, hr, hP⟩ := hFn.at' hx
    have hr' := hl.rdc hr
    have hfa : f.args.length ≤ 1048576 := by have := totS_mem TreeFun.total (List.mem_of_getElem? hx); have := TreeFun.total_eq f; omega
    have hc := specSig_ends hfa (TreeFun.Rep.le hl hP)
    cases hP with
    | mk g1 g2 =>
    have e1 : rdc σi r (o + 1) 1 = some [.bool f.pub] := rdc_sub hr' 1 1 (by omega)
    try simp only [q_bind_some, castInt_int, q_castBool, q_castStr, q_castPtr, q_castFn, q_castAgg, q_castTuple, q_uncons, q_isNil, q_sl, q_nils, q_emp, q_ptr, q_nilp, q_fn, q_cond_true, q_cond_false, Bool.not_true, Bool.not_false, decide_true, decide_false, List.cons_append, List.nil_append, hv, e1]
    refine B.cond (fun hp => ?_) fun hp => ?_
    · rw [if_pos hp] at hpn
      try simp only [q_bind_some, castInt_int, q_castBool, q_castStr, q_castPtr, q_castFn, q_castAgg, q_castTuple, q_uncons, q_isNil, q_sl, q_nils, q_emp, q_ptr, q_nilp, q_fn, q_cond_true, q_cond_false, Bool.not_true, Bool.not_false, decide_true, decide_false, List.cons_append, List.nil_append, hv, hr']
      refine B.call hc ?_
      rintro _ σ' ⟨av, R, rfl, hO⟩
      try simp only [q_bind_some, castInt_int, q_castBool, q_castStr, q_castPtr, q_castFn, q_castAgg, q_castTuple, q_uncons, q_isNil, q_sl, q_nils, q_emp, q_ptr, q_nilp, q_fn, q_cond_true, q_cond_false, Bool.not_true, Bool.not_false, decide_true, decide_false, List.cons_append, List.nil_append]
      refine B.call (l3Put_ends (hR.mono hO.le fun cs x _ h => FaceSig.Rep.le hO.le h) hne hlen (.mk hO.rep)) ?_
      rintro w σ'' ⟨p1, p2, p3⟩
      try simp only [q_bind_some, castInt_int, q_castBool, q_castStr, q_castPtr, q_castFn, q_castAgg, q_castTuple, q_uncons, q_isNil, q_sl, q_nils, q_emp, q_ptr, q_nilp, q_fn, q_cond_true, q_cond_false, Bool.not_true, Bool.not_false, decide_true, decide_false, List.cons_append, List.nil_append, wrap_next hil (by omega)]
      exact W.again (i + 1, w, σ'') ⟨by show i + 1 ≤ m.funs.length; omega, by rw [hpn, List.foldl_append]; exact p1, p2, hl.trans (hO.le.trans p3)⟩ (by simp only; omega) rfl rfl
    · rw [if_neg (by rw [hp]; simp), List.append_nil] at hpn
      try simp only [q_bind_some, castInt_int, q_castBool, q_castStr, q_castPtr, q_castFn, q_castAgg, q_castTuple, q_uncons, q_isNil, q_sl, q_nils, q_emp, q_ptr, q_nilp, q_fn, q_cond_true, q_cond_false, Bool.not_true, Bool.not_false, decide_true, decide_false, List.cons_append, List.nil_append, wrap_next hil (by omega)]
      exact W.again (i + 1, vi, σi) ⟨by show i + 1 ≤ m.funs.length; omega, by rw [hpn]; exact hR, hne, hl⟩ (by simp only; omega) rfl rfl
  · obtain rfl : i = m.funs.length := by omega
    rw [List.take_length] at hR
    try simp only [q_bind_some, castInt_int, q_castBool, q_castStr, q_castPtr, q_castFn, q_castAgg, q_castTuple, q_uncons, q_isNil, q_sl, q_nils, q_emp, q_ptr, q_nilp, q_fn, q_cond_true, q_cond_false, Bool.not_true, Bool.not_false, decide_true, decide_false, List.cons_append, List.nil_append, spec_FaceOf.A0_x0]
    exact W.ret ⟨hR, hl⟩
end Go.Y

/- The marks of modules and faces that are handed over. After markgen (MkF) and rowgen (RwF). -/
set_option linter.unusedVariables false
set_option linter.unusedSimpArgs false
namespace Go.Y
open Go.HM Go.Proofs
theorem maxS_mem {α : Type} (f : α → Nat) : ∀ {l : List α} {x : α}, x ∈ l → f x ≤ maxS f l
  | y :: l, x, h => by
    rw [maxS]
    rcases List.mem_cons.1 h with rfl | h
    · omega
    · have := maxS_mem f h
      omega
theorem PTreeExpr.of {σ : Heap} (hw : ∀ (r : Nat) row, σ[r]? = some (some row) → row.ro = false) : ∀ (d : Nat) (r o : Nat) (cs : List V) (x : TreeExpr), x.deep ≤ d → rdc σ r o 5 = some cs → TreeExpr.Rep σ cs x → ∃ ls, PTreeExpr d σ r o ls ∧ ls.length ≤ 8 + 8 * x.total
  | 0, r, o, cs, x, hd, _, _ => by rw [TreeExpr.deep_eq] at hd; omega
  | d + 1, r, o, cs, x, hd, hr, h => by
    rw [TreeExpr.deep_eq] at hd
    obtain ⟨row0, hrow0, _, _⟩ := rdc_some hr
    have hw0 : ∃ row, σ[r]? = some (some row) ∧ row.ro = false := ⟨row0, hrow0, hw r row0 hrow0⟩
    cases h with
    | mk h1 =>
    obtain ⟨l1, k1, b1⟩ := h1.lv (P := PTreeExpr d σ) (c := (fun y => 8 + 8 * TreeExpr.total y)) hw (fun r o cs y hy hw' hr hq => PTreeExpr.of hw d r o cs y (by have := maxS_mem TreeExpr.deep hy; omega) hr hq)
    rw [totS_lin] at b1
    refine ⟨_, ⟨_, l1, fl_of (f := 0) (x := .int .i64 x.kind) hw0 hr rfl rfl, fl_of (f := 1) (x := .int .i64 x.num) hw0 hr rfl rfl, fl_of (f := 2) (x := .str x.name) hw0 hr rfl trivial, fl_of (f := 3) (x := .str x.mod) hw0 hr rfl trivial, cl_of (f := 4) hr rfl h1.isSl, k1, rfl⟩, ?_⟩
    rw [TreeExpr.total_eq]
    simp only [List.length_append, List.length_cons, List.length_nil]
    omega
theorem PTreeFun.of {σ : Heap} (hw : ∀ (r : Nat) row, σ[r]? = some (some row) → row.ro = false) (d : Nat) (r o : Nat) (cs : List V) (x : TreeFun) (hd : x.body.deep ≤ d) (hr : rdc σ r o 9 = some cs) (h : TreeFun.Rep σ cs x) : ∃ ls, PTreeFun d σ r o ls ∧ ls.length ≤ 8 + 8 * x.total := by
  rw [TreeExpr.deep_eq] at hd
  obtain ⟨row0, hrow0, _, _⟩ := rdc_some hr
  have hw0 : ∃ row, σ[r]? = some (some row) ∧ row.ro = false := ⟨row0, hrow0, hw r row0 hrow0⟩
  cases h with
  | mk h1 h2 =>
  obtain ⟨l1, k1, b1⟩ := h1.lv (P := PTreeArg σ) (c := (fun y => 8 + 8 * TreeArg.total y)) hw (fun r o cs y _ hw' hr hq => PTreeArg.of r o cs y hw hr hq)
  obtain ⟨l2, k2, b2⟩ := h2.lv (P := PTreeExpr d σ) (c := (fun y => 8 + 8 * TreeExpr.total y)) hw (fun r o cs y hy hw' hr hq => PTreeExpr.of hw d r o cs y (by have := maxS_mem TreeExpr.deep hy; omega) hr hq)
  rw [totS_lin] at b1 b2
  refine ⟨_, ⟨_, l1, _, l2, fl_of (f := 0) (x := .str x.name) hw0 hr rfl trivial, fl_of (f := 1) (x := .bool x.pub) hw0 hr rfl trivial, cl_of (f := 2) hr rfl h1.isSl, k1, fl_of (f := 3) (x := .int .i64 x.type) hw0 hr rfl rfl,
    fl_of (f := 4) (x := .int .i64 x.body.kind) hw0 hr rfl rfl, fl_of (f := 5) (x := .int .i64 x.body.num) hw0 hr rfl rfl, fl_of (f := 6) (x := .str x.body.name) hw0 hr rfl trivial, fl_of (f := 7) (x := .str x.body.mod) hw0 hr rfl trivial, cl_of (f := 8) hr rfl h2.isSl, k2, rfl⟩, ?_⟩
  rw [TreeFun.total_eq, TreeExpr.total_eq]
  simp only [List.length_append, List.length_cons, List.length_nil]
  omega
/-- Rows that hold none of the places stay. -/
theorem marked_out {τ σ : Heap} {n : Nat} {L : List Leaf} (hc : ∀ k r o, (k, r, o) ∈ L → cellAt τ r o ≠ none) {j : Nat} (hj : ∀ row, τ[j]? ≠ some (some row)) : (wrs σ n L)[j]? = σ[j]? := wrs_out L fun l hl he => by
  obtain ⟨k, r, o⟩ := l
  cases hx : cellAt τ r o with
  | none => exact hc k r o hl hx
  | some x =>
    obtain ⟨row, h1, _⟩ := cellAt_some hx
    simp only at he
    subst he
    exact hj row h1
/-- The marks of a module in a window of the heap. -/
theorem mod_marks {lo hi : Nat} {σ : Heap} {cs : List V} {m : TreeMod} (h : TreeMod.Rep (win lo hi σ) cs m) (ht : m.total ≤ 1048576) :
    ∃ L : List Leaf, Runs G n_laws_markTreeMod [.agg cs, .int .i64 1] σ (.int .i64 ((1 + L.length : Nat) : Int)) (wrs σ 1 L) ∧ Shp (win lo hi σ) (wrs σ 1 L) ∧ L.length ≤ 33554432 ∧ (∀ k r o, (k, r, o) ∈ L → cellAt (win lo hi σ) r o ≠ none) := by
  have hw : ∀ (r : Nat) row, (win lo hi σ)[r]? = some (some row) → row.ro = false := fun r row hr => (win_get.1 hr).2.2
  have htot := ht
  rw [TreeMod.total_eq] at ht
  have hdeep : ∀ e : TreeExpr, e.total ≤ 1048576 → e.deep ≤ 1048577 := fun e he => by
    have := TreeExpr.deep_le e
    have := TreeExpr.many_le e
    omega
  cases h with
  | mk h0 h1 h2 =>
  obtain ⟨l0, v0, b0⟩ := h0.lv (P := PString (win lo hi σ)) (c := fun _ => 8) hw (fun r o cs x _ hw' hr hq => PString.of r o cs x hw' hr hq)
  obtain ⟨l1, v1, b1⟩ := h1.lv (P := PTreeFun 1048577 (win lo hi σ)) (c := fun y => 8 + 8 * TreeFun.total y) hw (fun r o cs x hx hw' hr hq => PTreeFun.of hw 1048577 r o cs x (hdeep _ (by have := totS_mem TreeFun.total hx; have := TreeFun.total_eq x; omega)) hr hq)
  obtain ⟨l2, v2, b2⟩ := h2.lv (P := PTreeExpr 1048577 (win lo hi σ)) (c := fun y => 8 + 8 * TreeExpr.total y) hw (fun r o cs x hx hw' hr hq => PTreeExpr.of hw 1048577 r o cs x (hdeep _ (by have := totS_mem TreeExpr.total hx; omega)) hr hq)
  rw [totS_eight] at b0
  rw [totS_lin] at b1 b2
  obtain ⟨m0, s0⟩ := markStringS_lv (σ0 := win lo hi σ) (σ := σ) (n := 1) (A := []) (Shp.lh (Lh.win lo hi σ)) v0 (Nat.le_refl _) (by simp only [List.length_nil]; omega)
  simp only [List.nil_append] at m0 s0
  obtain ⟨m1, s1⟩ := markTreeFunS_lv (n := 1) s0 v1 (Nat.le_refl _) (by omega)
  obtain ⟨m2, s2⟩ := markTreeExprS_lv (n := 1) s1 v2 (Nat.le_refl _) (by rw [List.length_append]; omega)
  refine ⟨l0.flatten ++ l1.flatten ++ l2.flatten, ?_, s2, by simp only [List.length_append]; omega, fun k r o hm => ?_⟩
  · refine Runs.of (W.to (fun k _ => laws_markTreeMod.eq k _ _ _ _ _) ?_)
    refine W.run m0 ?_
    try simp only [q_bind_some, castInt_int, q_castBool, q_castStr, q_castPtr, q_castFn, q_castAgg, q_castTuple, q_uncons, q_isNil, q_sl, q_nils, q_emp, q_ptr, q_nilp, q_fn, q_cond_true, q_cond_false, Bool.not_true, Bool.not_false, decide_true, decide_false, List.cons_append, List.nil_append]
    refine W.run m1 ?_
    try simp only [q_bind_some, castInt_int, q_castBool, q_castStr, q_castPtr, q_castFn, q_castAgg, q_castTuple, q_uncons, q_isNil, q_sl, q_nils, q_emp, q_ptr, q_nilp, q_fn, q_cond_true, q_cond_false, Bool.not_true, Bool.not_false, decide_true, decide_false, List.cons_append, List.nil_append]
    refine W.run m2 ?_
    try simp only [q_bind_some, castInt_int, q_castBool, q_castStr, q_castPtr, q_castFn, q_castAgg, q_castTuple, q_uncons, q_isNil, q_sl, q_nils, q_emp, q_ptr, q_nilp, q_fn, q_cond_true, q_cond_false, Bool.not_true, Bool.not_false, decide_true, decide_false, List.cons_append, List.nil_append]
    exact W.ret ⟨by simp only [List.length_append], rfl⟩
  · rcases List.mem_append.1 hm with hm | hm
    · rcases List.mem_append.1 hm with hm | hm
      · exact v0.cells (fun r o ls h => PString.cells h) k r o hm
      · exact v1.cells (fun r o ls h => PTreeFun.cells h) k r o hm
    · exact v2.cells (fun r o ls h => PTreeExpr.cells h) k r o hm
end Go.Y

/- What the law on FaceOf computes. -/
set_option linter.unusedVariables false
set_option linter.unusedSimpArgs false
namespace Go.Y
open Go.HM Go.Proofs
theorem face_mem {m : TreeMod} (hok : ModOk m) {x : FaceSig} (hx : x ∈ faceL m) : ∃ f, f ∈ m.funs ∧ x = sigOf f := by
  unfold faceL at hx
  rw [if_pos hok] at hx
  have h1 := (sortL_sorted (pubs_nodup hok)).2.mem_iff.1 hx
  unfold pubs at h1
  obtain ⟨f, hf, rfl⟩ := List.mem_map.1 h1
  exact ⟨f, (List.mem_filter.1 hf).1, rfl⟩
theorem face_small (m : TreeMod) : (faceL m).length ≤ 8 ∧ ∀ x, x ∈ faceL m → x.args.length ≤ 4 := by
  by_cases hok : ModOk m
  · refine ⟨?_, fun x hx => ?_⟩
    · unfold faceL
      rw [if_pos hok, (sortL_sorted (pubs_nodup hok)).2.length_eq]
      have := pubs_len m.funs
      have := hok.2.1
      omega
    · obtain ⟨f, hf, rfl⟩ := face_mem hok hx
      show (f.args.map (·.type)).length ≤ 4
      rw [List.length_map]
      exact (hok.2.2.2.2.2.1 f hf).2.1
  · unfold faceL
    rw [if_neg hok]
    exact ⟨by simp, fun x hx => by cases hx⟩
theorem face_fit {m : TreeMod} (hm : m.Fit) : ∀ x, x ∈ faceL m → x.Fit := by
  intro x hx
  by_cases hok : ModOk m
  · obtain ⟨f, hf, rfl⟩ := face_mem hok hx
    cases hm with
    | mk m0 m1 m2 m3 m4 m5 =>
    cases m3 f hf with
    | mk f0 f1 f2 f3 f4 =>
    refine .mk f0 (by simpa [sigOf] using f1) (fun x hx => ?_) f3
    obtain ⟨a, ha, rfl⟩ := List.mem_map.1 hx
    cases f2 a ha with
    | mk a0 a1 => exact a1
  · unfold faceL at hx
    rw [if_neg hok] at hx
    cases hx
theorem tot_cap {α : Type} {f : α → Nat} (c : Nat) : ∀ l : List α, (∀ x, x ∈ l → f x ≤ c) → totS f l ≤ c * l.length
  | [], _ => by simp [totS]
  | x :: l, h => by
    have h1 := tot_cap c l fun y hy => h y (by simp [hy])
    have h2 := h x (by simp)
    simp only [totS, List.length_cons, Nat.mul_add]
    omega
/-- The marks of a face, and what holds them. -/
theorem face_marks {σi : Heap} {v : V} {l : List FaceSig} {R : List Nat} (h : RepR 3 (RSig σi) σi v l R) (hn : R.Nodup) (hl : l.length ≤ 8) (ha : ∀ x, x ∈ l → x.args.length ≤ 4) :
    ∃ L : List Leaf, Runs G n_laws_markFaceSigS [v, .int .i64 1] σi (.int .i64 ((1 + L.length : Nat) : Int)) (wrs σi 1 L) ∧ (∀ j, j ∉ R → (wrs σi 1 L)[j]? = σi[j]?) ∧
      ∀ σ', Lh (wrs σi 1 L) σ' → Runs G n_laws_heldFaceSigS [v, .int .i64 1] σ' (.int .i64 ((1 + L.length : Nat) : Int)) σ' := by
  obtain ⟨l8, v8, o8, b8⟩ := h.lv (P := PFaceSig σi) (c := fun y => 8 + 8 * y.args.length) hn (fun r o cs x R hw hr hq hn hrn => RSig.lv r o cs x R hw hr hq hn hrn)
  have hb := tot_cap (f := fun y : FaceSig => 8 + 8 * y.args.length) 40 l fun x hx => by have := ha x hx; omega
  have hheld := held_wrs l8.flatten (σ := σi) (n := 1) (v8.cells (fun r o ls h => PFaceSig.cells h)) o8.1
  obtain ⟨m8, s8⟩ := markFaceSigS_lv (σ0 := σi) (σ := σi) (n := 1) (A := []) (Shp.refl _) v8 (Nat.le_refl _) (by simp only [List.length_nil]; omega)
  simp only [List.nil_append] at m8 s8
  exact ⟨l8.flatten, m8, fun j hj => wrs_out _ fun l hl he => hj (he ▸ o8.2 l hl), fun σ' hl' => heldFaceSigS_lv (n := 1) (s8.le hl') v8 (hheld.le hl') (Nat.le_refl _) (by omega)⟩
theorem FaceP.rep {σ' : Heap} {l : List FaceSig} {v : V} {R : List Nat} (h : RepR 3 (RSig σ') σ' v l R) : RepS 3 (FaceSig.Rep σ') σ' v l := h.rep fun cs x R _ hq => RSig.rep cs x R hq
theorem FnExactFaceOf_law {σ : Heap} {y0 : TreeMod} (f0 : TreeMod.Fit y0) {xs0 : List V} (r0 : TreeMod.Rep σ xs0 y0) : ∃ σ', Runs G n_laws_FnExactFaceOf [.agg xs0] σ (.bool true) σ' := by
  refine Ends.true (Ends.mk ?_)
  have c0 := szTreeMod_runs y0 f0 r0 (b := 1048576) (by omega) (by omega)
  have q0 := r0
  cases q0 with
  | mk p0 p1 p2 =>
  refine W.to (fun k _ => laws_FnExactFaceOf.eq k _ _ _ _) ?_
  refine W.run c0 ?_
  try simp only [q_bind_some, castInt_int, q_castBool, q_castStr, q_castPtr, q_castFn, q_castAgg, q_castTuple, q_uncons, q_isNil, q_sl, q_nils, q_emp, q_ptr, q_nilp, q_fn, q_cond_true, q_cond_false, Bool.not_true, Bool.not_false, decide_true, decide_false, List.cons_append, List.nil_append]
  refine W.ite (fun _ => W.ret rfl) fun hs => ?_
  have ht : y0.total ≤ 1048576 := by have := sub_cases 1048576 y0.total; omega
  have toM : ∀ {σ' : Heap}, Lh σ σ' → _ := fun {σ'} hl => toTreeMod_runs y0 ht (σ := σ') (r0.le hl)
  have hfit := face_fit f0
  obtain ⟨hl8, hl4⟩ := face_small y0
  have upR : ∀ {a b : Heap} {v : V}, Lh a b → RepS 3 (FaceSig.Rep a) a v (faceL y0) → RepS 3 (FaceSig.Rep b) b v (faceL y0) := fun hl h => h.mono hl fun cs x _ h => FaceSig.Rep.le hl h
  have eqS : ∀ {σ' : Heap} {a b : V}, RepS 3 (FaceSig.Rep σ') σ' a (faceL y0) → RepS 3 (FaceSig.Rep σ') σ' b (faceL y0) → Runs G n_laws_eqFaceSigS [a, b] σ' (.bool true) σ' := fun h h' => by
    obtain ⟨b, c, hb⟩ := eqFaceSigS_runs (by omega) h h' (fun x hx y cs cs' hr hr' => eqFaceSig_runs x y (hfit x hx) hr hr')
    obtain rfl := hb.2 rfl
    exact c
  obtain ⟨cs1, σ1, c1, l1, r1⟩ := toM (Lh.refl σ)
  have d1 := r1.le (Lh.wipe _ _)
  have q1 := d1
  cases q1 with
  | mk g0 g1 g2 =>
  refine W.run c1 ?_
  try simp only [q_bind_some, castInt_int, q_castBool, q_castStr, q_castPtr, q_castFn, q_castAgg, q_castTuple, q_uncons, q_isNil, q_sl, q_nils, q_emp, q_ptr, q_nilp, q_fn, q_cond_true, q_cond_false, Bool.not_true, Bool.not_false, decide_true, decide_false, List.cons_append, List.nil_append]
  refine W.call (specFaceOf_ends f0 ht d1) ?_
  rintro v3 σ3 ⟨S3, l13⟩
  have l3 := l1.trans l13
  try simp only [q_bind_some, castInt_int, q_castBool, q_castStr, q_castPtr, q_castFn, q_castAgg, q_castTuple, q_uncons, q_isNil, q_sl, q_nils, q_emp, q_ptr, q_nilp, q_fn, q_cond_true, q_cond_false, Bool.not_true, Bool.not_false, decide_true, decide_false, List.cons_append, List.nil_append]
  obtain ⟨cs4, σ4, c4, l4, r4⟩ := toM l3
  have d4 := r4.le (Lh.wipe _ _)
  have q4 := d4
  cases q4 with
  | mk g0 g1 g2 =>
  refine W.run c4 ?_
  try simp only [q_bind_some, castInt_int, q_castBool, q_castStr, q_castPtr, q_castFn, q_castAgg, q_castTuple, q_uncons, q_isNil, q_sl, q_nils, q_emp, q_ptr, q_nilp, q_fn, q_cond_true, q_cond_false, Bool.not_true, Bool.not_false, decide_true, decide_false, List.cons_append, List.nil_append]
  refine W.call (implFaceOf_ends f0 ht d4) ?_
  rintro v6 σ6 ⟨R6, O6, n6, lo6, l46⟩
  try simp only [q_bind_some, castInt_int, q_castBool, q_castStr, q_castPtr, q_castFn, q_castAgg, q_castTuple, q_uncons, q_isNil, q_sl, q_nils, q_emp, q_ptr, q_nilp, q_fn, q_cond_true, q_cond_false, Bool.not_true, Bool.not_false, decide_true, decide_false, List.cons_append, List.nil_append]
  have l36 := l4.trans l46
  refine W.run (eqS (FaceP.rep O6) (upR l36 S3)) ?_
  try simp only [q_bind_some, castInt_int, q_castBool, q_castStr, q_castPtr, q_castFn, q_castAgg, q_castTuple, q_uncons, q_isNil, q_sl, q_nils, q_emp, q_ptr, q_nilp, q_fn, q_cond_true, q_cond_false, Bool.not_true, Bool.not_false, decide_true, decide_false, List.cons_append, List.nil_append]
  obtain ⟨cs7, σ7, c7, l7, r7⟩ := toM (l3.trans l36)
  have d7 := r7.le (Lh.wipe _ _)
  have q7 := d7
  cases q7 with
  | mk g0 g1 g2 =>
  refine W.run c7 ?_
  try simp only [q_bind_some, castInt_int, q_castBool, q_castStr, q_castPtr, q_castFn, q_castAgg, q_castTuple, q_uncons, q_isNil, q_sl, q_nils, q_emp, q_ptr, q_nilp, q_fn, q_cond_true, q_cond_false, Bool.not_true, Bool.not_false, decide_true, decide_false, List.cons_append, List.nil_append]
  have l47 := l46.trans l7
  obtain ⟨be, ce, hbe⟩ := eqTreeMod_runs y0 y0 f0 (d4.le l47) d7
  obtain rfl := hbe.2 rfl
  refine W.run ce ?_
  try simp only [q_bind_some, castInt_int, q_castBool, q_castStr, q_castPtr, q_castFn, q_castAgg, q_castTuple, q_uncons, q_isNil, q_sl, q_nils, q_emp, q_ptr, q_nilp, q_fn, q_cond_true, q_cond_false, Bool.not_true, Bool.not_false, decide_true, decide_false, List.cons_append, List.nil_append]
  have lwM := Lh.ofWipe (lo := σ3.length) (hi := σ4.length) l47 (Nat.le_refl _)
  obtain ⟨A, cA, sA, bA, eA⟩ := mod_marks (r4.le lwM) ht
  have oA : ∀ j, (j < σ3.length ∨ σ4.length ≤ j) → (wrs σ7 1 A)[j]? = σ7[j]? := fun j hj => marked_out (τ := win σ3.length σ4.length σ7) eA fun row hrow => by
    obtain ⟨⟨h1, h2⟩, _⟩ := win_get.1 hrow
    omega
  refine W.run cA ?_
  have hpA : ¬ (((1 + A.length : Nat) : Int) < 0) := by omega
  try simp only [q_bind_some, castInt_int, q_castBool, q_castStr, q_castPtr, q_castFn, q_castAgg, q_castTuple, q_uncons, q_isNil, q_sl, q_nils, q_emp, q_ptr, q_nilp, q_fn, q_cond_true, q_cond_false, Bool.not_true, Bool.not_false, decide_true, decide_false, List.cons_append, List.nil_append, decide_eq_false hpA]
  have hl9 : (wrs σ7 1 A).length = σ7.length := wrs_len _ _ _
  have l37 := l36.trans l7
  have l39 : Lh σ3 (wrs σ7 1 A) := ⟨by rw [hl9]; exact l37.len, fun j row hj => by rw [oA j (.inl (get_lt hj))]; exact l37.row j row hj⟩
  have O7 : RepR 3 (RSig σ7) σ7 v6 (faceL y0) R6 := O6.le l7 fun cs x R hq => RSig.le l7 cs x R hq
  have O9 : RepR 3 (RSig (wrs σ7 1 A)) (wrs σ7 1 A) v6 (faceL y0) R6 := O7.keep (fun j hj => oA j (.inr (lo6 j hj))) fun cs x R hq hk => RSig.keep cs x R hq hk
  refine W.run (eqS (FaceP.rep O9) (upR l39 S3)) ?_
  try simp only [q_bind_some, castInt_int, q_castBool, q_castStr, q_castPtr, q_castFn, q_castAgg, q_castTuple, q_uncons, q_isNil, q_sl, q_nils, q_emp, q_ptr, q_nilp, q_fn, q_cond_true, q_cond_false, Bool.not_true, Bool.not_false, decide_true, decide_false, List.cons_append, List.nil_append]
  obtain ⟨L6, c10, o10, held⟩ := face_marks O9 n6 hl8 hl4
  refine W.run c10 ?_
  try simp only [q_bind_some, castInt_int, q_castBool, q_castStr, q_castPtr, q_castFn, q_castAgg, q_castTuple, q_uncons, q_isNil, q_sl, q_nils, q_emp, q_ptr, q_nilp, q_fn, q_cond_true, q_cond_false, Bool.not_true, Bool.not_false, decide_true, decide_false, List.cons_append, List.nil_append]
  refine W.run (held _ (Lh.refl _)) ?_
  have hp6 : ¬ (((1 + L6.length : Nat) : Int) < 0) := by omega
  try simp only [q_bind_some, castInt_int, q_castBool, q_castStr, q_castPtr, q_castFn, q_castAgg, q_castTuple, q_uncons, q_isNil, q_sl, q_nils, q_emp, q_ptr, q_nilp, q_fn, q_cond_true, q_cond_false, Bool.not_true, Bool.not_false, decide_true, decide_false, List.cons_append, List.nil_append, decide_eq_false hp6, decide_true]
  have n3 := l4.len
  have l310 : Lh σ3 (wrs (wrs σ7 1 A) 1 L6) := ⟨by rw [wrs_len, hl9]; exact l37.len, fun j row hj => by
    rw [o10 j fun hc => by have := lo6 j hc; have := get_lt hj; omega]
    exact l39.row j row hj⟩
  generalize wrs (wrs σ7 1 A) 1 L6 = σ10 at held l310 o10
  obtain ⟨cs11, σ11, c11, l11, r11⟩ := toM (l3.trans l310)
  have d11 := r11.le (Lh.wipe _ _)
  have q11 := d11
  cases q11 with
  | mk g0 g1 g2 =>
  refine W.run c11 ?_
  try simp only [q_bind_some, castInt_int, q_castBool, q_castStr, q_castPtr, q_castFn, q_castAgg, q_castTuple, q_uncons, q_isNil, q_sl, q_nils, q_emp, q_ptr, q_nilp, q_fn, q_cond_true, q_cond_false, Bool.not_true, Bool.not_false, decide_true, decide_false, List.cons_append, List.nil_append]
  refine W.call (implFaceOf_ends f0 ht d11) ?_
  rintro v13 σ13 ⟨R13, O13, _, _, l1113⟩
  try simp only [q_bind_some, castInt_int, q_castBool, q_castStr, q_castPtr, q_castFn, q_castAgg, q_castTuple, q_uncons, q_isNil, q_sl, q_nils, q_emp, q_ptr, q_nilp, q_fn, q_cond_true, q_cond_false, Bool.not_true, Bool.not_false, decide_true, decide_false, List.cons_append, List.nil_append]
  have l1013 := l11.trans l1113
  refine W.run (eqS (FaceP.rep O13) (upR (l310.trans l1013) S3)) ?_
  try simp only [q_bind_some, castInt_int, q_castBool, q_castStr, q_castPtr, q_castFn, q_castAgg, q_castTuple, q_uncons, q_isNil, q_sl, q_nils, q_emp, q_ptr, q_nilp, q_fn, q_cond_true, q_cond_false, Bool.not_true, Bool.not_false, decide_true, decide_false, List.cons_append, List.nil_append]
  refine W.run (held _ l1013) ?_
  try simp only [q_bind_some, castInt_int, q_castBool, q_castStr, q_castPtr, q_castFn, q_castAgg, q_castTuple, q_uncons, q_isNil, q_sl, q_nils, q_emp, q_ptr, q_nilp, q_fn, q_cond_true, q_cond_false, Bool.not_true, Bool.not_false, decide_true, decide_false, List.cons_append, List.nil_append, decide_eq_false hp6, decide_true]
  exact W.ret rfl
end Go.Y
