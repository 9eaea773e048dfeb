/- TreeOk of the reference. -/
import Derived.Test.YthcinellhbmcoaaY
set_option linter.unusedVariables false
set_option linter.unusedSimpArgs false
namespace Go.X3
open Go.HM Go.Proofs
def ModOk (m : TreeMod) : Prop := m.uses.length ≤ 4 ∧ m.funs.length ≤ 8 ∧ m.main.length ≤ 1 ∧ AllNames m.uses ∧ sizesOk 0 (bodies m) ∧ (∀ f, f ∈ m.funs → FunOk f) ∧ AllNames (m.funs.map (·.name)) ∧ ∀ e, e ∈ m.main → Right e
noncomputable instance (m : TreeMod) : Decidable (ModOk m) := Classical.propDecidable _
theorem specTreeOk_gives {σ : Heap} {m : TreeMod} (hF : m.Fit) (htot : m.total ≤ 1048576) {cs : List V} (hr : TreeMod.Rep σ cs m) : Gives G n_spec_TreeOk [.agg cs] σ (.bool (decide (ModOk m))) := by
  have c2 : ∀ σ', Lh σ σ' → Runs G n_spec_l2Size [.agg cs] σ' (.bool (decide (sizesOk 0 (bodies m)))) σ' := fun σ' hl => l2Size_runs htot (TreeMod.Rep.le hl hr)
  cases hF with
  | mk f0 f1 f2 f3 f4 f5 =>
  cases hr with
  | mk h0 h1 h2 =>
  rename_i a1 a2 a3
  by_cases k1 : 4 < m.uses.length
  · refine Gives.mk (Lh.refl σ) (Ev.now fun k => ?_)
    have : ¬ ModOk m := fun h => by have := h.1; omega
    have k1' : (4 : Int) < (m.uses.length : Int) := by omega
    rw [spec_TreeOk.eq, h0.vlen]; simp only [Option.bind_some, k1', decide_true, cond_true, this, decide_false]
  by_cases k2 : 8 < m.funs.length
  · refine Gives.mk (Lh.refl σ) (Ev.now fun k => ?_)
    have : ¬ ModOk m := fun h => by have := h.2.1; omega
    have k1' : ¬ (4 : Int) < (m.uses.length : Int) := by omega
    have k2' : (8 : Int) < (m.funs.length : Int) := by omega
    rw [spec_TreeOk.eq, h0.vlen, h1.vlen]; simp only [Option.bind_some, k1', k2', decide_true, cond_true, this, decide_false, cond_false]
  by_cases k3 : 1 < m.main.length
  · refine Gives.mk (Lh.refl σ) (Ev.now fun k => ?_)
    have : ¬ ModOk m := fun h => by have := h.2.2.1; omega
    have k1' : ¬ (4 : Int) < (m.uses.length : Int) := by omega
    have k2' : ¬ (8 : Int) < (m.funs.length : Int) := by omega
    have k3' : (1 : Int) < (m.main.length : Int) := by omega
    rw [spec_TreeOk.eq, h0.vlen, h1.vlen, h2.vlen]; simp only [Option.bind_some, k1', k2', k3', decide_true, cond_true, this, decide_false, cond_false]
  have k1' : ¬ (4 : Int) < (m.uses.length : Int) := by omega
  have k2' : ¬ (8 : Int) < (m.funs.length : Int) := by omega
  have k3' : ¬ (1 : Int) < (m.main.length : Int) := by omega
  obtain ⟨σ1, l1, c1⟩ := l2Uses_gives σ h0 f0 f1
  by_cases hU : AllNames m.uses
  rotate_left
  · refine Gives.mk l1 (c1.mono fun k e1 => ?_)
    have : ¬ ModOk m := fun h => hU h.2.2.2.1
    rw [spec_TreeOk.eq, h0.vlen, h1.vlen, h2.vlen]; simp only [Option.bind_some, k1', k2', k3', decide_false, cond_false, e1, castBool_bool, hU, Bool.not_false, cond_true, this]
  have c2' := c2 σ1 l1
  by_cases hS : sizesOk 0 (bodies m)
  rotate_left
  · refine Gives.mk l1 ((c1.and c2').mono fun k ⟨e1, e2⟩ => ?_)
    have : ¬ ModOk m := fun h => hS h.2.2.2.2.1
    rw [spec_TreeOk.eq, h0.vlen, h1.vlen, h2.vlen]; simp only [Option.bind_some, k1', k2', k3', decide_false, cond_false, e1, castBool_bool, hU, decide_true, Bool.not_true, e2, hS, Bool.not_false, cond_true, this]
  obtain ⟨w, σ', ⟨hl, rfl⟩, he⟩ := loop (L := spec_TreeOk.L0) (A := spec_TreeOk.A0) (S := Nat × V × Heap)
    (Inv := fun s => s.1 ≤ m.funs.length ∧ Lh σ1 s.2.2 ∧ Grown σ1.length 1 StrRep s.2.2 s.2.1 ((m.funs.take s.1).map (·.name)) ∧ ∀ f, f ∈ m.funs.take s.1 → FunOk f) (Good := fun w σ' => Lh σ σ' ∧ w = .bool (decide (ModOk m)))
    (vals := fun s => [.box [a1, a2, a3], .v s.2.1, .v (.int .i64 (s.1 : Int))]) (hp := fun s => s.2.2) (far := fun s => m.funs.length - s.1) (fun ⟨i, u, σi⟩ ⟨hi, hle, hg, hok⟩ => by
      simp only at hi hle hg hok ⊢
      have hle0 := l1.trans hle
      by_cases hlt : i < m.funs.length
      · obtain ⟨r, o, hv, cs, hr, hP⟩ := h1.at hlt
        have hm : m.funs[i] ∈ m.funs := List.getElem_mem hlt
        have hfit := f3 _ hm
        have ht := take_next hlt
        have hw : IntKind.wrap .i64 ((i : Int) + 1) = ((i + 1 : Nat) : Int) := wrap_id (by omega) (by omega)
        have hli : ((m.funs.take i).map (·.name)).length ≤ 8 := by rw [List.length_map, List.length_take]; omega
        generalize m.funs[i] = x at hP ht hm hfit
        obtain ⟨u', σ2, ha, hg', hk⟩ := hg.app (bytes := 16) (Chunks.one (P := StrRep) (cs := [.str x.name]) (x := x.name) rfl) (by simp only [List.length_singleton]; omega) (by simp only [List.length_singleton]; omega)
        have ha' : vappend 1 16 σi u 1 [.str x.name] = some (u', σ2) := ha
        have hl2 := hk σ1 (Nat.le_refl _) hle
        have hl3 := l1.trans hl2
        obtain ⟨σ3, l3, c3⟩ := l2Fun_gives hfit (TreeFun.Rep.le hl3 hP)
        have g1 := rdc_sub (hle0.rdc hr) 0 1 (by omega)
        have g2 := hl3.rdc hr
        cases hP with
        | mk q0 q1 =>
        have g1' : rdc σi r (o + 0) 1 = some [.str x.name] := g1
        by_cases hFk : FunOk x
        · refine .inr ⟨(i + 1, u', σ3), ⟨hlt, hl2.trans l3, ?_, fun y hy => ?_⟩, by simp only; omega, c3.mono fun k e3 m => ?_⟩
          · simp only
            rw [ht, List.map_append]
            exact hg'.le l3
          · rw [ht] at hy
            rcases List.mem_append.1 hy with h | h
            · exact hok y h
            · simp at h; rw [h]; exact hFk
          · rw [spec_TreeOk.L0_step, h1.vlen]
            simp only [Option.bind_some, Int.ofNat_lt, hlt, decide_true, cond_true, hv, g1', ha', g2, uncons_cons, castStr_str, castBool_bool, castInt_int, isNil_nil, e3, hFk, Bool.not_true, cond_false, hw]
        · refine .inl ⟨_, σ3, ⟨hl3.trans l3, rfl⟩, c3.mono fun k e3 m' => ?_⟩
          have : ¬ ModOk m := fun h => hFk (h.2.2.2.2.2.1 _ hm)
          rw [spec_TreeOk.L0_step, h1.vlen]
          simp only [Option.bind_some, Int.ofNat_lt, hlt, decide_true, cond_true, hv, g1', ha', g2, uncons_cons, castStr_str, castBool_bool, castInt_int, isNil_nil, e3, hFk, decide_false, Bool.not_false, spec_TreeOk.A0_ret, this]
      · rw [List.take_of_length_le (by omega)] at hg hok
        have hR : RepS 1 StrRep σi u (m.funs.map (·.name)) := hg.rep fun cs x _ h => h
        obtain ⟨σ2, l2, c4⟩ := l2Uses_gives σi hR (by rw [List.length_map]; omega) (fun x hx => by
          obtain ⟨f, hf, rfl⟩ := List.mem_map.1 hx
          have := f3 f hf
          cases this with | mk g0 => exact g0)
        have hlt' : ¬ (i : Int) < (m.funs.length : Int) := by omega
        by_cases hN : AllNames (m.funs.map (·.name))
        rotate_left
        · refine .inl ⟨_, σ2, ⟨hle0.trans l2, rfl⟩, c4.mono fun k e4 m' => ?_⟩
          have : ¬ ModOk m := fun h => hN h.2.2.2.2.2.2.1
          rw [spec_TreeOk.L0_step, h1.vlen]
          simp only [Option.bind_some, hlt', decide_false, cond_false, spec_TreeOk.A0_x0, e4, castBool_bool, hN, this]
        by_cases hm0 : m.main.length = 0
        · refine .inl ⟨_, σ2, ⟨hle0.trans l2, rfl⟩, c4.mono fun k e4 m' => ?_⟩
          have hnil : m.main = [] := List.length_eq_zero_iff.1 hm0
          have : ModOk m := ⟨by omega, by omega, by omega, hU, hS, hok, hN, fun e he => by rw [hnil] at he; cases he⟩
          have hm0' : (m.main.length : Int) = 0 := by omega
          rw [spec_TreeOk.L0_step, h1.vlen]
          simp only [Option.bind_some, hlt', decide_false, cond_false, spec_TreeOk.A0_x0, e4, castBool_bool, hN, decide_true, cond_true, h2.vlen, hm0', this]
        · have h0l : 0 < m.main.length := by omega
          have l02 := hle0.trans l2
          obtain ⟨r, o, hv, cs, hr, hP⟩ := h2.at h0l
          obtain ⟨σ3, l3, c5⟩ := l2Expr_gives m.main[0] (f5 _ (List.getElem_mem h0l)) (σ := σ2) (TreeExpr.Rep.le l02 _ hP)
          have hr2 := l02.rdc hr
          have hall : (∀ e, e ∈ m.main → Right e) ↔ Right m.main[0] := by
            constructor
            · intro h; exact h _ (List.getElem_mem h0l)
            · intro h e he
              obtain ⟨j, hj, rfl⟩ := List.getElem_of_mem he
              have : j = 0 := by omega
              subst this
              exact h
          have hmk : ModOk m ↔ Right m.main[0] := ⟨fun h => hall.1 h.2.2.2.2.2.2.2, fun h => ⟨by omega, by omega, by omega, hU, hS, hok, hN, hall.2 h⟩⟩
          have hdec : decide (ModOk m) = decide (Right m.main[0]) := by simp [hmk]
          rw [hdec]
          generalize m.main[0] = x at hP c5
          cases hP with
          | mk q =>
          refine .inl ⟨_, σ3, ⟨l02.trans l3, rfl⟩, (c4.and c5).mono fun k ⟨e4, e5⟩ m' => ?_⟩
          have hm0' : ¬ (m.main.length : Int) = 0 := by omega
          have hv' : vidx 5 a3 0 = some (r, o) := hv
          rw [spec_TreeOk.L0_step, h1.vlen]
          simp only [Option.bind_some, hlt', decide_false, cond_false, spec_TreeOk.A0_x0, e4, castBool_bool, hN, decide_true, cond_true, h2.vlen, hm0', hv', hr2, uncons_cons, castInt_int, castStr_str, isNil_nil, e5]) (0, .sl σ1.length 0 0 true, hnew σ1 1 []) ⟨Nat.zero_le _, Lh.new _ _ _, Grown.start σ1 1 StrRep true, fun f hf => by simp at hf⟩
  refine Gives.mk hl ((Ev.and c1 (Ev.and c2' (Ev.far m.funs.length he))).mono fun k ⟨e1, e2, e3, hk⟩ => ?_)
  rw [spec_TreeOk.eq, h0.vlen, h1.vlen, h2.vlen]; simp only [Option.bind_some, k1', k2', k3', decide_false, cond_false, e1, castBool_bool, hU, decide_true, Bool.not_true, e2, hS]
  exact e3 k (by simpa using hk)
end Go.X3
