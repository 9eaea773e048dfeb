/- What the reference asks of a function. -/
import Derived.Test.YthcinellhbmcoaaV
set_option linter.unusedVariables false
set_option linter.unusedSimpArgs false
namespace Go.X3
open Go.HM Go.Proofs
theorem l2Fun_gives {σ : Heap} {f : TreeFun} (hF : f.Fit) {cs : List V} (hr : TreeFun.Rep σ cs f) : Gives G n_spec_l2Fun [.agg cs] σ (.bool (decide (FunOk f))) := by
  cases hF with
  | mk f0 f1 f2 f3 f4 =>
  cases hr with
  | mk h1 h2 =>
  rename_i a3 a9
  have hargs : ∀ x, x ∈ f.args → x.name.size ≤ 9223372036854775807 := fun x hx => by have := f2 x hx; cases this with | mk g0 g1 => exact g0
  obtain ⟨σ1, l1, c1⟩ := specLexName_gives σ f.name f0
  by_cases hn : IsName f.name
  rotate_left
  · refine Gives.mk l1 (c1.mono fun k e1 => ?_)
    have : ¬ FunOk f := fun h => hn h.1
    rw [spec_l2Fun.eq]; simp [e1, hn, this]
  by_cases h4 : 4 < f.args.length
  · refine Gives.mk l1 (c1.mono fun k e1 => ?_)
    have : ¬ FunOk f := fun h => by have := h.2.1; omega
    have h4' : (4 : Int) < (f.args.length : Int) := by omega
    rw [spec_l2Fun.eq, h1.vlen]; simp only [e1, hn, decide_true, Bool.not_true, cond_false, Option.bind_some, castBool_bool, h4', cond_true]; simp [this]
  have h4' : ¬ (4 : Int) < (f.args.length : Int) := by omega
  obtain ⟨s, hs, σ2, l2, c2⟩ := treeType_gives σ1 f.type
  by_cases ht : IsType f.type
  rotate_left
  · refine Gives.mk (l1.trans l2) ((c1.and c2).mono fun k ⟨e1, e2⟩ => ?_)
    have : ¬ FunOk f := fun h => ht h.2.2.1
    have hs' := hs.2 ht
    rw [spec_l2Fun.eq, h1.vlen]; simp only [e1, hn, decide_true, Bool.not_true, cond_false, Option.bind_some, castBool_bool, h4', decide_false, e2, castStr_str, hs', cond_true]; simp [this]
  have hs' : ¬ s = ⟨#[]⟩ := fun hc => hs.1 hc ht
  have l12 := l1.trans l2
  obtain ⟨σ3, l3, c3⟩ := l2Expr_gives f.body f4 (σ := σ2) (.mk (h2.mono l12 fun cs x _ hc => TreeExpr.Rep.le l12 x hc))
  by_cases hb : Right f.body
  rotate_left
  · refine Gives.mk (l12.trans l3) ((c1.and (c2.and c3)).mono fun k ⟨e1, e2, e3⟩ => ?_)
    have : ¬ FunOk f := fun h => hb h.2.2.2.1
    rw [spec_l2Fun.eq, h1.vlen]; simp only [e1, hn, decide_true, Bool.not_true, cond_false, Option.bind_some, castBool_bool, h4', decide_false, e2, castStr_str, hs', e3, hb, Bool.not_false, cond_true]; simp [this]
  have lenle : f.args.length ≤ 4 := by omega
  have inner : ∀ (i : Nat) (hlt : i < f.args.length) (σi : Heap), Lh σ σi → ∀ d j, j + d = i → (∀ q y, q < j → f.args[q]? = some y → y.name ≠ f.args[i].name) → ∀ k m0 m, d < m →
      (spec_l2Fun.L1 k m [.box [.str f.name, .bool f.pub, a3, .int .i64 f.type, .int .i64 f.body.kind, .int .i64 f.body.num, .str f.body.name, .str f.body.mod, a9], .v (.int .i64 (i : Int)), .v (.int .i64 (j : Int))] σi).bind (spec_l2Fun.A1 k m0) =
        if f.args[i].name ∈ (f.args.take i).map (·.name) then some (.ret, [.v (.bool false)], σi) else spec_l2Fun.L0 k m0 [.box [.str f.name, .bool f.pub, a3, .int .i64 f.type, .int .i64 f.body.kind, .int .i64 f.body.num, .str f.body.name, .str f.body.mod, a9], .v (.int .i64 (IntKind.wrap .i64 ((i : Int) + 1)))] σi := by
    intro i hlt σi hle d
    have h1' : RepS 2 (TreeArg.Rep σi) σi a3 f.args := h1.mono hle fun cs x _ hc => TreeArg.Rep.le hle hc
    induction d with
    | zero =>
      intro j hj hne k m0 m hm
      obtain ⟨m, rfl⟩ : ∃ j, m = j + 1 := ⟨m - 1, by omega⟩
      have hc : ¬ f.args[i].name ∈ (f.args.take i).map (·.name) := fun hc => by
        obtain ⟨y, hy, hyn⟩ := List.mem_map.1 hc
        obtain ⟨q, hq, hqs⟩ := List.getElem_of_mem hy
        rw [List.getElem_take] at hqs
        rw [List.length_take] at hq
        exact hne q y (by omega) (by rw [← hqs]; exact List.getElem?_eq_getElem (by omega)) hyn
      have : ¬ j < i := by omega
      rw [spec_l2Fun.L1_step, if_neg hc]
      simp [this, spec_l2Fun.A1_x2]
    | succ d ih =>
      intro j hj hne k m0 m hm
      obtain ⟨m, rfl⟩ : ∃ j, m = j + 1 := ⟨m - 1, by omega⟩
      have hji : j < i := by omega
      have hjl : j < f.args.length := by omega
      obtain ⟨r, o, hv, cs, hr, hP⟩ := h1'.at hjl
      obtain ⟨r', o', hv', cs', hr', hP'⟩ := h1'.at hlt
      have g1 : rdc σi r (o + 0) 1 = some [.str f.args[j].name] := by
        have := rdc_sub hr 0 1 (by omega)
        generalize f.args[j] = x at hP
        cases hP with | mk => exact this
      have g2 : rdc σi r' (o' + 0) 1 = some [.str f.args[i].name] := by
        have := rdc_sub hr' 0 1 (by omega)
        generalize f.args[i] = x at hP'
        cases hP' with | mk => exact this
      have hw : IntKind.wrap .i64 ((j : Int) + 1) = ((j + 1 : Nat) : Int) := wrap_id (by omega) (by omega)
      rw [spec_l2Fun.L1_step]
      by_cases hs : f.args[j].name = f.args[i].name
      · have hc : f.args[i].name ∈ (f.args.take i).map (·.name) := by
          refine List.mem_map.2 ⟨f.args[j], ?_, hs⟩
          have : f.args[j] = (f.args.take i)[j]'(by rw [List.length_take]; omega) := by rw [List.getElem_take]
          rw [this]
          exact List.getElem_mem _
        rw [if_pos hc]
        simp only [Int.ofNat_lt, hji, decide_true, cond_true, hv, g1, hv', g2, Option.bind_some, uncons_cons, castStr_str, isNil_nil, hs, spec_l2Fun.A1_ret]
      · simp only [Int.ofNat_lt, hji, decide_true, cond_true, hv, g1, hv', g2, Option.bind_some, uncons_cons, castStr_str, isNil_nil, hs, decide_false, cond_false, hw]
        refine ih (j + 1) (by omega) (fun q y hq hy => ?_) k m0 m (by omega)
        by_cases hqj : q = j
        · subst hqj
          rw [List.getElem?_eq_getElem hjl] at hy
          injection hy with hy
          rw [← hy]; exact hs
        · exact hne q y (by omega) hy
  have l13 := l12.trans l3
  obtain ⟨w, σ', ⟨hl, rfl⟩, he⟩ := loop (L := spec_l2Fun.L0) (A := spec_l2Fun.A0) (S := Nat × Heap)
    (Inv := fun s => s.1 ≤ f.args.length ∧ Lh σ s.2 ∧ (∀ x, x ∈ f.args.take s.1 → IsType x.type) ∧ AllNames ((f.args.take s.1).map (·.name))) (Good := fun w σ' => Lh σ σ' ∧ w = .bool (decide (FunOk f)))
    (vals := fun s => [.box [.str f.name, .bool f.pub, a3, .int .i64 f.type, .int .i64 f.body.kind, .int .i64 f.body.num, .str f.body.name, .str f.body.mod, a9], .v (.int .i64 (s.1 : Int))]) (hp := fun s => s.2) (far := fun s => f.args.length - s.1) (fun ⟨i, σi⟩ ⟨hi, hle, hty, hok⟩ => by
      simp only at hi hle hty hok ⊢
      have h1' : RepS 2 (TreeArg.Rep σi) σi a3 f.args := h1.mono hle fun cs x _ hc => TreeArg.Rep.le hle hc
      by_cases hlt : i < f.args.length
      · obtain ⟨r, o, hv, cs, hr, hP⟩ := h1'.at hlt
        have hm : f.args[i] ∈ f.args := List.getElem_mem hlt
        have g1 : rdc σi r (o + 0) 1 = some [.str f.args[i].name] := by
          have := rdc_sub hr 0 1 (by omega)
          generalize f.args[i] = x at hP
          cases hP with | mk => exact this
        have g2 : rdc σi r (o + 1) 1 = some [.int .i64 f.args[i].type] := by
          have := rdc_sub hr 1 1 (by omega)
          generalize f.args[i] = x at hP
          cases hP with | mk => exact this
        obtain ⟨σ4, l4, c4⟩ := specLexName_gives σi f.args[i].name (hargs _ hm)
        by_cases hN : IsName f.args[i].name
        rotate_left
        · refine .inl ⟨_, σ4, ⟨hle.trans l4, rfl⟩, c4.mono fun k e4 m => ?_⟩
          have : ¬ FunOk f := fun h => hN (h.2.2.2.2.2.1 _ (List.mem_map.2 ⟨_, hm, rfl⟩))
          rw [spec_l2Fun.L0_step, h1.vlen]
          simp only [Option.bind_some, Int.ofNat_lt, hlt, decide_true, cond_true, hv, g1, uncons_cons, castStr_str, isNil_nil, e4, castBool_bool, hN, decide_false, Bool.not_false, spec_l2Fun.A0_ret, this]
        obtain ⟨s5, hs5, σ5, l5, c5⟩ := treeType_gives σ4 f.args[i].type
        have g2' := l4.rdc g2
        have l45 := hle.trans (l4.trans l5)
        by_cases hT : IsType f.args[i].type
        rotate_left
        · refine .inl ⟨_, σ5, ⟨l45, rfl⟩, (c4.and c5).mono fun k ⟨e4, e5⟩ m => ?_⟩
          have : ¬ FunOk f := fun h => hT (h.2.2.2.2.1 _ hm)
          have hs6 := hs5.2 hT
          rw [spec_l2Fun.L0_step, h1.vlen]
          simp only [Option.bind_some, Int.ofNat_lt, hlt, decide_true, cond_true, hv, g1, g2', uncons_cons, castStr_str, castInt_int, isNil_nil, e4, castBool_bool, hN, Bool.not_true, cond_false, e5, hs6, spec_l2Fun.A0_ret, this, decide_false]
        have hs6 : ¬ s5 = ⟨#[]⟩ := fun hc => hs5.1 hc hT
        have ht := take_next hlt
        have hinn := inner i hlt σ5 l45 i 0 (by omega) (fun q y hq => absurd hq (by omega))
        by_cases hc : f.args[i].name ∈ (f.args.take i).map (·.name)
        · refine .inl ⟨_, σ5, ⟨l45, rfl⟩, (Ev.far i (c4.and c5)).mono fun k ⟨⟨e4, e5⟩, hk⟩ m => ?_⟩
          have : ¬ FunOk f := fun h => by
            have h7 := h.2.2.2.2.2.take (i + 1)
            rw [← List.map_take, ht, List.map_append] at h7
            exact (List.nodup_append.1 h7.2).2.2 _ hc _ (by simp) rfl
          have e6 := hinn k m k hk
          rw [if_pos hc] at e6
          rw [spec_l2Fun.L0_step, h1.vlen]
          simp only [Option.bind_some, Int.ofNat_lt, hlt, decide_true, cond_true, hv, g1, g2', uncons_cons, castStr_str, castInt_int, isNil_nil, e4, castBool_bool, hN, Bool.not_true, cond_false, e5, hs6, decide_false]
          rw [show ((0 : Int)) = ((0 : Nat) : Int) from rfl, e6]
          simp [spec_l2Fun.A0_ret, this]
        · refine .inr ⟨(i + 1, σ5), ⟨hlt, l45, ?_, ?_⟩, by simp only; omega, (Ev.far i (c4.and c5)).mono fun k ⟨⟨e4, e5⟩, hk⟩ m => ?_⟩
          · intro x hx
            rw [ht] at hx
            rcases List.mem_append.1 hx with h | h
            · exact hty x h
            · simp at h; rw [h]; exact hT
          · simp only
            rw [ht, List.map_append]
            refine ⟨fun x hx => ?_, ?_⟩
            · rcases List.mem_append.1 hx with h | h
              · exact hok.1 x h
              · simp at h; rw [h]; exact hN
            · rw [List.nodup_append]
              refine ⟨hok.2, by simp, fun a ha b hb hab => ?_⟩
              simp at hb
              exact hc (hb ▸ hab ▸ ha)
          · have hw : IntKind.wrap .i64 ((i : Int) + 1) = ((i + 1 : Nat) : Int) := wrap_id (by omega) (by omega)
            have e6 := hinn k m k hk
            rw [if_neg hc, hw] at e6
            rw [spec_l2Fun.L0_step, h1.vlen]
            simp only [Option.bind_some, Int.ofNat_lt, hlt, decide_true, cond_true, hv, g1, g2', uncons_cons, castStr_str, castInt_int, isNil_nil, e4, castBool_bool, hN, Bool.not_true, cond_false, e5, hs6, decide_false]
            rw [show ((0 : Int)) = ((0 : Nat) : Int) from rfl, e6]
      · refine .inl ⟨_, σi, ⟨hle, rfl⟩, Ev.now fun k m => ?_⟩
        rw [List.take_of_length_le (by omega)] at hok hty
        have : FunOk f := ⟨hn, lenle, ht, hb, hty, hok⟩
        rw [spec_l2Fun.L0_step, h1.vlen]
        simp [hlt, spec_l2Fun.A0_x0, this]) (0, σ3) ⟨Nat.zero_le _, l13, fun x hx => by simp at hx, fun x hx => by simp at hx, by simp⟩
  refine Gives.mk hl ((Ev.and c1 (Ev.and c2 (Ev.and c3 (Ev.far f.args.length he)))).mono fun k ⟨e1, e2, e3, e4, hk⟩ => ?_)
  rw [spec_l2Fun.eq, h1.vlen]
  simp only [e1, hn, decide_true, Bool.not_true, cond_false, Option.bind_some, castBool_bool, h4', decide_false, e2, castStr_str, hs', e3, hb]
  exact e4 k (by simpa using hk)
end Go.X3
