/- Parameters and bodies. -/
import Derived.Test.YthcinellhbmcoaaS
set_option linter.unusedVariables false
set_option linter.unusedSimpArgs false
namespace Go.X3
open Go.HM Go.Proofs
theorem argNames_runs {σ : Heap} {v : V} {l : List TreeArg} (hf : l.length ≤ 1048576) (h : RepS 2 (TreeArg.Rep σ) σ v l) :
    ∃ v' σ', Lh σ σ' ∧ RepS 1 StrRep σ' v' (l.map (·.name)) ∧ Runs G n_impl_argNames [v] σ v' σ' := by
  obtain ⟨w, σ', ⟨hl, hg⟩, he⟩ := loop (L := impl_argNames.L0) (A := impl_argNames.A0) (S := Nat × V × Heap)
    (Inv := fun s => s.1 ≤ l.length ∧ Lh σ s.2.2 ∧ Grown σ.length 1 StrRep s.2.2 s.2.1 ((l.take s.1).map (·.name))) (Good := fun w σ' => Lh σ σ' ∧ RepS 1 StrRep σ' w (l.map (·.name)))
    (vals := fun s => [.v s.2.1, .v v, .v (.int .i64 (l.length : Int)), .v (.int .i64 (s.1 : Int))]) (hp := fun s => s.2.2) (far := fun s => l.length - s.1) (fun ⟨i, u, σi⟩ ⟨hi, hle, hg⟩ => by
      simp only at hi hle hg ⊢
      have hle' : RepS 2 (TreeArg.Rep σi) σi v l := h.mono hle fun cs x _ hc => TreeArg.Rep.le hle hc
      by_cases hlt : i < l.length
      · obtain ⟨r, o, hv, cs, hr, hP⟩ := hle'.at hlt
        have ht := take_next hlt
        generalize l[i] = x at hP ht
        cases hP with
        | mk =>
        have hw : IntKind.wrap .i64 ((i : Int) + 1) = ((i + 1 : Nat) : Int) := wrap_id (by omega) (by omega)
        have hli : ((l.take i).map (·.name)).length ≤ 1048576 := by rw [List.length_map, List.length_take]; omega
        obtain ⟨u', σ', ha, hg', hk⟩ := hg.app (bytes := 16) (Chunks.one (P := StrRep) (cs := [.str x.name]) (x := x.name) rfl) (by simp only [List.length_singleton]; omega) (by simp only [List.length_singleton]; omega)
        have ha' : vappend 1 16 σi u 1 [.str x.name] = some (u', σ') := ha
        refine .inr ⟨(i + 1, u', σ'), ⟨hlt, hk σ (Nat.le_refl _) hle, ?_⟩, by simp only; omega, Ev.now fun k m => ?_⟩
        · simp only
          rw [ht, List.map_append]
          exact hg'
        · rw [impl_argNames.L0_step]
          simp [hlt, hv, hr, ha']
          rw [hw]
          rfl
      · refine .inl ⟨u, σi, ⟨hle, ?_⟩, Ev.now fun k m => ?_⟩
        · rw [List.take_of_length_le (by omega)] at hg
          exact hg.rep fun cs x _ hc => hc
        · rw [impl_argNames.L0_step]
          simp [hlt, impl_argNames.A0_x0]) (0, .sl σ.length 0 0 true, hnew σ 1 []) ⟨Nat.zero_le _, Lh.new _ _ _, Grown.start σ 1 StrRep true⟩
  refine ⟨w, σ', hl, hg, Runs.mk ((Ev.far l.length he).mono fun k ⟨e, hk⟩ => ?_)⟩
  rw [impl_argNames.eq, h.vlen]
  exact e k (by simpa using hk)
theorem containsArg_gives {σ : Heap} {v : V} {l : List TreeArg} (hf : l.length ≤ 9223372036854775807) (h : RepS 2 (TreeArg.Rep σ) σ v l) (f : FuncId) (P : TreeArg → Prop)
    (hx : ∀ x, x ∈ l → ∀ σ cs, TreeArg.Rep σ cs x → ∃ b, (b = true ↔ P x) ∧ Gives G f [.agg cs] σ (.bool b)) : Gives G n_slices_ContainsFunc_impl_TreeArg_impl_TreeArg [v, .fn f []] σ (.bool (has P l)) := by
  obtain ⟨w, σ', ⟨hl, n, hn, rfl⟩, he⟩ := loop (L := slices_IndexFunc_impl_TreeArg_impl_TreeArg.L0) (A := slices_IndexFunc_impl_TreeArg_impl_TreeArg.A0) (S := Nat × Heap)
    (Inv := fun s => s.1 ≤ l.length ∧ Lh σ s.2 ∧ ∀ x, x ∈ l.take s.1 → ¬ P x) (Good := fun w σ' => Lh σ σ' ∧ ∃ n : Int, (0 ≤ n ↔ ∃ x, x ∈ l ∧ P x) ∧ w = .int .i64 n)
    (vals := fun s => [.v v, .v (.fn f []), .v (.int .i64 (l.length : Int)), .v (.int .i64 (s.1 : Int))]) (hp := fun s => s.2) (far := fun s => l.length - s.1) (fun ⟨i, σi⟩ ⟨hi, hle, hok⟩ => by
      simp only at hi hle hok ⊢
      have hle' : RepS 2 (TreeArg.Rep σi) σi v l := h.mono hle fun cs x _ hc => TreeArg.Rep.le hle hc
      by_cases hlt : i < l.length
      · obtain ⟨r, o, hv, cs, hr, hP⟩ := hle'.at hlt
        have hm : l[i] ∈ l := List.getElem_mem hlt
        obtain ⟨b, hb, σ1, l1, c1⟩ := hx _ hm σi cs hP
        have ht := take_next hlt
        generalize l[i] = x at hP hm hb ht
        cases hP with
        | mk =>
        have hw : IntKind.wrap .i64 ((i : Int) + 1) = ((i + 1 : Nat) : Int) := wrap_id (by omega) (by omega)
        cases b with
        | true =>
          refine .inl ⟨.int .i64 (i : Int), σ1, ⟨hle.trans l1, (i : Int), ?_, rfl⟩, c1.mono fun k e1 m => ?_⟩
          · exact ⟨fun _ => ⟨x, hm, hb.1 rfl⟩, fun _ => by omega⟩
          · rw [slices_IndexFunc_impl_TreeArg_impl_TreeArg.L0_step]
            simp [hlt, hv, hr, e1, slices_IndexFunc_impl_TreeArg_impl_TreeArg.A0_ret]
        | false =>
          refine .inr ⟨(i + 1, σ1), ⟨hlt, hle.trans l1, fun y hy => ?_⟩, by simp only; omega, c1.mono fun k e1 m => ?_⟩
          · rw [ht] at hy
            rcases List.mem_append.1 hy with h1 | h1
            · exact hok y h1
            · simp at h1; rw [h1]; intro hc; have := hb.2 hc; cases this
          · rw [slices_IndexFunc_impl_TreeArg_impl_TreeArg.L0_step]
            simp [hlt, hv, hr, e1]
            rw [hw]
            rfl
      · refine .inl ⟨.int .i64 (-1), σi, ⟨hle, -1, ?_, rfl⟩, Ev.now fun k m => ?_⟩
        · rw [List.take_of_length_le (by omega)] at hok
          simp
          exact hok
        · rw [slices_IndexFunc_impl_TreeArg_impl_TreeArg.L0_step]
          simp [hlt, slices_IndexFunc_impl_TreeArg_impl_TreeArg.A0_x0]) (0, σ) ⟨Nat.zero_le _, Lh.refl _, fun x hx => by simp at hx⟩
  have c2 : Runs G n_slices_IndexFunc_impl_TreeArg_impl_TreeArg [v, .fn f []] σ (.int .i64 n) σ' := Runs.mk ((Ev.far l.length he).mono fun k ⟨e, hk⟩ => by
    rw [slices_IndexFunc_impl_TreeArg_impl_TreeArg.eq, h.vlen]
    exact e k (by simpa using hk))
  refine Gives.mk hl (c2.mono fun k e => ?_)
  rw [slices_ContainsFunc_impl_TreeArg_impl_TreeArg.eq, e]
  have : has P l = decide (0 ≤ n) := by
    by_cases h0 : 0 ≤ n
    · rw [has_true.2 (hn.1 h0)]; simp [h0]
    · rw [has_false.2 fun x hx hp => h0 (hn.2 ⟨x, hx, hp⟩)]; simp [h0]
  rw [this]
  rfl
def IsType (n : Int) : Prop := 1 ≤ n ∧ n ≤ 3
theorem treeOk1_gives (x : TreeArg) (σ : Heap) (cs : List V) (hr : TreeArg.Rep σ cs x) : ∃ b, (b = true ↔ ¬ IsType x.type) ∧ Gives G n_impl_TreeOk_1 [.agg cs] σ (.bool b) := by
  cases hr with
  | mk =>
  refine ⟨!decide (1 ≤ x.type ∧ x.type ≤ 3), by simp [IsType]; omega, Gives.mk (Lh.refl σ) ((isType_runs (σ := σ) x.type).mono fun k e => ?_)⟩
  rw [impl_TreeOk_1.eq, e]
  rfl
def bodies (m : TreeMod) : List TreeExpr := m.funs.map (·.body) ++ m.main
theorem bodies_runs {σ : Heap} {m : TreeMod} (hf : m.funs.length ≤ 1048576) (hm : m.main.length ≤ 1048576) {cs : List V} (hr : TreeMod.Rep σ cs m) :
    ∃ v' σ', Lh σ σ' ∧ RepS 5 (TreeExpr.Rep σ') σ' v' (bodies m) ∧ Runs G n_impl_TreeMod_bodies [.agg cs] σ v' σ' := by
  cases hr with
  | mk h0 h1 h2 =>
  rename_i a0 a1 a2
  obtain ⟨w, σ', ⟨hl, hg⟩, he⟩ := loop (L := impl_TreeMod_bodies.L0) (A := impl_TreeMod_bodies.A0) (S := Nat × V × Heap)
    (Inv := fun s => s.1 ≤ m.funs.length ∧ Lh σ s.2.2 ∧ Grown σ.length 5 (TreeExpr.Rep σ) s.2.2 s.2.1 ((m.funs.take s.1).map (·.body))) (Good := fun w σ' => Lh σ σ' ∧ RepS 5 (TreeExpr.Rep σ') σ' w (bodies m))
    (vals := fun s => [.box [a0, a1, a2], .v s.2.1, .v a1, .v (.int .i64 (m.funs.length : Int)), .v (.int .i64 (s.1 : Int))]) (hp := fun s => s.2.2) (far := fun s => m.funs.length - s.1) (fun ⟨i, u, σi⟩ ⟨hi, hle, hg⟩ => by
      simp only at hi hle hg ⊢
      by_cases hlt : i < m.funs.length
      · obtain ⟨r, o, hv, cs, hr, hP⟩ := h1.at hlt
        have hr2 := hle.rdc hr
        have ht := take_next hlt
        generalize m.funs[i] = x at hP ht
        cases hP with
        | mk k0 k1 =>
        rename_i b0 b1
        have hw : IntKind.wrap .i64 ((i : Int) + 1) = ((i + 1 : Nat) : Int) := wrap_id (by omega) (by omega)
        have hli : ((m.funs.take i).map (·.body)).length ≤ 1048576 := by rw [List.length_map, List.length_take]; omega
        obtain ⟨u', σ', ha, hg', hk⟩ := hg.app (bytes := 72) (Chunks.one (P := TreeExpr.Rep σ) (cs := [.int .i64 x.body.kind, .int .i64 x.body.num, .str x.body.name, .str x.body.mod, b1]) (x := x.body) (.mk k1)) (by simp only [List.length_singleton]; omega) (by simp only [List.length_singleton]; omega)
        have ha' : vappend 5 72 σi u 1 [.int .i64 x.body.kind, .int .i64 x.body.num, .str x.body.name, .str x.body.mod, b1] = some (u', σ') := ha
        refine .inr ⟨(i + 1, u', σ'), ⟨hlt, hk σ (Nat.le_refl _) hle, ?_⟩, by simp only; omega, Ev.now fun k m => ?_⟩
        · simp only
          rw [ht, List.map_append]
          exact hg'
        · rw [impl_TreeMod_bodies.L0_step]
          simp [hlt, hv, hr2, ha']
          rw [hw]
          rfl
      · rw [List.take_of_length_le (by omega)] at hg
        obtain ⟨cs, hc, hch⟩ := (h2.le hle).cells
        obtain ⟨u', σ', ha, hg', hk⟩ := hg.app (bytes := 72) hch (by rw [List.length_map]; omega) (by rw [List.length_map]; omega)
        have hl' := hk σ (Nat.le_refl _) hle
        refine .inl ⟨u', σ', ⟨hl', hg'.rep fun cs x _ hc => TreeExpr.Rep.le hl' x hc⟩, Ev.now fun k m => ?_⟩
        rw [impl_TreeMod_bodies.L0_step]
        simp [hlt, impl_TreeMod_bodies.A0_x0, hc, ha]) (0, .sl σ.length 0 0 true, hnew σ 5 []) ⟨Nat.zero_le _, Lh.new _ _ _, Grown.start σ 5 (TreeExpr.Rep σ) true⟩
  refine ⟨w, σ', hl, hg, Runs.mk ((Ev.far m.funs.length he).mono fun k ⟨e, hk⟩ => ?_)⟩
  rw [impl_TreeMod_bodies.eq, h1.vlen]
  exact e k (by simpa using hk)
end Go.X3
