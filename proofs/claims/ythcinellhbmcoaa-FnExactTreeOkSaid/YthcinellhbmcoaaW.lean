/- TreeOk of the program (begun: modOk_iff builds). -/
import Derived.Test.YthcinellhbmcoaaZ
set_option linter.unusedVariables false
set_option linter.unusedSimpArgs false
namespace Go.X3
open Go.HM Go.Proofs
/-- What the program asks of a function before it looks at bodies. -/
def HeadOk (f : TreeFun) : Prop := f.args.length ≤ 4 ∧ AllNames (f.args.map (·.name)) ∧ IsType f.type ∧ ∀ x, x ∈ f.args → IsType x.type
theorem modOk_iff (m : TreeMod) : ModOk m ↔ m.uses.length ≤ 4 ∧ m.funs.length ≤ 8 ∧ m.main.length ≤ 1 ∧ AllNames m.uses ∧ (∀ f, f ∈ m.funs → HeadOk f) ∧ sizesOk 0 (bodies m) ∧ (∀ e, e ∈ bodies m → Right e) ∧ AllNames (m.funs.map (·.name)) := by
  constructor
  · rintro ⟨h1, h2, h3, h4, h5, h6, h7, h8⟩
    refine ⟨h1, h2, h3, h4, fun f hf => ⟨(h6 f hf).2.1, (h6 f hf).2.2.2.2.2, (h6 f hf).2.2.1, (h6 f hf).2.2.2.2.1⟩, h5, fun e he => ?_, h7⟩
    rcases List.mem_append.1 he with h | h
    · obtain ⟨f, hf, rfl⟩ := List.mem_map.1 h
      exact (h6 f hf).2.2.2.1
    · exact h8 e h
  · rintro ⟨h1, h2, h3, h4, h5, h6, h7, h8⟩
    exact ⟨h1, h2, h3, h4, h6, fun f hf => ⟨h8.1 _ (List.mem_map.2 ⟨f, hf, rfl⟩), (h5 f hf).1, (h5 f hf).2.2.1, h7 _ (List.mem_append.2 (.inl (List.mem_map.2 ⟨f, hf, rfl⟩))), (h5 f hf).2.2.2, (h5 f hf).2.1⟩, h8, fun e he => h7 e (List.mem_append.2 (.inr he))⟩
/-- The first loop's test of one function. -/
theorem headOk_step {σ : Heap} {f : TreeFun} (hF : f.Fit) (ht : f.total ≤ 1048576) {v : V} (h : RepS 2 (TreeArg.Rep σ) σ v f.args) (hlen : f.args.length ≤ 4) :
    ∃ v1 σ1 σ2 σ3 b, Lh σ σ1 ∧ Lh σ1 σ2 ∧ Lh σ2 σ3 ∧ Runs G n_impl_argNames [v] σ v1 σ1 ∧ Runs G n_impl_areNames [v1] σ1 (.bool (decide (AllNames (f.args.map (·.name))))) σ2 ∧
      Runs G n_slices_ContainsFunc_impl_TreeArg_impl_TreeArg [v, .fn n_impl_TreeOk_1 []] σ2 (.bool b) σ3 ∧ (b = false ↔ ∀ x, x ∈ f.args → IsType x.type) := by
  obtain ⟨v1, σ1, l1, r1, c1⟩ := argNames_runs (by omega) h
  cases hF with
  | mk f0 f1 f2 f3 f4 =>
  obtain ⟨σ2, l2, c2⟩ := areNames_gives σ1 r1 (by rw [List.length_map]; omega) (fun x hx => by
    obtain ⟨a, ha, rfl⟩ := List.mem_map.1 hx
    have := f2 a ha
    cases this with | mk g0 g1 => exact g0)
  have l12 := l1.trans l2
  obtain ⟨σ3, l3, c3⟩ := containsArg_gives (σ := σ2) f1 (h.mono l12 fun cs x _ hc => TreeArg.Rep.le l12 hc) n_impl_TreeOk_1 (fun x => ¬ IsType x.type) (fun x _ σ cs hr => treeOk1_gives x σ cs hr)
  refine ⟨v1, σ1, σ2, σ3, _, l1, l2, l3, c1, c2, c3, ?_⟩
  rw [has_false]
  exact ⟨fun h x hx => Classical.not_not.1 (h x hx), fun h x hx hc => hc (h x hx)⟩
end Go.X3
