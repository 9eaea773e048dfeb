/- The words of the types. -/
import Derived.Test.YtjadancpencnnaaDoorN
import Derived.Test.YtjadancpencnnaaDoorHMWp
import Derived.Test.YtjadancpencnnaaDoorHMIdx
import Derived.Test.YtjadancpencnnaaDoorHMStr
set_option linter.unusedVariables false
set_option linter.unusedSimpArgs false
namespace Go.D
open Go.HM Go.Proofs
/-- The variable holds the three words. -/
abbrev TypeW (σ : Heap) : Prop := σ[0]? = some (some ⟨[.str (⟨#[105, 110, 116]⟩ : ByteArray), .str (⟨#[98, 111, 111, 108]⟩ : ByteArray), .str (⟨#[114, 111, 119]⟩ : ByteArray)], 1, true, 0⟩)
def tword (n : Int) : ByteArray := if n = 1 then ⟨#[105, 110, 116]⟩ else if n = 2 then ⟨#[98, 111, 111, 108]⟩ else if n = 3 then ⟨#[114, 111, 119]⟩ else ⟨#[]⟩
theorem isTy_runs (a : Int) (σ : Heap) : Runs G n_impl_isType [.int .i64 a] σ (.bool (decide (1 ≤ a ∧ a ≤ 3))) σ := by
  refine Runs.of (W.to (fun k _ => impl_isType.eq k _ _) ?_)
  refine W.run (inRange_runs _ _ _) ?_
  try simp only [q_bind_some, castInt_int, q_castBool, q_castStr, q_castPtr, q_castFn, q_castAgg, q_castTuple, q_uncons, q_isNil, q_sl, q_nils, q_emp, q_ptr, q_nilp, q_fn, q_cond_true, q_cond_false, Bool.not_true, Bool.not_false, decide_true, decide_false, List.cons_append, List.nil_append]
  exact W.ret ⟨rfl, rfl⟩
theorem typeW_at {σ : Heap} (h : TypeW σ) : rdc σ 0 0 1 = some [.str ⟨#[105, 110, 116]⟩] ∧ rdc σ 0 1 1 = some [.str ⟨#[98, 111, 111, 108]⟩] ∧ rdc σ 0 2 1 = some [.str ⟨#[114, 111, 119]⟩] := by
  simp only [rdc, h]
  exact ⟨rfl, rfl, rfl⟩
theorem implTreeType_runs (a : Int) (σ : Heap) (h : TypeW σ) : Runs G n_impl_TreeType [.int .i64 a] σ (.str (tword a)) σ := by
  obtain ⟨t1, t2, t3⟩ := typeW_at h
  refine Runs.of (W.to (fun k _ => impl_TreeType.eq k _ _) ?_)
  refine W.run (isTy_runs _ _) ?_
  by_cases h1 : a = 1
  · subst h1
    try simp only [q_bind_some, castInt_int, q_castBool, q_castStr, q_castPtr, q_castFn, q_castAgg, q_castTuple, q_uncons, q_isNil, q_sl, q_nils, q_emp, q_ptr, q_nilp, q_fn, q_cond_true, q_cond_false, Bool.not_true, Bool.not_false, decide_true, decide_false, List.cons_append, List.nil_append, show IntKind.wrap .i64 ((1 : Int) - 1) = 0 by decide, show decide ((1 : Int) ≤ 1 ∧ (1 : Int) ≤ 3) = true from rfl, show ((0 : Int) ≤ 0 ∧ (0 : Int) < ((3 : Nat) : Int)) = True by simp, show 0 + (0 : Int).toNat * 1 = 0 from rfl, t1]
    exact W.ret ⟨rfl, rfl⟩
  by_cases h2 : a = 2
  · subst h2
    try simp only [q_bind_some, castInt_int, q_castBool, q_castStr, q_castPtr, q_castFn, q_castAgg, q_castTuple, q_uncons, q_isNil, q_sl, q_nils, q_emp, q_ptr, q_nilp, q_fn, q_cond_true, q_cond_false, Bool.not_true, Bool.not_false, decide_true, decide_false, List.cons_append, List.nil_append, show IntKind.wrap .i64 ((2 : Int) - 1) = 1 by decide, show decide ((1 : Int) ≤ 2 ∧ (2 : Int) ≤ 3) = true from rfl, show ((0 : Int) ≤ 1 ∧ (1 : Int) < ((3 : Nat) : Int)) = True by simp, show 0 + (1 : Int).toNat * 1 = 1 from rfl, t2]
    exact W.ret ⟨rfl, rfl⟩
  by_cases h3 : a = 3
  · subst h3
    try simp only [q_bind_some, castInt_int, q_castBool, q_castStr, q_castPtr, q_castFn, q_castAgg, q_castTuple, q_uncons, q_isNil, q_sl, q_nils, q_emp, q_ptr, q_nilp, q_fn, q_cond_true, q_cond_false, Bool.not_true, Bool.not_false, decide_true, decide_false, List.cons_append, List.nil_append, show IntKind.wrap .i64 ((3 : Int) - 1) = 2 by decide, show decide ((1 : Int) ≤ 3 ∧ (3 : Int) ≤ 3) = true from rfl, show ((0 : Int) ≤ 2 ∧ (2 : Int) < ((3 : Nat) : Int)) = True by simp, show 0 + (2 : Int).toNat * 1 = 2 from rfl, t3]
    exact W.ret ⟨rfl, rfl⟩
  have hn : decide (1 ≤ a ∧ a ≤ 3) = false := decide_eq_false (by omega)
  try simp only [q_bind_some, castInt_int, q_castBool, q_castStr, q_castPtr, q_castFn, q_castAgg, q_castTuple, q_uncons, q_isNil, q_sl, q_nils, q_emp, q_ptr, q_nilp, q_fn, q_cond_true, q_cond_false, Bool.not_true, Bool.not_false, decide_true, decide_false, List.cons_append, List.nil_append, hn]
  exact W.ret ⟨by rw [tword, if_neg h1, if_neg h2, if_neg h3], rfl⟩
theorem specTreeType_gives (a : Int) (σ : Heap) : Gives G n_spec_TreeType [.int .i64 a] σ (.str (tword a)) := by
  refine Gives.of (W.to (fun k _ => spec_TreeType.eq k _ _) ?_)
  by_cases h0 : a < 1
  · try simp only [q_bind_some, castInt_int, q_castBool, q_castStr, q_castPtr, q_castFn, q_castAgg, q_castTuple, q_uncons, q_isNil, q_sl, q_nils, q_emp, q_ptr, q_nilp, q_fn, q_cond_true, q_cond_false, Bool.not_true, Bool.not_false, decide_true, decide_false, List.cons_append, List.nil_append, decide_eq_true h0]
    exact W.ret ⟨by rw [tword, if_neg (by omega), if_neg (by omega), if_neg (by omega)], Lh.refl _⟩
  by_cases h4 : 3 < a
  · try simp only [q_bind_some, castInt_int, q_castBool, q_castStr, q_castPtr, q_castFn, q_castAgg, q_castTuple, q_uncons, q_isNil, q_sl, q_nils, q_emp, q_ptr, q_nilp, q_fn, q_cond_true, q_cond_false, Bool.not_true, Bool.not_false, decide_true, decide_false, List.cons_append, List.nil_append, decide_eq_false h0, decide_eq_true h4]
    exact W.ret ⟨by rw [tword, if_neg (by omega), if_neg (by omega), if_neg (by omega)], Lh.refl _⟩
  have hr : ∀ (x y z : V), rdc (hnew σ 1 [x, y, z]) σ.length 0 1 = some [x] ∧ rdc (hnew σ 1 [x, y, z]) σ.length 1 1 = some [y] ∧ rdc (hnew σ 1 [x, y, z]) σ.length 2 1 = some [z] := fun x y z => by simp [rdc, hnew]
  obtain ⟨t1, t2, t3⟩ := hr (.str (⟨#[105, 110, 116]⟩ : ByteArray)) (.str (⟨#[98, 111, 111, 108]⟩ : ByteArray)) (.str (⟨#[114, 111, 119]⟩ : ByteArray))
  have h123 : a = 1 ∨ a = 2 ∨ a = 3 := by omega
  rcases h123 with rfl | rfl | rfl
  · try simp only [q_bind_some, castInt_int, q_castBool, q_castStr, q_castPtr, q_castFn, q_castAgg, q_castTuple, q_uncons, q_isNil, q_sl, q_nils, q_emp, q_ptr, q_nilp, q_fn, q_cond_true, q_cond_false, Bool.not_true, Bool.not_false, decide_true, decide_false, List.cons_append, List.nil_append, show IntKind.wrap .i64 ((1 : Int) - 1) = 0 by decide, show decide ((1 : Int) < 1) = false from rfl, show decide ((3 : Int) < 1) = false from rfl, show ((0 : Int) ≤ 0 ∧ (0 : Int) < ((3 : Nat) : Int)) = True by simp, show 0 + (0 : Int).toNat * 1 = 0 from rfl, t1, vidx, if_true]
    exact W.ret ⟨rfl, Lh.new _ _ _⟩
  · try simp only [q_bind_some, castInt_int, q_castBool, q_castStr, q_castPtr, q_castFn, q_castAgg, q_castTuple, q_uncons, q_isNil, q_sl, q_nils, q_emp, q_ptr, q_nilp, q_fn, q_cond_true, q_cond_false, Bool.not_true, Bool.not_false, decide_true, decide_false, List.cons_append, List.nil_append, show IntKind.wrap .i64 ((2 : Int) - 1) = 1 by decide, show decide ((2 : Int) < 1) = false from rfl, show decide ((3 : Int) < 2) = false from rfl, show ((0 : Int) ≤ 1 ∧ (1 : Int) < ((3 : Nat) : Int)) = True by simp, show 0 + (1 : Int).toNat * 1 = 1 from rfl, t2, vidx, if_true]
    exact W.ret ⟨rfl, Lh.new _ _ _⟩
  · try simp only [q_bind_some, castInt_int, q_castBool, q_castStr, q_castPtr, q_castFn, q_castAgg, q_castTuple, q_uncons, q_isNil, q_sl, q_nils, q_emp, q_ptr, q_nilp, q_fn, q_cond_true, q_cond_false, Bool.not_true, Bool.not_false, decide_true, decide_false, List.cons_append, List.nil_append, show IntKind.wrap .i64 ((3 : Int) - 1) = 2 by decide, show decide ((3 : Int) < 1) = false from rfl, show decide ((3 : Int) < 3) = false from rfl, show ((0 : Int) ≤ 2 ∧ (2 : Int) < ((3 : Nat) : Int)) = True by simp, show 0 + (2 : Int).toNat * 1 = 2 from rfl, t3, vidx, if_true]
    exact W.ret ⟨rfl, Lh.new _ _ _⟩
end Go.D
