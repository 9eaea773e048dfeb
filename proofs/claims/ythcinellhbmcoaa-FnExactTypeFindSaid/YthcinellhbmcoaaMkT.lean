/- The text of a mark. -/
import Derived.Test.YthcinellhbmcoaaEG
import Derived.Test.YthcinellhbmcoaaEF0
import Derived.Test.YthcinellhbmcoaaEF1
import Derived.Test.YthcinellhbmcoaaEF2
import Derived.Test.YthcinellhbmcoaaHMLeaf
set_option linter.unusedVariables false
set_option linter.unusedSimpArgs false
namespace Go.X
open Go.HM Go.Proofs
theorem markText_runs (σ : Heap) {n : Nat} (h1 : 1 ≤ n) (h2 : n ≤ 1099511627776) : Runs G n_laws_markText [.int .i64 (n : Int)] σ (.str (mText n)) σ := by
  have e62 : (2 : Nat) ^ 62 = 4611686018427387904 := by decide
  refine Runs.of (W.to (fun k _ => laws_markText.eq k _ _) ?_)
  refine W.ite (fun h => absurd h (by omega)) fun _ => ?_
  refine W.loop (S := Nat × ByteArray) (fun s => s.2.size + s.1 ≤ n ∧ mDig s.1 s.2 = mDig n ⟨#[]⟩) (fun s => [.v (.int .i64 (s.1 : Int)), .v (.str s.2)]) (fun _ => σ) (fun s => s.1) (fun ⟨m, s⟩ ⟨hs, hd⟩ => ?_)
    (n, ⟨#[]⟩) ⟨Nat.le_of_eq (by show 0 + n = n; omega), rfl⟩
  simp only at hs hd ⊢
  refine W.to (fun k _ => by rw [laws_markText.L0_step]) ?_
  refine B.ite (fun h0 => ?_) fun h0 => ?_
  · have hm : m ≠ 0 := by omega
    have hb : bytesOf [.int .u8 (IntKind.wrap .u8 (IntKind.wrap .i64 (48 + Int.tmod (m : Int) 10)))] .empty = some (mByte m) := rfl
    refine B.bind hb ?_
    have hsz : (mByte m).size = 1 := rfl
    refine B.iff (fun hx => ?_) fun hx => absurd (by rw [hsz, e62]; omega) hx
    have hdiv : IntKind.wrap .i64 (Int.tdiv (m : Int) 10) = ((m / 10 : Nat) : Int) := by
      have : Int.tdiv (m : Int) 10 = ((m / 10 : Nat) : Int) := rfl
      rw [this, wrap_id (by omega) (by omega)]
    refine W.again (m / 10, mByte m ++ s) ⟨?_, ?_⟩ (by simp only; omega) (by rw [hdiv]) rfl
    · simp only [ByteArray.size_append, hsz]; omega
    · simp only
      rw [← hd]
      conv => rhs; rw [mDig, dif_neg hm]
  · have hm : m = 0 := by omega
    try simp only [q_bind_some, castInt_int, q_castBool, q_castStr, q_castPtr, q_castFn, q_castAgg, q_castTuple, q_uncons, q_isNil, q_sl, q_nils, q_emp, q_ptr, q_nilp, q_fn, q_cond_true, q_cond_false, Bool.not_true, Bool.not_false, decide_true, decide_false, List.cons_append, List.nil_append, laws_markText.A0_x0]
    have hsz : (⟨#[109]⟩ : ByteArray).size = 1 := rfl
    refine W.iff (fun hx => W.ret ⟨?_, rfl⟩) fun hx => absurd (by rw [hsz, e62]; omega) hx
    rw [mText, ← hd, hm, mDig, dif_pos rfl]
end Go.X
