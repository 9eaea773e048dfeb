/- The lines of instructions, by the program. -/
import Derived.Test.YtjadancpencnnaaDoorOTextA
set_option linter.unusedVariables false
set_option linter.unusedSimpArgs false
namespace Go.D
open Go.HM Go.Proofs
theorem opw_ba (n : Int) : opw n = ba (opw n).data.toList ∧ (opw n).data.toList.length ≤ 6 := ⟨ba_self _, by rw [ba_list]; exact opw_size n⟩
abbrev TabW (σ : Heap) : Prop := σ[g_uint64pow10]? = some (some ⟨Lib.pow10Tab.map fun z => .int .u64 z, 1, true, 0⟩)
theorem codeText_gives {σ : Heap} (ho : OpW σ) (hn : TabW σ) {v : V} {l : List CodeIns} (hf : l.length ≤ 1048576) (hI : ∀ x, x ∈ l → InsOk x) (h : RepS 2 (CodeIns.Rep σ) σ v l) : Gives G n_impl_codeText [v] σ (.str (ba (codeL l))) := by
  refine Gives.of (W.to (fun k _ => impl_codeText.eq k _ _) ?_)
  have hlen := fun i hi => code_len hI i hi
  have h0 : (⟨#[]⟩ : ByteArray) = ba (catL insL l 0) := by rw [catL_zero]; rfl
  have hno : ∀ row, σ[σ.length]? ≠ some (some row) := fun row hc => by rw [List.getElem?_eq_none (Nat.le_refl _)] at hc; cases hc
  refine W.len h ?_
  refine W.loop (S := Nat × Heap) (fun s => s.1 ≤ l.length ∧ Bld (σ.length + 1) s.2 σ.length (ba (catL insL l s.1)) ∧ Lh σ s.2 ∧ σ.length + 1 ≤ s.2.length)
    (fun s => [.v (.ptr σ.length 0), .v v, .v (.int .i64 (l.length : Int)), .v (.int .i64 (s.1 : Int))]) (fun s => s.2) (fun s => l.length - s.1)
    (fun ⟨i, σi⟩ ⟨hi, hB, hle, hlen'⟩ => ?_) (0, hnewT σ (hbT + 1) 2 [.nilp, .nils]) ⟨Nat.zero_le _, by show Bld _ _ _ (ba (catL insL l 0)); rw [← h0]; exact Bld.new σ, Lh.append _ _, by simp [hnewT]⟩
  simp only at hi hB hle hlen' ⊢
  have hl1 := hlen i hi
  have hbs := ba_size (catL insL l i)
  refine W.to (fun k _ => by rw [impl_codeText.L0_step]) ?_
  refine B.ite (fun hlt => ?_) fun hlt => ?_
  rotate_left
  · obtain rfl : i = l.length := by omega
    try simp only [q_bind_some, castInt_int, q_castBool, q_castStr, q_castPtr, q_castFn, q_castAgg, q_castTuple, q_uncons, q_isNil, q_sl, q_nils, q_emp, q_ptr, q_nilp, q_fn, q_cond_true, q_cond_false, Bool.not_true, Bool.not_false, decide_true, decide_false, List.cons_append, List.nil_append, impl_codeText.A0_x0]
    obtain ⟨σ2, c2, K2⟩ := builderText_runs hB (by omega)
    refine W.run c2 ?_
    try simp only [q_bind_some, castInt_int, q_castBool, q_castStr, q_castPtr, q_castFn, q_castAgg, q_castTuple, q_uncons, q_isNil, q_sl, q_nils, q_emp, q_ptr, q_nilp, q_fn, q_cond_true, q_cond_false, Bool.not_true, Bool.not_false, decide_true, decide_false, List.cons_append, List.nil_append]
    exact W.ret ⟨rfl, K2.lh hle (by omega) hno⟩
  have hil : i < l.length := by omega
  have hx : l[i]? = some l[i] := List.getElem?_eq_getElem hil
  generalize l[i] = x at hx
  have hnext := wrap_next hil (by omega)
  have hsx := hI x (List.mem_of_getElem? hx)
  have hb := ins_b hsx
  have hit := Lib.itoa_length_le x.a (by omega) (by omega)
  have hstep := catL_next (f := insL) hx
  obtain ⟨r, o, hv, cs, hr, hP⟩ := h.at' hx
  have hr' := hle.rdc hr
  cases hP with
  | mk =>
  have hw : IntKind.wrap .i64 (x.op - 1) = x.op - 1 := wrap_id (by omega) (by omega)
  have hc : (0 ≤ x.op - 1 ∧ x.op - 1 < ((10 : Nat) : Int)) = True := by simp; omega
  have e1 : rdc σi 1 (0 + (x.op - 1).toNat * 1) 1 = some [.str (opw x.op)] := by
    rw [Nat.zero_add, Nat.mul_one]
    exact row_at (hle.row _ _ ho) (opw_some hb.2.2.1 hb.2.2.2)
  have ep := prot_ro (hle.row _ _ ho)
  obtain ⟨k1, k2⟩ := opw_ba x.op
  have hins : insL x = (opw x.op).data.toList ++ [32] ++ Lib.itoa x.a ++ [10] := rfl
  generalize (opw x.op).data.toList = tw at k1 k2 hins
  rw [hins] at hstep
  try simp (disch := (simp only [List.length_append, List.length_cons, List.length_nil]; omega)) only [q_bind_some, castInt_int, q_castBool, q_castStr, q_castPtr, q_castFn, q_castAgg, q_castTuple, q_uncons, q_isNil, q_sl, q_nils, q_emp, q_ptr, q_nilp, q_fn, q_cond_true, q_cond_false, Bool.not_true, Bool.not_false, decide_true, decide_false, List.cons_append, List.nil_append, mk_ba, ba2, fitB, hv, hr', hw, hc, if_true, e1, k1, ep]
  refine B.run (itoa_runs (hle.row _ _ hn) (by omega) (by omega)) ?_
  try simp (disch := (simp only [List.length_append, List.length_cons, List.length_nil]; omega)) only [q_bind_some, castInt_int, q_castBool, q_castStr, q_castPtr, q_castFn, q_castAgg, q_castTuple, q_uncons, q_isNil, q_sl, q_nils, q_emp, q_ptr, q_nilp, q_fn, q_cond_true, q_cond_false, Bool.not_true, Bool.not_false, decide_true, decide_false, List.cons_append, List.nil_append, mk_ba, ba2, fitB, unprot_same (hle.row _ _ ho) (hle.row _ _ ho), ep]
  obtain ⟨σ3, c3, B3, K3⟩ := writeString_runs (F := σ.length + 1) hlen' hB (ba (tw ++ [32] ++ Lib.itoa x.a ++ [10])) (by rw [hbs, ba_size]; simp only [List.length_append, List.length_cons, List.length_nil]; omega)
  refine B.run c3 ?_
  have l3 : Lh σ σ3 := K3.lh hle (by omega) hno
  try simp (disch := (simp only [List.length_append, List.length_cons, List.length_nil]; omega)) only [q_bind_some, castInt_int, q_castBool, q_castStr, q_castPtr, q_castFn, q_castAgg, q_castTuple, q_uncons, q_isNil, q_sl, q_nils, q_emp, q_ptr, q_nilp, q_fn, q_cond_true, q_cond_false, Bool.not_true, Bool.not_false, decide_true, decide_false, List.cons_append, List.nil_append, mk_ba, ba2, fitB, hnext, unprot_same (hle.row _ _ ho) (l3.row _ _ ho)]
  rw [ba2, ← hstep] at B3
  exact W.again (i + 1, σ3) ⟨by show i + 1 ≤ l.length; omega, B3, l3, Nat.le_trans hlen' K3.1⟩ (by simp only; omega) rfl rfl
end Go.D
