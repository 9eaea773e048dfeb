/- The heads and lines of objects' texts, of both. -/
import Derived.Test.YtjadancpencnnaaDoorOText
set_option linter.unusedVariables false
set_option linter.unusedSimpArgs false
namespace Go.D
open Go.HM Go.Proofs
theorem mk_ba (L : List UInt8) : (⟨L.toArray⟩ : ByteArray) = ba L := rfl
theorem ba_inj {L M : List UInt8} : ba L = ba M ↔ L = M := ⟨fun h => congrArg (fun s : ByteArray => s.data.toList) h, fun h => by rw [h]⟩
theorem tyL_len' {l : List Int} (h : l.length ≤ 4) : (tyL l).length ≤ 20 := by
  have h1 := tyL_len l l.length (Nat.le_refl _)
  rw [List.take_length] at h1
  omega
theorem tword_ba (n : Int) : tword n = ba (tword n).data.toList ∧ (tword n).data.toList.length ≤ 4 := ⟨ba_self _, by rw [ba_list]; exact tword_size n⟩
theorem headText_gives {σ : Heap} (ht : TypeW σ) (hn : σ[g_uint64pow10]? = some (some ⟨Lib.pow10Tab.map fun z => .int .u64 z, 1, true, 0⟩)) {v : V} {l : List Int} (hf : l.length ≤ 4) (h : RepS 1 IntRep σ v l) (t s : Int) (h0 : 0 ≤ s) (h1 : s ≤ 1000) :
    Gives G n_impl_headText [v, .int .i64 t, .int .i64 s] σ (.str (ba (headL l t s))) := by
  refine Gives.of (W.to (fun k _ => impl_headText.eq k _ _ _ _) ?_)
  refine W.give (typeList_gives ht hf h) fun σ1 l1 => ?_
  have hi := Lib.itoa_length_le s (by omega) (by omega)
  obtain ⟨k1, k2⟩ := tword_ba t
  have k3 := tyL_len' hf
  unfold headL argL
  generalize (tword t).data.toList = tw at k1 k2
  try simp (disch := (simp only [List.length_append, List.length_cons, List.length_nil]; omega)) only [q_bind_some, castInt_int, q_castBool, q_castStr, q_castPtr, q_castFn, q_castAgg, q_castTuple, q_uncons, q_isNil, q_sl, q_nils, q_emp, q_ptr, q_nilp, q_fn, q_cond_true, q_cond_false, Bool.not_true, Bool.not_false, decide_true, decide_false, List.cons_append, List.nil_append, mk_ba, ba2, fitB, ba_inj]
  refine W.ite (fun he => ?_) fun he => ?_
  · rw [if_pos he]
    try simp (disch := (simp only [List.length_append, List.length_cons, List.length_nil]; omega)) only [q_bind_some, castInt_int, q_castBool, q_castStr, q_castPtr, q_castFn, q_castAgg, q_castTuple, q_uncons, q_isNil, q_sl, q_nils, q_emp, q_ptr, q_nilp, q_fn, q_cond_true, q_cond_false, Bool.not_true, Bool.not_false, decide_true, decide_false, List.cons_append, List.nil_append, mk_ba, ba2, fitB]
    refine W.run (implTreeType_runs t σ1 (l1.row _ _ ht)) ?_
    try simp (disch := (simp only [List.length_append, List.length_cons, List.length_nil]; omega)) only [q_bind_some, castInt_int, q_castBool, q_castStr, q_castPtr, q_castFn, q_castAgg, q_castTuple, q_uncons, q_isNil, q_sl, q_nils, q_emp, q_ptr, q_nilp, q_fn, q_cond_true, q_cond_false, Bool.not_true, Bool.not_false, decide_true, decide_false, List.cons_append, List.nil_append, mk_ba, ba2, fitB, k1]
    refine W.run (itoa_runs (l1.row _ _ hn) (by omega) (by omega)) ?_
    try simp (disch := (simp only [List.length_append, List.length_cons, List.length_nil]; omega)) only [q_bind_some, castInt_int, q_castBool, q_castStr, q_castPtr, q_castFn, q_castAgg, q_castTuple, q_uncons, q_isNil, q_sl, q_nils, q_emp, q_ptr, q_nilp, q_fn, q_cond_true, q_cond_false, Bool.not_true, Bool.not_false, decide_true, decide_false, List.cons_append, List.nil_append, mk_ba, ba2, fitB]
    exact W.ret ⟨rfl, l1⟩
  · rw [if_neg he]
    try simp (disch := (simp only [List.length_append, List.length_cons, List.length_nil]; omega)) only [q_bind_some, castInt_int, q_castBool, q_castStr, q_castPtr, q_castFn, q_castAgg, q_castTuple, q_uncons, q_isNil, q_sl, q_nils, q_emp, q_ptr, q_nilp, q_fn, q_cond_true, q_cond_false, Bool.not_true, Bool.not_false, decide_true, decide_false, List.cons_append, List.nil_append, mk_ba, ba2, fitB]
    refine W.run (implTreeType_runs t σ1 (l1.row _ _ ht)) ?_
    try simp (disch := (simp only [List.length_append, List.length_cons, List.length_nil]; omega)) only [q_bind_some, castInt_int, q_castBool, q_castStr, q_castPtr, q_castFn, q_castAgg, q_castTuple, q_uncons, q_isNil, q_sl, q_nils, q_emp, q_ptr, q_nilp, q_fn, q_cond_true, q_cond_false, Bool.not_true, Bool.not_false, decide_true, decide_false, List.cons_append, List.nil_append, mk_ba, ba2, fitB, k1]
    refine W.run (itoa_runs (l1.row _ _ hn) (by omega) (by omega)) ?_
    try simp (disch := (simp only [List.length_append, List.length_cons, List.length_nil]; omega)) only [q_bind_some, castInt_int, q_castBool, q_castStr, q_castPtr, q_castFn, q_castAgg, q_castTuple, q_uncons, q_isNil, q_sl, q_nils, q_emp, q_ptr, q_nilp, q_fn, q_cond_true, q_cond_false, Bool.not_true, Bool.not_false, decide_true, decide_false, List.cons_append, List.nil_append, mk_ba, ba2, fitB]
    exact W.ret ⟨rfl, l1⟩
theorem l8Head_gives {σ : Heap} {f : CodeFun} (hok : CFunOk f) {cs : List V} (h : CodeFun.Rep σ cs f) : Gives G n_spec_l8Head [.agg cs] σ (.str (ba (funL f))) := by
  cases h with
  | mk h0 h1 =>
  rename_i b0 b1
  refine Gives.of (W.to (fun k _ => spec_l8Head.eq k _ _ _ _ _ _ _) ?_)
  have hf := hok.1.2.1.1
  have hs := hok.1.2.2.2
  have hi := Lib.itoa_length_le f.slots (by omega) (by omega)
  obtain ⟨k1, k2⟩ := tword_ba f.type
  have k3 := tyL_len' hf
  have k4 := name_len hok
  have k5 : f.name = ba f.name.data.toList := ba_self _
  unfold funL headL argL pubL
  generalize (tword f.type).data.toList = tw at k1 k2
  generalize f.name.data.toList = nm at k4 k5
  have c1 : ∀ σ', Lh σ σ' → Gives G n_spec_l3Types [b0] σ' (.str (ba (tyL f.args))) := fun σ' hl => l3Types_gives (by omega) (h0.mono hl fun _ _ _ h => h)
  refine W.cond (fun hp => ?_) fun hp => ?_
  all_goals refine W.give (c1 σ (Lh.refl _)) fun σ1 l1 => ?_
  all_goals try simp (disch := (simp only [List.length_append, List.length_cons, List.length_nil]; omega)) only [q_bind_some, castInt_int, q_castBool, q_castStr, q_castPtr, q_castFn, q_castAgg, q_castTuple, q_uncons, q_isNil, q_sl, q_nils, q_emp, q_ptr, q_nilp, q_fn, q_cond_true, q_cond_false, Bool.not_true, Bool.not_false, decide_true, decide_false, List.cons_append, List.nil_append, mk_ba, ba2, fitB, ba_inj, k5, hp, if_true, Bool.false_eq_true, if_false]
  all_goals refine W.ite (fun he => ?_) fun he => ?_
  all_goals first | rw [if_pos he] | rw [if_neg he]
  all_goals try simp (disch := (simp only [List.length_append, List.length_cons, List.length_nil]; omega)) only [q_bind_some, castInt_int, q_castBool, q_castStr, q_castPtr, q_castFn, q_castAgg, q_castTuple, q_uncons, q_isNil, q_sl, q_nils, q_emp, q_ptr, q_nilp, q_fn, q_cond_true, q_cond_false, Bool.not_true, Bool.not_false, decide_true, decide_false, List.cons_append, List.nil_append, mk_ba, ba2, fitB]
  all_goals refine W.give (specTreeType_gives _ _) fun σ2 l2 => ?_
  all_goals try simp (disch := (simp only [List.length_append, List.length_cons, List.length_nil]; omega)) only [q_bind_some, castInt_int, q_castBool, q_castStr, q_castPtr, q_castFn, q_castAgg, q_castTuple, q_uncons, q_isNil, q_sl, q_nils, q_emp, q_ptr, q_nilp, q_fn, q_cond_true, q_cond_false, Bool.not_true, Bool.not_false, decide_true, decide_false, List.cons_append, List.nil_append, mk_ba, ba2, fitB, k1]
  all_goals refine W.give (l23Dec_gives _ (by omega) (by omega)) fun σ3 l3 => ?_
  all_goals try simp (disch := (simp only [List.length_append, List.length_cons, List.length_nil]; omega)) only [q_bind_some, castInt_int, q_castBool, q_castStr, q_castPtr, q_castFn, q_castAgg, q_castTuple, q_uncons, q_isNil, q_sl, q_nils, q_emp, q_ptr, q_nilp, q_fn, q_cond_true, q_cond_false, Bool.not_true, Bool.not_false, decide_true, decide_false, List.cons_append, List.nil_append, mk_ba, ba2, fitB]
  all_goals refine W.ret ⟨?_, (l1.trans l2).trans l3⟩
  all_goals simp [List.append_assoc]
end Go.D
