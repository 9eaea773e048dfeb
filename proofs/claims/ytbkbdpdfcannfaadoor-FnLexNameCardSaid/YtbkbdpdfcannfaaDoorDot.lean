/- LexDot of the program. -/
import Derived.Test.YtbkbdpdfcannfaaDoorN
import Derived.Test.YtbkbdpdfcannfaaDoorBa
import Derived.Test.YtbkbdpdfcannfaaDoorHMHook
set_option linter.unusedVariables false
set_option linter.unusedSimpArgs false
namespace Go.L
open Go.HM Go.Proofs
theorem idx_cases (c : UInt8) : ∀ l : List UInt8, (c ∉ l ∧ Lib.indexByte l c = -1) ∨ ∃ i : Nat, i < l.length ∧ Lib.indexByte l c = (i : Int) ∧ l[i]? = some c ∧ c ∉ l.take i
  | [] => .inl ⟨by simp, rfl⟩
  | b :: l => by
    unfold Lib.indexByte
    by_cases hb : b = c
    · subst hb
      exact .inr ⟨0, by simp, by simp, by simp, by simp⟩
    · have hb' : (b == c) = false := by simpa using hb
      rw [hb']
      simp only [Bool.false_eq_true, if_false]
      rcases idx_cases c l with ⟨h1, h2⟩ | ⟨i, h1, h2, h3, h4⟩
      · exact .inl ⟨by simp [h1, Ne.symm hb], by rw [h2]; rfl⟩
      · refine .inr ⟨i + 1, by simp; omega, ?_, by simpa using h3, by simp [h4, Ne.symm hb]⟩
        rw [h2]
        have : ((i : Int) == -1) = false := by simp
        rw [this]
        simp
/-- What is cut at the first dot. -/
def dotAt (l : List UInt8) : List UInt8 × List UInt8 := if Lib.indexByte l 46 < 0 then (l, []) else (l.take (Lib.indexByte l 46).toNat, l.drop ((Lib.indexByte l 46).toNat + 1))
theorem index_runs {σ : Heap} (s : ByteArray) (c : UInt8) : Runs G n_internal_stringslite_Index [.str s, .str ⟨#[c]⟩] σ (.int .i64 (Lib.indexByte s.data.toList c)) σ := by
  refine hook_runs (h := hkIndex) rfl ?_
  unfold hkIndex
  exact if_pos rfl
theorem sub_to {s : ByteArray} {i : Nat} (h : i ≤ s.size) : ssub s none (some (i : Int)) = some (ba (s.data.toList.take i)) := by
  obtain ⟨⟨l⟩⟩ := s
  have hl : i ≤ l.length := h
  unfold ssub
  simp only [Option.getD_some, Option.getD_none]
  have hs : (⟨⟨l⟩⟩ : ByteArray).size = l.length := rfl
  rw [if_pos (by omega)]
  congr 1
  show ByteArray.extract ⟨⟨l⟩⟩ 0 i = _
  have : (ByteArray.extract ⟨⟨l⟩⟩ 0 i).data.toList = l.take i := by rw [ByteArray.data_extract]; simp [List.extract]
  rw [ba_self (ByteArray.extract ⟨⟨l⟩⟩ 0 i), this]
theorem sub_from {s : ByteArray} {i : Nat} (h : i ≤ s.size) : ssub s (some (i : Int)) none = some (ba (s.data.toList.drop i)) := by
  obtain ⟨⟨l⟩⟩ := s
  have hl : i ≤ l.length := h
  unfold ssub
  simp only [Option.getD_some, Option.getD_none]
  have hs : (⟨⟨l⟩⟩ : ByteArray).size = l.length := rfl
  rw [if_pos (by omega)]
  congr 1
  rw [ba_self (ByteArray.extract ⟨⟨l⟩⟩ (Int.toNat (i : Int)) _)]
  have : (ByteArray.extract ⟨⟨l⟩⟩ i l.length).data.toList = l.drop i := by rw [ByteArray.data_extract]; simp [List.extract]; rw [List.take_of_length_le (by simp)]
  rw [Int.toNat_natCast, hs, Int.toNat_natCast, this]
theorem dot_le (l : List UInt8) : (dotAt l).1.length ≤ l.length ∧ (dotAt l).2.length ≤ l.length := by
  unfold dotAt
  split
  · exact ⟨Nat.le_refl _, Nat.zero_le _⟩
  · simp
    omega
theorem cut_runs {σ : Heap} (s : ByteArray) (hs : s.size ≤ 1048576) : ∃ b, Runs G n_strings_Cut [.str s, .str ⟨#[46]⟩] σ (.tuple [.str (ba (dotAt s.data.toList).1), .str (ba (dotAt s.data.toList).2), .bool b]) σ := by
  have hl : s.data.toList.length = s.size := by simp
  suffices h : ∃ b, Runs G n_internal_stringslite_Cut [.str s, .str ⟨#[46]⟩] σ (.tuple [.str (ba (dotAt s.data.toList).1), .str (ba (dotAt s.data.toList).2), .bool b]) σ by
    obtain ⟨b, c⟩ := h
    refine ⟨b, Runs.of (W.to (fun k _ => strings_Cut.eq k _ _ _) ?_)⟩
    refine W.run c ?_
    try simp only [q_bind_some, castInt_int, q_castBool, q_castStr, q_castPtr, q_castFn, q_castAgg, q_castTuple, q_uncons, q_isNil, q_sl, q_nils, q_emp, q_ptr, q_nilp, q_fn, q_cond_true, q_cond_false, Bool.not_true, Bool.not_false, decide_true, decide_false, List.cons_append, List.nil_append]
    exact W.ret ⟨rfl, rfl⟩
  rcases idx_cases 46 s.data.toList with ⟨h1, h2⟩ | ⟨i, h1, h2, h3, h4⟩
  · refine ⟨false, Runs.of (W.to (fun k _ => internal_stringslite_Cut.eq k _ _ _) ?_)⟩
    refine W.run (index_runs s 46) ?_
    have e : dotAt s.data.toList = (s.data.toList, []) := by unfold dotAt; rw [h2, if_pos (by omega)]
    try simp only [q_bind_some, castInt_int, q_castBool, q_castStr, q_castPtr, q_castFn, q_castAgg, q_castTuple, q_uncons, q_isNil, q_sl, q_nils, q_emp, q_ptr, q_nilp, q_fn, q_cond_true, q_cond_false, Bool.not_true, Bool.not_false, decide_true, decide_false, List.cons_append, List.nil_append, h2, show decide ((0 : Int) ≤ -1) = false from rfl]
    exact W.ret ⟨by rw [e]; simp only; rw [← ba_self s]; rfl, rfl⟩
  · refine ⟨true, Runs.of (W.to (fun k _ => internal_stringslite_Cut.eq k _ _ _) ?_)⟩
    refine W.run (index_runs s 46) ?_
    have e : dotAt s.data.toList = (s.data.toList.take i, s.data.toList.drop (i + 1)) := by unfold dotAt; rw [h2, if_neg (by omega), Int.toNat_natCast]
    have hw : IntKind.wrap .i64 ((i : Int) + (((⟨#[46]⟩ : ByteArray).size : Nat) : Int)) = ((i + 1 : Nat) : Int) := by
      have : (⟨#[46]⟩ : ByteArray).size = 1 := rfl
      rw [this, wrap_id (by omega) (by omega)]
      omega
    try simp only [q_bind_some, castInt_int, q_castBool, q_castStr, q_castPtr, q_castFn, q_castAgg, q_castTuple, q_uncons, q_isNil, q_sl, q_nils, q_emp, q_ptr, q_nilp, q_fn, q_cond_true, q_cond_false, Bool.not_true, Bool.not_false, decide_true, decide_false, List.cons_append, List.nil_append, h2, decide_eq_true (show (0 : Int) ≤ (i : Int) by omega), hw, sub_to (show i ≤ s.size by omega), sub_from (show i + 1 ≤ s.size by omega)]
    exact W.ret ⟨by rw [e], rfl⟩
def dotOk (l : List UInt8) : Prop := IsName (ba (dotAt l).1) ∧ IsName (ba (dotAt l).2)
theorem lexDot_gives (σ : Heap) (s : ByteArray) (hs : s.size ≤ 1048576) : (dotOk s.data.toList → Gives G n_impl_LexDot [.str s] σ (.tuple [.str (ba (dotAt s.data.toList).1), .str (ba (dotAt s.data.toList).2), .bool true])) ∧
    (¬ dotOk s.data.toList → Gives G n_impl_LexDot [.str s] σ (.tuple [.str ⟨#[]⟩, .str ⟨#[]⟩, .bool false])) := by
  obtain ⟨b, c⟩ := cut_runs (σ := σ) s hs
  have hl : s.data.toList.length = s.size := by simp
  obtain ⟨d1, d2⟩ := dot_le s.data.toList
  have z1 : (ba (dotAt s.data.toList).1).size ≤ 9223372036854775807 := by rw [ba_size]; omega
  have z2 : (ba (dotAt s.data.toList).2).size ≤ 9223372036854775807 := by rw [ba_size]; omega
  constructor
  · intro h
    refine Gives.of (W.to (fun k _ => impl_LexDot.eq k _ _) ?_)
    refine W.run c ?_
    try simp only [q_bind_some, castInt_int, q_castBool, q_castStr, q_castPtr, q_castFn, q_castAgg, q_castTuple, q_uncons, q_isNil, q_sl, q_nils, q_emp, q_ptr, q_nilp, q_fn, q_cond_true, q_cond_false, Bool.not_true, Bool.not_false, decide_true, decide_false, List.cons_append, List.nil_append]
    refine W.give (implLexName_gives σ _ z1) fun σ1 l1 => ?_
    try simp only [q_bind_some, castInt_int, q_castBool, q_castStr, q_castPtr, q_castFn, q_castAgg, q_castTuple, q_uncons, q_isNil, q_sl, q_nils, q_emp, q_ptr, q_nilp, q_fn, q_cond_true, q_cond_false, Bool.not_true, Bool.not_false, decide_true, decide_false, List.cons_append, List.nil_append, decide_eq_true h.1]
    refine W.give (implLexName_gives σ1 _ z2) fun σ2 l2 => ?_
    try simp only [q_bind_some, castInt_int, q_castBool, q_castStr, q_castPtr, q_castFn, q_castAgg, q_castTuple, q_uncons, q_isNil, q_sl, q_nils, q_emp, q_ptr, q_nilp, q_fn, q_cond_true, q_cond_false, Bool.not_true, Bool.not_false, decide_true, decide_false, List.cons_append, List.nil_append, decide_eq_true h.2]
    exact W.ret ⟨rfl, l1.trans l2⟩
  · intro h
    refine Gives.of (W.to (fun k _ => impl_LexDot.eq k _ _) ?_)
    refine W.run c ?_
    try simp only [q_bind_some, castInt_int, q_castBool, q_castStr, q_castPtr, q_castFn, q_castAgg, q_castTuple, q_uncons, q_isNil, q_sl, q_nils, q_emp, q_ptr, q_nilp, q_fn, q_cond_true, q_cond_false, Bool.not_true, Bool.not_false, decide_true, decide_false, List.cons_append, List.nil_append]
    refine W.give (implLexName_gives σ _ z1) fun σ1 l1 => ?_
    by_cases h1 : IsName (ba (dotAt s.data.toList).1)
    · try simp only [q_bind_some, castInt_int, q_castBool, q_castStr, q_castPtr, q_castFn, q_castAgg, q_castTuple, q_uncons, q_isNil, q_sl, q_nils, q_emp, q_ptr, q_nilp, q_fn, q_cond_true, q_cond_false, Bool.not_true, Bool.not_false, decide_true, decide_false, List.cons_append, List.nil_append, decide_eq_true h1]
      refine W.give (implLexName_gives σ1 _ z2) fun σ2 l2 => ?_
      try simp only [q_bind_some, castInt_int, q_castBool, q_castStr, q_castPtr, q_castFn, q_castAgg, q_castTuple, q_uncons, q_isNil, q_sl, q_nils, q_emp, q_ptr, q_nilp, q_fn, q_cond_true, q_cond_false, Bool.not_true, Bool.not_false, decide_true, decide_false, List.cons_append, List.nil_append, decide_eq_false (fun h2 => h ⟨h1, h2⟩)]
      exact W.ret ⟨rfl, l1.trans l2⟩
    · try simp only [q_bind_some, castInt_int, q_castBool, q_castStr, q_castPtr, q_castFn, q_castAgg, q_castTuple, q_uncons, q_isNil, q_sl, q_nils, q_emp, q_ptr, q_nilp, q_fn, q_cond_true, q_cond_false, Bool.not_true, Bool.not_false, decide_true, decide_false, List.cons_append, List.nil_append, decide_eq_false h1]
      exact W.ret ⟨rfl, l1⟩
theorem name_no_dot {s : ByteArray} (h : IsName s) : (46 : UInt8) ∉ s.data.toList := fun hm => by
  obtain ⟨i, hi, e⟩ := List.getElem_of_mem hm
  have hs : i < s.size := by simpa using hi
  have := h.1 i hs
  have e2 : s[i] = 46 := by
    obtain ⟨⟨l⟩⟩ := s
    exact e
  rw [e2] at this
  have h46 : (46 : UInt8).toNat = 46 := rfl
  omega
/-- Two words with a dot between. -/
theorem dot_two (a b : ByteArray) : (IsName a ∧ IsName b → dotAt (a.data.toList ++ [46] ++ b.data.toList) = (a.data.toList, b.data.toList)) ∧ (dotOk (a.data.toList ++ [46] ++ b.data.toList) ↔ IsName a ∧ IsName b) := by
  have hmem : (46 : UInt8) ∈ a.data.toList ++ [46] ++ b.data.toList := by simp
  rcases idx_cases 46 (a.data.toList ++ [46] ++ b.data.toList) with ⟨h1, _⟩ | ⟨i, h1, h2, h3, h4⟩
  · exact absurd hmem h1
  have e : dotAt (a.data.toList ++ [46] ++ b.data.toList) = ((a.data.toList ++ [46] ++ b.data.toList).take i, (a.data.toList ++ [46] ++ b.data.toList).drop (i + 1)) := by unfold dotAt; rw [h2, if_neg (by omega), Int.toNat_natCast]
  have hne : ∀ i, i < a.data.toList.length → (a.data.toList ++ [46] ++ b.data.toList)[i]? = a.data.toList[i]? := fun i hi => by
    rw [List.append_assoc, List.getElem?_append_left hi]
  by_cases ha : (46 : UInt8) ∈ a.data.toList
  · have hlt : i < a.data.toList.length := by
      rcases Nat.lt_or_ge i a.data.toList.length with h | h
      · exact h
      · exfalso
        refine h4 ?_
        rw [List.append_assoc, List.take_append]
        rw [List.take_of_length_le h]
        exact List.mem_append_left _ ha
    have hna : ¬ IsName a := fun h => name_no_dot h ha
    refine ⟨fun h => absurd h.1 hna, fun h => ?_, fun h => absurd h.1 hna⟩
    exfalso
    have h5 := name_no_dot h.2
    rw [e] at h5
    refine h5 ?_
    show (46 : UInt8) ∈ (a.data.toList ++ [46] ++ b.data.toList).drop (i + 1)
    rw [List.append_assoc, List.drop_append_of_le_length (by omega)]
    simp
  · have hi : i = a.data.toList.length := by
      rcases Nat.lt_trichotomy i a.data.toList.length with h | h | h
      · rw [hne i h] at h3
        exact absurd (List.mem_of_getElem? h3) ha
      · exact h
      · exfalso
        refine h4 (List.mem_of_getElem? (i := a.data.toList.length) ?_)
        rw [List.getElem?_take, if_pos h]
        simp
    have e2 : dotAt (a.data.toList ++ [46] ++ b.data.toList) = (a.data.toList, b.data.toList) := by
      rw [e, hi]
      have t1 : (a.data.toList ++ [46] ++ b.data.toList).take a.data.toList.length = a.data.toList := by rw [List.append_assoc, List.take_left']; rfl
      have t2 : (a.data.toList ++ [46] ++ b.data.toList).drop (a.data.toList.length + 1) = b.data.toList := List.drop_left' (by simp)
      rw [t1, t2]
    refine ⟨fun _ => e2, ?_⟩
    unfold dotOk
    rw [e2]
    simp only
    rw [← ba_self a, ← ba_self b]
end Go.L
