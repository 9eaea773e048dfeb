/- Rows of types as texts; FaceText of both. -/
import Derived.Test.YtjadancpencnnaaDoorFace2
import Derived.Test.YtjadancpencnnaaDoorBld
import Derived.Test.YtjadancpencnnaaDoorHMStd
set_option linter.unusedVariables false
set_option linter.unusedSimpArgs false
namespace Go.D
open Go.HM Go.Proofs
/-- A text of bytes. -/
def ba (l : List UInt8) : ByteArray := ⟨l.toArray⟩
theorem ba_app (l : List UInt8) (s : ByteArray) : ba l ++ s = ba (l ++ s.data.toList) := by
  obtain ⟨⟨d⟩⟩ := s
  apply ByteArray.ext
  rw [ByteArray.data_append]
  simp [ba]
theorem ba_size (l : List UInt8) : (ba l).size = l.length := by simp [ba, ByteArray.size]
theorem ba_self (s : ByteArray) : s = ba s.data.toList := by
  obtain ⟨⟨d⟩⟩ := s
  rfl
theorem ba_list (s : ByteArray) : s.data.toList.length = s.size := by simp
theorem join_snoc (xs : List (List UInt8)) (x sep : List UInt8) : Lib.join (xs ++ [x]) sep = if xs = [] then x else Lib.join xs sep ++ sep ++ x := by
  cases xs with
  | nil => simp [Lib.join_one]
  | cons y r =>
    rw [List.cons_append, Lib.join_cons, Lib.join_cons, if_neg (by simp)]
    simp [Lib.joinTail]
def tyL (l : List Int) : List UInt8 := Lib.join (l.map fun n => (tword n).data.toList) [44]
theorem tyL_next {l : List Int} {i : Nat} {n : Int} (h : l[i]? = some n) : tyL (l.take (i + 1)) = if i = 0 then (tword n).data.toList else tyL (l.take i) ++ [44] ++ (tword n).data.toList := by
  have hi := (List.getElem?_eq_some_iff.1 h).1
  unfold tyL
  rw [take_next' h, List.map_append, List.map_cons, List.map_nil, join_snoc]
  by_cases h0 : i = 0
  · subst h0
    simp
  · rw [if_neg h0, if_neg (fun hc => ?_)]
    have := congrArg List.length hc
    simp only [List.length_map, List.length_take, List.length_nil] at this
    omega
theorem tyL_len (l : List Int) : ∀ i, i ≤ l.length → (tyL (l.take i)).length ≤ 5 * i
  | 0, _ => by simp [tyL, Lib.join_nil]
  | i + 1, h => by
    have hx : l[i]? = some (l[i]'(by omega)) := List.getElem?_eq_getElem (by omega)
    have ih := tyL_len l i (by omega)
    have hs := tword_size (l[i]'(by omega))
    have hb := ba_list (tword (l[i]'(by omega)))
    rw [tyL_next hx]
    split
    · omega
    · simp only [List.length_append, List.length_cons, List.length_nil]
      omega
theorem l3Types_gives {σ : Heap} {v : V} {l : List Int} (hf : l.length ≤ 1048576) (h : RepS 1 IntRep σ v l) : Gives G n_spec_l3Types [v] σ (.str (ba (tyL l))) := by
  refine Gives.of (W.to (fun k _ => spec_l3Types.eq k _ _) ?_)
  have h0 : (⟨#[]⟩ : ByteArray) = ba (tyL (l.take 0)) := by simp [tyL, Lib.join_nil, ba]
  rw [h0]
  refine W.loop (S := Nat × Heap) (fun s => s.1 ≤ l.length ∧ Lh σ s.2) (fun s => [.v v, .v (.str (ba (tyL (l.take s.1)))), .v (.int .i64 (s.1 : Int))]) (fun s => s.2) (fun s => l.length - s.1)
    (fun ⟨i, σi⟩ ⟨hi, hl⟩ => ?_) (0, σ) ⟨Nat.zero_le _, Lh.refl _⟩
  simp only at hi hl ⊢
  refine W.to (fun k _ => by rw [spec_l3Types.L0_step]) ?_
  refine B.len h ?_
  refine B.ite (fun hlt => ?_) fun hlt => ?_
  rotate_left
  · obtain rfl : i = l.length := by omega
    try simp only [q_bind_some, castInt_int, q_castBool, q_castStr, q_castPtr, q_castFn, q_castAgg, q_castTuple, q_uncons, q_isNil, q_sl, q_nils, q_emp, q_ptr, q_nilp, q_fn, q_cond_true, q_cond_false, Bool.not_true, Bool.not_false, decide_true, decide_false, List.cons_append, List.nil_append, spec_l3Types.A0_x0]
    exact W.ret ⟨by rw [List.take_length], hl⟩
  have hil : i < l.length := by omega
  have hx : l[i]? = some l[i] := List.getElem?_eq_getElem hil
  generalize l[i] = n at hx
  have hnext := wrap_next hil (by omega)
  obtain ⟨r, o, hv, cs, hr, hP⟩ := h.at' hx
  have hr' := hl.rdc hr
  unfold IntRep at hP
  subst hP
  have hsz := ba_size (tyL (l.take i))
  have hln := tyL_len l i hi
  have hts := tword_size n
  have hstep := tyL_next hx
  have e62 : (2 : Nat) ^ 62 = 4611686018427387904 := by decide
  by_cases hi0 : 0 < i
  · have hp : (0 : Int) < (i : Int) := by omega
    rw [if_neg (by omega)] at hstep
    have s1 : (ba (tyL (l.take i))).size + (⟨#[44]⟩ : ByteArray).size ≤ 2 ^ 62 := by
      rw [hsz, e62]
      show _ + 1 ≤ _
      omega
    have a1 : ba (tyL (l.take i)) ++ (⟨#[44]⟩ : ByteArray) = ba (tyL (l.take i) ++ [44]) := ba_app _ _
    have s2 : (ba (tyL (l.take i) ++ [44])).size + (tword n).size ≤ 2 ^ 62 := by
      rw [ba_size, e62, List.length_append]
      show _ + 1 + _ ≤ _
      omega
    try simp only [q_bind_some, castInt_int, q_castBool, q_castStr, q_castPtr, q_castFn, q_castAgg, q_castTuple, q_uncons, q_isNil, q_sl, q_nils, q_emp, q_ptr, q_nilp, q_fn, q_cond_true, q_cond_false, Bool.not_true, Bool.not_false, decide_true, decide_false, List.cons_append, List.nil_append, hp, s1, hv, hr']
    refine B.give (specTreeType_gives _ σi) fun σ1 l1 => ?_
    try simp only [q_bind_some, castInt_int, q_castBool, q_castStr, q_castPtr, q_castFn, q_castAgg, q_castTuple, q_uncons, q_isNil, q_sl, q_nils, q_emp, q_ptr, q_nilp, q_fn, q_cond_true, q_cond_false, Bool.not_true, Bool.not_false, decide_true, decide_false, List.cons_append, List.nil_append, a1, s2, hnext]
    rw [ba_app, ← hstep]
    exact W.again (i + 1, σ1) ⟨by show i + 1 ≤ l.length; omega, hl.trans l1⟩ (by simp only; omega) rfl rfl
  · obtain rfl : i = 0 := by omega
    rw [if_pos rfl] at hstep
    have s2 : (ba (tyL (l.take 0))).size + (tword n).size ≤ 2 ^ 62 := by
      rw [hsz, e62]
      omega
    try simp only [q_bind_some, castInt_int, q_castBool, q_castStr, q_castPtr, q_castFn, q_castAgg, q_castTuple, q_uncons, q_isNil, q_sl, q_nils, q_emp, q_ptr, q_nilp, q_fn, q_cond_true, q_cond_false, Bool.not_true, Bool.not_false, decide_true, decide_false, List.cons_append, List.nil_append, hv, hr']
    refine B.give (specTreeType_gives _ σi) fun σ1 l1 => ?_
    have a2 : ba (tyL (l.take 0)) ++ tword n = ba (tyL (l.take (0 + 1))) := by
      rw [ba_app, hstep]
      simp [tyL, Lib.join_nil]
    try simp only [q_bind_some, castInt_int, q_castBool, q_castStr, q_castPtr, q_castFn, q_castAgg, q_castTuple, q_uncons, q_isNil, q_sl, q_nils, q_emp, q_ptr, q_nilp, q_fn, q_cond_true, q_cond_false, Bool.not_true, Bool.not_false, decide_true, decide_false, List.cons_append, List.nil_append, s2, a2, hnext]
    exact W.again (0 + 1, σ1) ⟨by show 0 + 1 ≤ l.length; omega, hl.trans l1⟩ (by simp only; omega) rfl rfl
theorem join_runs {b : Nat} {σ : Heap} {v : V} {l : List ByteArray} (h : GrS b σ v l) (sep : ByteArray) (h1 : l.length ≤ 1048576) (h2 : (Lib.join (l.map (·.data.toList)) sep.data.toList).length ≤ 1048576) :
    Runs G n_strings_Join [v, .str sep] σ (.str (ba (Lib.join (l.map (·.data.toList)) sep.data.toList))) σ := by
  obtain ⟨q, lim, hq, rfl, ty, hrow⟩ := h
  refine hook_runs (h := hkJoin) rfl ?_
  have hr : rdc σ q 0 l.length = some (l.map .str) := by
    unfold rdc
    rw [hrow]
    simp only [List.length_map, Nat.zero_add, List.drop_zero]
    rw [if_pos (Nat.le_refl _), List.take_of_length_le (by simp)]
  simp only [hkJoin, hr, Option.bind_some, strL_map]
  rw [if_pos ⟨by omega, by omega⟩]
  rfl
theorem typeList_gives {σ : Heap} (ht : TypeW σ) {v : V} {l : List Int} (hf : l.length ≤ 4) (h : RepS 1 IntRep σ v l) : Gives G n_impl_typeList [v] σ (.str (ba (tyL l))) := by
  refine Gives.of (W.to (fun k _ => impl_typeList.eq k _ _) ?_)
  refine W.len h ?_
  refine W.loop (S := Nat × V × Heap) (fun s => s.1 ≤ l.length ∧ Lh σ s.2.2 ∧ GrS σ.length s.2.2 s.2.1 ((l.take s.1).map tword)) (fun s => [.v s.2.1, .v v, .v (.int .i64 (l.length : Int)), .v (.int .i64 (s.1 : Int))]) (fun s => s.2.2) (fun s => l.length - s.1)
    (fun ⟨i, a, σi⟩ ⟨hi, hl, hg⟩ => ?_) (0, .sl σ.length 0 0 true, hnew σ 1 []) ⟨Nat.zero_le _, Lh.new _ _ _, GrS.new σ true⟩
  simp only at hi hl hg ⊢
  refine W.to (fun k _ => by rw [impl_typeList.L0_step]) ?_
  refine B.ite (fun hlt => ?_) fun hlt => ?_
  rotate_left
  · obtain rfl : i = l.length := by omega
    rw [List.take_length] at hg
    have hln := tyL_len l l.length (Nat.le_refl _)
    rw [List.take_length] at hln
    have he : Lib.join ((l.map tword).map (·.data.toList)) (⟨#[44]⟩ : ByteArray).data.toList = tyL l := by
      unfold tyL
      rw [List.map_map]
      rfl
    try simp only [q_bind_some, castInt_int, q_castBool, q_castStr, q_castPtr, q_castFn, q_castAgg, q_castTuple, q_uncons, q_isNil, q_sl, q_nils, q_emp, q_ptr, q_nilp, q_fn, q_cond_true, q_cond_false, Bool.not_true, Bool.not_false, decide_true, decide_false, List.cons_append, List.nil_append, impl_typeList.A0_x0]
    refine W.run (join_runs hg ⟨#[44]⟩ (by rw [List.length_map]; omega) (by rw [he]; omega)) ?_
    rw [he]
    try simp only [q_bind_some, castInt_int, q_castBool, q_castStr, q_castPtr, q_castFn, q_castAgg, q_castTuple, q_uncons, q_isNil, q_sl, q_nils, q_emp, q_ptr, q_nilp, q_fn, q_cond_true, q_cond_false, Bool.not_true, Bool.not_false, decide_true, decide_false, List.cons_append, List.nil_append]
    exact W.ret ⟨rfl, hl⟩
  have hil : i < l.length := by omega
  have hx : l[i]? = some l[i] := List.getElem?_eq_getElem hil
  generalize l[i] = n at hx
  have hnext := wrap_next hil (by omega)
  obtain ⟨r, o, hv, cs, hr, hP⟩ := h.at' hx
  have hr' := hl.rdc hr
  unfold IntRep at hP
  subst hP
  try simp only [q_bind_some, castInt_int, q_castBool, q_castStr, q_castPtr, q_castFn, q_castAgg, q_castTuple, q_uncons, q_isNil, q_sl, q_nils, q_emp, q_ptr, q_nilp, q_fn, q_cond_true, q_cond_false, Bool.not_true, Bool.not_false, decide_true, decide_false, List.cons_append, List.nil_append, hv, hr']
  refine B.run (implTreeType_runs n σi (hl.row _ _ ht)) ?_
  obtain ⟨v', σ', g1, g2, g3, g4, g5⟩ := hg.app' (tword n) (by rw [List.length_map, List.length_take]; omega)
  try simp only [q_bind_some, castInt_int, q_castBool, q_castStr, q_castPtr, q_castFn, q_castAgg, q_castTuple, q_uncons, q_isNil, q_sl, q_nils, q_emp, q_ptr, q_nilp, q_fn, q_cond_true, q_cond_false, Bool.not_true, Bool.not_false, decide_true, decide_false, List.cons_append, List.nil_append, g1, hnext]
  exact W.again (i + 1, v', σ') ⟨by show i + 1 ≤ l.length; omega, g3 σ (Nat.le_refl _) hl, by show GrS _ _ _ ((l.take (i + 1)).map tword); rw [take_next' hx, List.map_append]; exact g2⟩ (by simp only; omega) rfl rfl
end Go.D
