/- Words joined: LexJoin of both. -/
import Derived.Test.YtjadancpencnnaaBld
import Derived.Test.YtjadancpencnnaaC
import Derived.Test.YtjadancpencnnaaHMIdx
set_option linter.unusedVariables false
set_option linter.unusedSimpArgs false
namespace Go.A
open Go.HM Go.Proofs
def open1 : ByteArray := ⟨#[40]⟩
def shut1 : ByteArray := ⟨#[41]⟩
def blank1 : ByteArray := ⟨#[32]⟩
/-- Whether a blank stands ahead of word i. -/
def gap (l : List ByteArray) (i : Nat) (x : ByteArray) : Prop := 0 < i ∧ l[i - 1]? ≠ some open1 ∧ x ≠ shut1
instance (l : List ByteArray) (i : Nat) (x : ByteArray) : Decidable (gap l i x) := inferInstanceAs (Decidable (_ ∧ _ ∧ _))
def joinTo (l : List ByteArray) : Nat → ByteArray
  | 0 => ⟨#[]⟩
  | i + 1 => match l[i]? with
    | none => joinTo l i
    | some x => (if gap l i x then joinTo l i ++ blank1 else joinTo l i) ++ x
def joined (l : List ByteArray) : ByteArray := joinTo l l.length
theorem totS_take_succ {α : Type} (f : α → Nat) {l : List α} {i : Nat} {x : α} (h : l[i]? = some x) : totS f (l.take (i + 1)) = totS f (l.take i) + f x := by
  rw [take_next' h, totS_append, totS, totS]
  rfl
theorem joinTo_size (l : List ByteArray) : ∀ i, (joinTo l i).size ≤ i + totS ByteArray.size (l.take i)
  | 0 => by simp [joinTo, ByteArray.size]
  | i + 1 => by
    have ih := joinTo_size l i
    rw [joinTo]
    cases hx : l[i]? with
    | none =>
      have : l.take (i + 1) = l.take i := by rw [List.take_of_length_le (by rw [List.getElem?_eq_none_iff] at hx; omega), List.take_of_length_le (by rw [List.getElem?_eq_none_iff] at hx; omega)]
      rw [this]
      show (joinTo l i).size ≤ _
      omega
    | some x =>
      rw [totS_take_succ ByteArray.size hx]
      show ((if gap l i x then joinTo l i ++ blank1 else joinTo l i) ++ x).size ≤ _
      have hb : blank1.size = 1 := rfl
      split
      · rw [ByteArray.size_append, ByteArray.size_append, hb]; omega
      · rw [ByteArray.size_append]; omega
theorem joinTo_next {l : List ByteArray} {i : Nat} {x : ByteArray} (h : l[i]? = some x) : joinTo l (i + 1) = (if gap l i x then joinTo l i ++ blank1 else joinTo l i) ++ x := by
  rw [joinTo, h]
theorem joined_size (l : List ByteArray) : (joined l).size ≤ l.length + totS ByteArray.size l := by
  have := joinTo_size l l.length
  rw [List.take_length] at this
  exact this
theorem implLexJoin_gives {σ : Heap} {v : V} {l : List ByteArray} (hf : l.length + totS ByteArray.size l ≤ 549755813888) (h : RepS 1 StrRep σ v l) : Gives G n_impl_LexJoin [v] σ (.str (joined l)) := by
  refine Gives.of (W.to (fun k _ => impl_LexJoin.eq k _ _) ?_)
  refine W.len h ?_
  have hl1 : Lh σ (hnewT σ (hbT + 1) 2 [.nilp, .nils]) := Lh.append _ _
  have hno : ∀ row, σ[σ.length]? ≠ some (some row) := fun row hc => by rw [List.getElem?_eq_none (Nat.le_refl _)] at hc; cases hc
  refine W.loop (S := Nat × Heap) (fun s => s.1 ≤ l.length ∧ Bld (σ.length + 1) s.2 σ.length (joinTo l s.1) ∧ KeepF (σ.length + 1) σ.length (hnewT σ (hbT + 1) 2 [.nilp, .nils]) s.2)
    (fun s => [.v v, .v (.ptr σ.length 0), .v v, .v (.int .i64 (l.length : Int)), .v (.int .i64 (s.1 : Int))]) (fun s => s.2) (fun s => l.length - s.1) (fun ⟨i, σi⟩ ⟨hi, hB, hK⟩ => ?_)
    (0, hnewT σ (hbT + 1) 2 [.nilp, .nils]) ⟨Nat.zero_le _, Bld.new σ, KeepF.refl _ _ _⟩
  simp only at hi hB hK ⊢
  have hle : Lh σ σi := hK.lh hl1 (by omega) hno
  have hlen : σ.length + 1 ≤ σi.length := by have := hK.1; simp [hnewT] at this; omega
  have hjs := joinTo_size l i
  have hts := totS_take_le ByteArray.size l i
  refine W.to (fun k _ => by rw [impl_LexJoin.L0_step]) ?_
  try simp only [q_bind_some, Option.bind_assoc, castInt_int, q_castBool, q_castStr, q_castPtr, q_castFn, q_castAgg, q_castTuple, q_uncons, q_isNil, q_sl, q_nils, q_emp, q_ptr, q_nilp, q_fn, q_cond_true, q_cond_false, Bool.not_true, Bool.not_false, decide_true, decide_false, castInt_bind, castBool_bind, castStr_bind, castPtr_bind, castFn_bind, castAgg_bind, castTuple_bind, uncons_bind, isNil_bind, one_bind, cond_bind, ite_bind_, List.cons_append, List.nil_append]
  refine W.ite (fun hlt => ?_) fun hlt => ?_
  · have hi' : i < l.length := by omega
    refine W.at h hle hi' fun r o cs x hx hr hP => ?_
    unfold StrRep at hP
    subst hP
    have hxt := totS_take_succ ByteArray.size hx
    have htot := totS_take_le ByteArray.size l (i + 1)
    have hw := wrap_next (show i < l.length by omega) (by omega)
    have hnext := joinTo_next hx
    try simp only [q_bind_some, Option.bind_assoc, castInt_int, q_castBool, q_castStr, q_castPtr, q_castFn, q_castAgg, q_castTuple, q_uncons, q_isNil, q_sl, q_nils, q_emp, q_ptr, q_nilp, q_fn, q_cond_true, q_cond_false, Bool.not_true, Bool.not_false, decide_true, decide_false, castInt_bind, castBool_bind, castStr_bind, castPtr_bind, castFn_bind, castAgg_bind, castTuple_bind, uncons_bind, isNil_bind, one_bind, cond_bind, ite_bind_, List.cons_append, List.nil_append, hr]
    refine W.ite (fun h0 => ?_) fun h0 => ?_
    · have hi0 : 0 < i := by omega
      have hm1 : IntKind.wrap .i64 ((i : Int) - 1) = ((i - 1 : Nat) : Int) := by rw [wrap_id (by omega) (by omega)]; omega
      rw [hm1]
      refine W.at h hle (show i - 1 < l.length by omega) fun r' o' cs' x' hx' hr' hP' => ?_
      unfold StrRep at hP'
      subst hP'
      try simp only [q_bind_some, Option.bind_assoc, castInt_int, q_castBool, q_castStr, q_castPtr, q_castFn, q_castAgg, q_castTuple, q_uncons, q_isNil, q_sl, q_nils, q_emp, q_ptr, q_nilp, q_fn, q_cond_true, q_cond_false, Bool.not_true, Bool.not_false, decide_true, decide_false, castInt_bind, castBool_bind, castStr_bind, castPtr_bind, castFn_bind, castAgg_bind, castTuple_bind, uncons_bind, isNil_bind, one_bind, cond_bind, ite_bind_, List.cons_append, List.nil_append, hr']
      by_cases hop : x' = open1
      · have hng : ¬ gap l i x := fun hg => hg.2.1 (by rw [hx', hop])
        rw [if_neg hng] at hnext
        have hop' : x' = (⟨#[40]⟩ : ByteArray) := hop
        try simp only [q_bind_some, Option.bind_assoc, castInt_int, q_castBool, q_castStr, q_castPtr, q_castFn, q_castAgg, q_castTuple, q_uncons, q_isNil, q_sl, q_nils, q_emp, q_ptr, q_nilp, q_fn, q_cond_true, q_cond_false, Bool.not_true, Bool.not_false, decide_true, decide_false, castInt_bind, castBool_bind, castStr_bind, castPtr_bind, castFn_bind, castAgg_bind, castTuple_bind, uncons_bind, isNil_bind, one_bind, cond_bind, ite_bind_, List.cons_append, List.nil_append, hop']
        obtain ⟨σ2, c2, B2, K2⟩ := writeString_runs hlen hB x (by omega)
        refine W.run c2 ?_
        try simp only [q_bind_some, Option.bind_assoc, castInt_int, q_castBool, q_castStr, q_castPtr, q_castFn, q_castAgg, q_castTuple, q_uncons, q_isNil, q_sl, q_nils, q_emp, q_ptr, q_nilp, q_fn, q_cond_true, q_cond_false, Bool.not_true, Bool.not_false, decide_true, decide_false, castInt_bind, castBool_bind, castStr_bind, castPtr_bind, castFn_bind, castAgg_bind, castTuple_bind, uncons_bind, isNil_bind, one_bind, cond_bind, ite_bind_, List.cons_append, List.nil_append, hw]
        exact W.again (i + 1, σ2) ⟨by show i + 1 ≤ l.length; omega, by show Bld _ _ _ (joinTo l (i + 1)); rw [hnext]; exact B2, hK.trans K2⟩ (by simp only; omega) rfl rfl
      · have hop' : ¬ x' = (⟨#[40]⟩ : ByteArray) := hop
        try simp only [q_bind_some, Option.bind_assoc, castInt_int, q_castBool, q_castStr, q_castPtr, q_castFn, q_castAgg, q_castTuple, q_uncons, q_isNil, q_sl, q_nils, q_emp, q_ptr, q_nilp, q_fn, q_cond_true, q_cond_false, Bool.not_true, Bool.not_false, decide_true, decide_false, castInt_bind, castBool_bind, castStr_bind, castPtr_bind, castFn_bind, castAgg_bind, castTuple_bind, uncons_bind, isNil_bind, one_bind, cond_bind, ite_bind_, List.cons_append, List.nil_append, decide_eq_false hop']
        by_cases hsh : x = shut1
        · have hng : ¬ gap l i x := fun hg => hg.2.2 hsh
          rw [if_neg hng] at hnext
          have hsh' : x = (⟨#[41]⟩ : ByteArray) := hsh
          try simp only [q_bind_some, Option.bind_assoc, castInt_int, q_castBool, q_castStr, q_castPtr, q_castFn, q_castAgg, q_castTuple, q_uncons, q_isNil, q_sl, q_nils, q_emp, q_ptr, q_nilp, q_fn, q_cond_true, q_cond_false, Bool.not_true, Bool.not_false, decide_true, decide_false, castInt_bind, castBool_bind, castStr_bind, castPtr_bind, castFn_bind, castAgg_bind, castTuple_bind, uncons_bind, isNil_bind, one_bind, cond_bind, ite_bind_, List.cons_append, List.nil_append, decide_eq_true hsh']
          obtain ⟨σ2, c2, B2, K2⟩ := writeString_runs hlen hB x (by omega)
          refine W.run c2 ?_
          try simp only [q_bind_some, Option.bind_assoc, castInt_int, q_castBool, q_castStr, q_castPtr, q_castFn, q_castAgg, q_castTuple, q_uncons, q_isNil, q_sl, q_nils, q_emp, q_ptr, q_nilp, q_fn, q_cond_true, q_cond_false, Bool.not_true, Bool.not_false, decide_true, decide_false, castInt_bind, castBool_bind, castStr_bind, castPtr_bind, castFn_bind, castAgg_bind, castTuple_bind, uncons_bind, isNil_bind, one_bind, cond_bind, ite_bind_, List.cons_append, List.nil_append, hw]
          exact W.again (i + 1, σ2) ⟨by show i + 1 ≤ l.length; omega, by show Bld _ _ _ (joinTo l (i + 1)); rw [hnext]; exact B2, hK.trans K2⟩ (by simp only; omega) rfl rfl
        · have hg : gap l i x := ⟨hi0, by rw [hx']; exact fun hc => hop (Option.some.inj hc), hsh⟩
          rw [if_pos hg] at hnext
          have hsh' : ¬ x = (⟨#[41]⟩ : ByteArray) := hsh
          try simp only [q_bind_some, Option.bind_assoc, castInt_int, q_castBool, q_castStr, q_castPtr, q_castFn, q_castAgg, q_castTuple, q_uncons, q_isNil, q_sl, q_nils, q_emp, q_ptr, q_nilp, q_fn, q_cond_true, q_cond_false, Bool.not_true, Bool.not_false, decide_true, decide_false, castInt_bind, castBool_bind, castStr_bind, castPtr_bind, castFn_bind, castAgg_bind, castTuple_bind, uncons_bind, isNil_bind, one_bind, cond_bind, ite_bind_, List.cons_append, List.nil_append, decide_eq_false hsh']
          obtain ⟨σ2, c2, B2, K2⟩ := writeByte_runs hlen hB 32 (by omega)
          refine W.run c2 ?_
          have hl2 : σ.length + 1 ≤ σ2.length := Nat.le_trans hlen K2.1
          have hsz : (joinTo l i ++ blank1).size = (joinTo l i).size + 1 := ByteArray.size_append
          obtain ⟨σ3, c3, B3, K3⟩ := writeString_runs hl2 B2 x (by show (joinTo l i ++ blank1).size + _ ≤ _; omega)
          refine W.run c3 ?_
          try simp only [q_bind_some, Option.bind_assoc, castInt_int, q_castBool, q_castStr, q_castPtr, q_castFn, q_castAgg, q_castTuple, q_uncons, q_isNil, q_sl, q_nils, q_emp, q_ptr, q_nilp, q_fn, q_cond_true, q_cond_false, Bool.not_true, Bool.not_false, decide_true, decide_false, castInt_bind, castBool_bind, castStr_bind, castPtr_bind, castFn_bind, castAgg_bind, castTuple_bind, uncons_bind, isNil_bind, one_bind, cond_bind, ite_bind_, List.cons_append, List.nil_append, hw]
          exact W.again (i + 1, σ3) ⟨by show i + 1 ≤ l.length; omega, by show Bld _ _ _ (joinTo l (i + 1)); rw [hnext]; exact B3, hK.trans (K2.trans K3)⟩ (by simp only; omega) rfl rfl
    · have hng : ¬ gap l i x := fun hg => by have := hg.1; omega
      rw [if_neg hng] at hnext
      obtain ⟨σ2, c2, B2, K2⟩ := writeString_runs hlen hB x (by omega)
      refine W.run c2 ?_
      try simp only [q_bind_some, Option.bind_assoc, castInt_int, q_castBool, q_castStr, q_castPtr, q_castFn, q_castAgg, q_castTuple, q_uncons, q_isNil, q_sl, q_nils, q_emp, q_ptr, q_nilp, q_fn, q_cond_true, q_cond_false, Bool.not_true, Bool.not_false, decide_true, decide_false, castInt_bind, castBool_bind, castStr_bind, castPtr_bind, castFn_bind, castAgg_bind, castTuple_bind, uncons_bind, isNil_bind, one_bind, cond_bind, ite_bind_, List.cons_append, List.nil_append, hw]
      exact W.again (i + 1, σ2) ⟨by show i + 1 ≤ l.length; omega, by show Bld _ _ _ (joinTo l (i + 1)); rw [hnext]; exact B2, hK.trans K2⟩ (by simp only; omega) rfl rfl
  · have hil : i = l.length := by omega
    subst hil
    try simp only [q_bind_some, Option.bind_assoc, castInt_int, q_castBool, q_castStr, q_castPtr, q_castFn, q_castAgg, q_castTuple, q_uncons, q_isNil, q_sl, q_nils, q_emp, q_ptr, q_nilp, q_fn, q_cond_true, q_cond_false, Bool.not_true, Bool.not_false, decide_true, decide_false, castInt_bind, castBool_bind, castStr_bind, castPtr_bind, castFn_bind, castAgg_bind, castTuple_bind, uncons_bind, isNil_bind, one_bind, cond_bind, ite_bind_, List.cons_append, List.nil_append, impl_LexJoin.A0_x0]
    obtain ⟨σ2, c2, K2⟩ := builderText_runs hB (by rw [List.take_length] at hjs; omega)
    refine W.run c2 ?_
    try simp only [q_bind_some, Option.bind_assoc, castInt_int, q_castBool, q_castStr, q_castPtr, q_castFn, q_castAgg, q_castTuple, q_uncons, q_isNil, q_sl, q_nils, q_emp, q_ptr, q_nilp, q_fn, q_cond_true, q_cond_false, Bool.not_true, Bool.not_false, decide_true, decide_false, castInt_bind, castBool_bind, castStr_bind, castPtr_bind, castFn_bind, castAgg_bind, castTuple_bind, uncons_bind, isNil_bind, one_bind, cond_bind, ite_bind_, List.cons_append, List.nil_append]
    exact W.ret ⟨rfl, (hK.trans K2).lh hl1 (by omega) hno⟩
theorem specLexJoin_runs {σ : Heap} {v : V} {l : List ByteArray} (hf : l.length + totS ByteArray.size l ≤ 549755813888) (h : RepS 1 StrRep σ v l) : Runs G n_spec_LexJoin [v] σ (.str (joined l)) σ := by
  have e62 : (2 : Nat) ^ 62 = 4611686018427387904 := by decide
  refine Runs.of (W.to (fun k _ => spec_LexJoin.eq k _ _) ?_)
  refine W.loop (S := Nat) (fun i => i ≤ l.length) (fun i => [.v v, .v (.str (joinTo l i)), .v (.int .i64 (i : Int))]) (fun _ => σ) (fun i => l.length - i) (fun i hi => ?_) 0 (Nat.zero_le _)
  have hjs := joinTo_size l i
  have hts := totS_take_le ByteArray.size l i
  refine W.to (fun k _ => by rw [spec_LexJoin.L0_step]) ?_
  try simp only [q_bind_some, Option.bind_assoc, castInt_int, q_castBool, q_castStr, q_castPtr, q_castFn, q_castAgg, q_castTuple, q_uncons, q_isNil, q_sl, q_nils, q_emp, q_ptr, q_nilp, q_fn, q_cond_true, q_cond_false, Bool.not_true, Bool.not_false, decide_true, decide_false, castInt_bind, castBool_bind, castStr_bind, castPtr_bind, castFn_bind, castAgg_bind, castTuple_bind, uncons_bind, isNil_bind, one_bind, cond_bind, ite_bind_, List.cons_append, List.nil_append]
  refine W.len h ?_
  refine W.ite (fun hlt => ?_) fun hlt => ?_
  · have hi' : i < l.length := by omega
    obtain ⟨r, o, hv, cs, hr, hP⟩ := h.at' (List.getElem?_eq_getElem hi')
    have hx := List.getElem?_eq_getElem hi'
    generalize l[i] = x at hx hP
    unfold StrRep at hP
    subst hP
    have hxt := totS_take_succ ByteArray.size hx
    have htot := totS_take_le ByteArray.size l (i + 1)
    have hw := wrap_next (show i < l.length by omega) (by omega)
    have hnext := joinTo_next hx
    have hb1 : (joinTo l i ++ blank1).size = (joinTo l i).size + 1 := ByteArray.size_append
    have c1 : (joinTo l i).size + x.size ≤ 2 ^ 62 := by rw [e62]; omega
    have c2 : (joinTo l i).size + blank1.size ≤ 2 ^ 62 := by rw [e62]; show _ + 1 ≤ _; omega
    have c3 : (joinTo l i ++ blank1).size + x.size ≤ 2 ^ 62 := by rw [e62]; omega
    refine W.ite (fun h0 => ?_) fun h0 => ?_
    · have hi0 : 0 < i := by omega
      have hm1 : IntKind.wrap .i64 ((i : Int) - 1) = ((i - 1 : Nat) : Int) := by rw [wrap_id (by omega) (by omega)]; omega
      try simp only [q_bind_some, Option.bind_assoc, castInt_int, q_castBool, q_castStr, q_castPtr, q_castFn, q_castAgg, q_castTuple, q_uncons, q_isNil, q_sl, q_nils, q_emp, q_ptr, q_nilp, q_fn, q_cond_true, q_cond_false, Bool.not_true, Bool.not_false, decide_true, decide_false, castInt_bind, castBool_bind, castStr_bind, castPtr_bind, castFn_bind, castAgg_bind, castTuple_bind, uncons_bind, isNil_bind, one_bind, cond_bind, ite_bind_, List.cons_append, List.nil_append, hv, hr]
      by_cases hsh : x = shut1
      · have hng : ¬ gap l i x := fun hg => hg.2.2 hsh
        rw [if_neg hng] at hnext
        have hsh' : x = (⟨#[41]⟩ : ByteArray) := hsh
        try simp only [q_bind_some, Option.bind_assoc, castInt_int, q_castBool, q_castStr, q_castPtr, q_castFn, q_castAgg, q_castTuple, q_uncons, q_isNil, q_sl, q_nils, q_emp, q_ptr, q_nilp, q_fn, q_cond_true, q_cond_false, Bool.not_true, Bool.not_false, decide_true, decide_false, castInt_bind, castBool_bind, castStr_bind, castPtr_bind, castFn_bind, castAgg_bind, castTuple_bind, uncons_bind, isNil_bind, one_bind, cond_bind, ite_bind_, List.cons_append, List.nil_append, decide_eq_true hsh', if_pos c1, hw]
        exact W.again (i + 1) (show i + 1 ≤ l.length by omega) (by omega) (by rw [hnext]) rfl
      · have hsh' : ¬ x = (⟨#[41]⟩ : ByteArray) := hsh
        try simp only [q_bind_some, Option.bind_assoc, castInt_int, q_castBool, q_castStr, q_castPtr, q_castFn, q_castAgg, q_castTuple, q_uncons, q_isNil, q_sl, q_nils, q_emp, q_ptr, q_nilp, q_fn, q_cond_true, q_cond_false, Bool.not_true, Bool.not_false, decide_true, decide_false, castInt_bind, castBool_bind, castStr_bind, castPtr_bind, castFn_bind, castAgg_bind, castTuple_bind, uncons_bind, isNil_bind, one_bind, cond_bind, ite_bind_, List.cons_append, List.nil_append, decide_eq_false hsh', hm1]
        refine W.at h (Lh.refl _) (show i - 1 < l.length by omega) fun r' o' cs' x' hx' hr' hP' => ?_
        unfold StrRep at hP'
        subst hP'
        try simp only [q_bind_some, Option.bind_assoc, castInt_int, q_castBool, q_castStr, q_castPtr, q_castFn, q_castAgg, q_castTuple, q_uncons, q_isNil, q_sl, q_nils, q_emp, q_ptr, q_nilp, q_fn, q_cond_true, q_cond_false, Bool.not_true, Bool.not_false, decide_true, decide_false, castInt_bind, castBool_bind, castStr_bind, castPtr_bind, castFn_bind, castAgg_bind, castTuple_bind, uncons_bind, isNil_bind, one_bind, cond_bind, ite_bind_, List.cons_append, List.nil_append, hr']
        by_cases hop : x' = open1
        · have hng : ¬ gap l i x := fun hg => hg.2.1 (by rw [hx', hop])
          rw [if_neg hng] at hnext
          have hop' : x' = (⟨#[40]⟩ : ByteArray) := hop
          try simp only [q_bind_some, Option.bind_assoc, castInt_int, q_castBool, q_castStr, q_castPtr, q_castFn, q_castAgg, q_castTuple, q_uncons, q_isNil, q_sl, q_nils, q_emp, q_ptr, q_nilp, q_fn, q_cond_true, q_cond_false, Bool.not_true, Bool.not_false, decide_true, decide_false, castInt_bind, castBool_bind, castStr_bind, castPtr_bind, castFn_bind, castAgg_bind, castTuple_bind, uncons_bind, isNil_bind, one_bind, cond_bind, ite_bind_, List.cons_append, List.nil_append, decide_eq_true hop', if_pos c1, hw]
          exact W.again (i + 1) (show i + 1 ≤ l.length by omega) (by omega) (by rw [hnext]) rfl
        · have hg : gap l i x := ⟨hi0, by rw [hx']; exact fun hc => hop (Option.some.inj hc), hsh⟩
          rw [if_pos hg] at hnext
          have hop' : ¬ x' = (⟨#[40]⟩ : ByteArray) := hop
          have c2' : (joinTo l i).size + (⟨#[32]⟩ : ByteArray).size ≤ 2 ^ 62 := c2
          have c3' : (joinTo l i ++ (⟨#[32]⟩ : ByteArray)).size + x.size ≤ 2 ^ 62 := c3
          try simp only [q_bind_some, Option.bind_assoc, castInt_int, q_castBool, q_castStr, q_castPtr, q_castFn, q_castAgg, q_castTuple, q_uncons, q_isNil, q_sl, q_nils, q_emp, q_ptr, q_nilp, q_fn, q_cond_true, q_cond_false, Bool.not_true, Bool.not_false, decide_true, decide_false, castInt_bind, castBool_bind, castStr_bind, castPtr_bind, castFn_bind, castAgg_bind, castTuple_bind, uncons_bind, isNil_bind, one_bind, cond_bind, ite_bind_, List.cons_append, List.nil_append, decide_eq_false hop', if_pos c2', if_pos c3', hw]
          exact W.again (i + 1) (show i + 1 ≤ l.length by omega) (by omega) (by rw [hnext]; rfl) rfl
    · have hng : ¬ gap l i x := fun hg => by have := hg.1; omega
      rw [if_neg hng] at hnext
      try simp only [q_bind_some, Option.bind_assoc, castInt_int, q_castBool, q_castStr, q_castPtr, q_castFn, q_castAgg, q_castTuple, q_uncons, q_isNil, q_sl, q_nils, q_emp, q_ptr, q_nilp, q_fn, q_cond_true, q_cond_false, Bool.not_true, Bool.not_false, decide_true, decide_false, castInt_bind, castBool_bind, castStr_bind, castPtr_bind, castFn_bind, castAgg_bind, castTuple_bind, uncons_bind, isNil_bind, one_bind, cond_bind, ite_bind_, List.cons_append, List.nil_append, hv, hr, if_pos c1, hw]
      exact W.again (i + 1) (show i + 1 ≤ l.length by omega) (by omega) (by rw [hnext]) rfl
  · have hil : i = l.length := by omega
    subst hil
    try simp only [q_bind_some, Option.bind_assoc, castInt_int, q_castBool, q_castStr, q_castPtr, q_castFn, q_castAgg, q_castTuple, q_uncons, q_isNil, q_sl, q_nils, q_emp, q_ptr, q_nilp, q_fn, q_cond_true, q_cond_false, Bool.not_true, Bool.not_false, decide_true, decide_false, castInt_bind, castBool_bind, castStr_bind, castPtr_bind, castFn_bind, castAgg_bind, castTuple_bind, uncons_bind, isNil_bind, one_bind, cond_bind, ite_bind_, List.cons_append, List.nil_append, spec_LexJoin.A0_x0]
    exact W.ret ⟨rfl, rfl⟩
end Go.A
