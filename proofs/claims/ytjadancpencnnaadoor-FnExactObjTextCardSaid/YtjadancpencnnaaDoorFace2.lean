/- Faces that are right, by the reference; rows of types as texts. -/
import Derived.Test.YtjadancpencnnaaDoorFace
import Derived.Test.YtjadancpencnnaaDoorHMStd
set_option linter.unusedVariables false
set_option linter.unusedSimpArgs false
namespace Go.D
open Go.HM Go.Proofs
theorem tword_none (n : Int) : tword n = ⟨#[]⟩ ↔ ¬ IsT n := by
  unfold tword IsT
  constructor
  · intro h hc
    have : n = 1 ∨ n = 2 ∨ n = 3 := by omega
    rcases this with rfl | rfl | rfl <;> simp at h
  · intro h
    rw [if_neg (by omega), if_neg (by omega), if_neg (by omega)]
theorem tword_size (n : Int) : (tword n).size ≤ 4 := by
  unfold tword
  split
  · decide
  split
  · decide
  split
  · decide
  · decide
theorem l3Sig_gives {σ : Heap} {x : FaceSig} {a : V} (hs : x.name.size ≤ 1099511627776) (q : RepS 1 IntRep σ a x.args) : Gives G n_spec_l3Sig [.agg [.str x.name, a, .int .i64 x.type]] σ (.bool (decide (SigIs x))) := by
  refine Gives.of (W.to (fun k _ => spec_l3Sig.eq k _ _ _ _) ?_)
  refine W.give (specLexName_gives σ x.name (by omega)) fun σ1 l1 => ?_
  by_cases hn : IsName x.name
  rotate_left
  · try simp only [q_bind_some, castInt_int, q_castBool, q_castStr, q_castPtr, q_castFn, q_castAgg, q_castTuple, q_uncons, q_isNil, q_sl, q_nils, q_emp, q_ptr, q_nilp, q_fn, q_cond_true, q_cond_false, Bool.not_true, Bool.not_false, decide_true, decide_false, List.cons_append, List.nil_append, decide_eq_false hn]
    exact W.ret ⟨by rw [decide_eq_false (fun hc : SigIs x => hn hc.1)], l1⟩
  try simp only [q_bind_some, castInt_int, q_castBool, q_castStr, q_castPtr, q_castFn, q_castAgg, q_castTuple, q_uncons, q_isNil, q_sl, q_nils, q_emp, q_ptr, q_nilp, q_fn, q_cond_true, q_cond_false, Bool.not_true, Bool.not_false, decide_true, decide_false, List.cons_append, List.nil_append, decide_eq_true hn]
  refine W.len q ?_
  by_cases h4 : (4 : Int) < (x.args.length : Int)
  · try simp only [q_bind_some, castInt_int, q_castBool, q_castStr, q_castPtr, q_castFn, q_castAgg, q_castTuple, q_uncons, q_isNil, q_sl, q_nils, q_emp, q_ptr, q_nilp, q_fn, q_cond_true, q_cond_false, Bool.not_true, Bool.not_false, decide_true, decide_false, List.cons_append, List.nil_append, h4]
    exact W.ret ⟨by rw [decide_eq_false (fun hc : SigIs x => by have := hc.2.1.1; omega)], l1⟩
  try simp only [q_bind_some, castInt_int, q_castBool, q_castStr, q_castPtr, q_castFn, q_castAgg, q_castTuple, q_uncons, q_isNil, q_sl, q_nils, q_emp, q_ptr, q_nilp, q_fn, q_cond_true, q_cond_false, Bool.not_true, Bool.not_false, decide_true, decide_false, List.cons_append, List.nil_append, h4]
  refine W.give (specTreeType_gives _ σ1) fun σ2 l2 => ?_
  by_cases h3 : IsT x.type
  rotate_left
  · try simp only [q_bind_some, castInt_int, q_castBool, q_castStr, q_castPtr, q_castFn, q_castAgg, q_castTuple, q_uncons, q_isNil, q_sl, q_nils, q_emp, q_ptr, q_nilp, q_fn, q_cond_true, q_cond_false, Bool.not_true, Bool.not_false, decide_true, decide_false, List.cons_append, List.nil_append, decide_eq_true ((tword_none x.type).2 h3)]
    exact W.ret ⟨by rw [decide_eq_false (fun hc : SigIs x => h3 hc.2.2)], l1.trans l2⟩
  try simp only [q_bind_some, castInt_int, q_castBool, q_castStr, q_castPtr, q_castFn, q_castAgg, q_castTuple, q_uncons, q_isNil, q_sl, q_nils, q_emp, q_ptr, q_nilp, q_fn, q_cond_true, q_cond_false, Bool.not_true, Bool.not_false, decide_true, decide_false, List.cons_append, List.nil_append, decide_eq_false (fun hc => (tword_none x.type).1 hc h3)]
  refine W.loop (S := Nat × Heap) (fun s => s.1 ≤ x.args.length ∧ (∀ (j : Nat) t, j < s.1 → x.args[j]? = some t → IsT t) ∧ Lh σ s.2) (fun s => [.box [.str x.name, a, .int .i64 x.type], .v (.int .i64 (s.1 : Int))]) (fun s => s.2) (fun s => x.args.length - s.1)
    (fun ⟨i, σi⟩ ⟨hi, h1, hl⟩ => ?_) (0, σ2) ⟨Nat.zero_le _, fun j x hj => absurd hj (by omega), l1.trans l2⟩
  simp only at hi h1 hl ⊢
  refine W.to (fun k _ => by rw [spec_l3Sig.L0_step]) ?_
  refine B.len q ?_
  refine B.ite (fun hlt => ?_) fun hlt => ?_
  rotate_left
  · obtain rfl : i = x.args.length := by omega
    try simp only [q_bind_some, castInt_int, q_castBool, q_castStr, q_castPtr, q_castFn, q_castAgg, q_castTuple, q_uncons, q_isNil, q_sl, q_nils, q_emp, q_ptr, q_nilp, q_fn, q_cond_true, q_cond_false, Bool.not_true, Bool.not_false, decide_true, decide_false, List.cons_append, List.nil_append, spec_l3Sig.A0_x0]
    refine W.ret ⟨?_, hl⟩
    rw [decide_eq_true (show SigIs x from ⟨hn, ⟨by omega, fun t ht => ?_⟩, h3⟩)]
    obtain ⟨j, hj⟩ := List.getElem?_of_mem ht
    exact h1 j t (List.getElem?_eq_some_iff.1 hj).1 hj
  have hil : i < x.args.length := by omega
  have ht : x.args[i]? = some x.args[i] := List.getElem?_eq_getElem hil
  generalize x.args[i] = t at ht
  have hnext := wrap_next hil (by omega)
  obtain ⟨r, o, hv, cs, hr, hP⟩ := q.at' ht
  have hr' := hl.rdc hr
  unfold IntRep at hP
  subst hP
  try simp only [q_bind_some, castInt_int, q_castBool, q_castStr, q_castPtr, q_castFn, q_castAgg, q_castTuple, q_uncons, q_isNil, q_sl, q_nils, q_emp, q_ptr, q_nilp, q_fn, q_cond_true, q_cond_false, Bool.not_true, Bool.not_false, decide_true, decide_false, List.cons_append, List.nil_append, hv, hr']
  refine B.give (specTreeType_gives _ σi) fun σ3 l3 => ?_
  by_cases h5 : IsT t
  rotate_left
  · try simp only [q_bind_some, castInt_int, q_castBool, q_castStr, q_castPtr, q_castFn, q_castAgg, q_castTuple, q_uncons, q_isNil, q_sl, q_nils, q_emp, q_ptr, q_nilp, q_fn, q_cond_true, q_cond_false, Bool.not_true, Bool.not_false, decide_true, decide_false, List.cons_append, List.nil_append, decide_eq_true ((tword_none t).2 h5), spec_l3Sig.A0_ret]
    exact W.ret ⟨by rw [decide_eq_false (fun hc : SigIs x => h5 (hc.2.1.2 t (List.mem_of_getElem? ht)))], hl.trans l3⟩
  try simp only [q_bind_some, castInt_int, q_castBool, q_castStr, q_castPtr, q_castFn, q_castAgg, q_castTuple, q_uncons, q_isNil, q_sl, q_nils, q_emp, q_ptr, q_nilp, q_fn, q_cond_true, q_cond_false, Bool.not_true, Bool.not_false, decide_true, decide_false, List.cons_append, List.nil_append, decide_eq_false (fun hc => (tword_none t).1 hc h5), hnext]
  exact W.again (i + 1, σ3) ⟨by show i + 1 ≤ x.args.length; omega, fun j y hj hy => by
    rcases Nat.lt_or_ge j i with hlt | hge
    · exact h1 j y hlt hy
    · obtain rfl : j = i := by omega
      rw [ht] at hy
      injection hy with hy
      subst hy
      exact h5, hl.trans l3⟩ (by simp only; omega) rfl rfl
theorem specFaceOk_gives {σ : Heap} {v : V} {l : List FaceSig} (hF : ∀ x, x ∈ l → x.name.size ≤ 1099511627776) (h : RepS 3 (FaceSig.Rep σ) σ v l) : Gives G n_spec_FaceOk [v] σ (.bool (decide (FaceIs l))) := by
  refine Gives.of (W.to (fun k _ => spec_FaceOk.eq k _ _) ?_)
  refine W.len h ?_
  by_cases h8 : (8 : Int) < (l.length : Int)
  · try simp only [q_bind_some, castInt_int, q_castBool, q_castStr, q_castPtr, q_castFn, q_castAgg, q_castTuple, q_uncons, q_isNil, q_sl, q_nils, q_emp, q_ptr, q_nilp, q_fn, q_cond_true, q_cond_false, Bool.not_true, Bool.not_false, decide_true, decide_false, List.cons_append, List.nil_append, h8]
    exact W.ret ⟨by rw [decide_eq_false (fun hc : FaceIs l => by have := hc.1; omega)], Lh.refl _⟩
  try simp only [q_bind_some, castInt_int, q_castBool, q_castStr, q_castPtr, q_castFn, q_castAgg, q_castTuple, q_uncons, q_isNil, q_sl, q_nils, q_emp, q_ptr, q_nilp, q_fn, q_cond_true, q_cond_false, Bool.not_true, Bool.not_false, decide_true, decide_false, List.cons_append, List.nil_append, h8]
  refine W.loop (S := Nat × Heap) (fun s => s.1 ≤ l.length ∧ SigTo l s.1 ∧ RisTo l s.1 ∧ Lh σ s.2) (fun s => [.v v, .v (.int .i64 (s.1 : Int))]) (fun s => s.2) (fun s => l.length - s.1)
    (fun ⟨i, σi⟩ ⟨hi, h1, h2, hl⟩ => ?_) (0, σ) ⟨Nat.zero_le _, fun j x hj => absurd hj (by omega), fun j x y hj => absurd hj (by omega), Lh.refl _⟩
  simp only at hi h1 h2 hl ⊢
  refine W.to (fun k _ => by rw [spec_FaceOk.L0_step]) ?_
  refine B.len h ?_
  refine B.ite (fun hlt => ?_) fun hlt => ?_
  rotate_left
  · obtain rfl : i = l.length := by omega
    try simp only [q_bind_some, castInt_int, q_castBool, q_castStr, q_castPtr, q_castFn, q_castAgg, q_castTuple, q_uncons, q_isNil, q_sl, q_nils, q_emp, q_ptr, q_nilp, q_fn, q_cond_true, q_cond_false, Bool.not_true, Bool.not_false, decide_true, decide_false, List.cons_append, List.nil_append, spec_FaceOk.A0_x0]
    exact W.ret ⟨by rw [decide_eq_true (show FaceIs l from ⟨by omega, h1, h2⟩)], hl⟩
  have hil : i < l.length := by omega
  have hx : l[i]? = some l[i] := List.getElem?_eq_getElem hil
  have hxm : l[i] ∈ l := List.getElem_mem hil
  generalize l[i] = x at hx hxm
  have hnext := wrap_next hil (by omega)
  obtain ⟨r, o, hv, cs, hr, hP⟩ := h.at' hx
  have hr' := hl.rdc hr
  cases hP with
  | mk q0 =>
  rename_i a0
  try simp only [q_bind_some, castInt_int, q_castBool, q_castStr, q_castPtr, q_castFn, q_castAgg, q_castTuple, q_uncons, q_isNil, q_sl, q_nils, q_emp, q_ptr, q_nilp, q_fn, q_cond_true, q_cond_false, Bool.not_true, Bool.not_false, decide_true, decide_false, List.cons_append, List.nil_append, hv, hr']
  refine B.give (l3Sig_gives (hF x hxm) (q0.le hl)) fun σ1 l1 => ?_
  have hl1 := hl.trans l1
  by_cases hs : SigIs x
  rotate_left
  · try simp only [q_bind_some, castInt_int, q_castBool, q_castStr, q_castPtr, q_castFn, q_castAgg, q_castTuple, q_uncons, q_isNil, q_sl, q_nils, q_emp, q_ptr, q_nilp, q_fn, q_cond_true, q_cond_false, Bool.not_true, Bool.not_false, decide_true, decide_false, List.cons_append, List.nil_append, decide_eq_false hs, spec_FaceOk.A0_ret]
    exact W.ret ⟨by rw [not_face1 hx hs], hl1⟩
  try simp only [q_bind_some, castInt_int, q_castBool, q_castStr, q_castPtr, q_castFn, q_castAgg, q_castTuple, q_uncons, q_isNil, q_sl, q_nils, q_emp, q_ptr, q_nilp, q_fn, q_cond_true, q_cond_false, Bool.not_true, Bool.not_false, decide_true, decide_false, List.cons_append, List.nil_append, decide_eq_true hs]
  by_cases hi0 : 0 < i
  · obtain ⟨j, rfl⟩ : ∃ j, i = j + 1 := ⟨i - 1, by omega⟩
    have hy : l[j]? = some (l[j]'(by omega)) := List.getElem?_eq_getElem (by omega)
    generalize (l[j]'(by omega)) = y at hy
    obtain ⟨r2, o2, hv2, cs2, hr2, hP2⟩ := h.at' hy
    have hr2' := hl1.rdc hr2
    have wj : IntKind.wrap .i64 (((j + 1 : Nat) : Int) - 1) = (j : Int) := by rw [wrap_id (by omega) (by omega)]; omega
    have hp : (0 : Int) < ((j + 1 : Nat) : Int) := by omega
    cases hP2 with
    | mk u0 =>
    have g0 : rdc σ1 r2 (o2 + 0) 1 = some [.str y.name] := rdc_sub hr2' 0 1 (by omega)
    have g1 : rdc σ1 r (o + 0) 1 = some [.str x.name] := rdc_sub (hl1.rdc hr) 0 1 (by omega)
    try simp only [q_bind_some, castInt_int, q_castBool, q_castStr, q_castPtr, q_castFn, q_castAgg, q_castTuple, q_uncons, q_isNil, q_sl, q_nils, q_emp, q_ptr, q_nilp, q_fn, q_cond_true, q_cond_false, Bool.not_true, Bool.not_false, decide_true, decide_false, List.cons_append, List.nil_append, hp, hv, g1, wj, hv2, g0]
    by_cases hless : Op.bytesLess y.name.toList x.name.toList = true
    rotate_left
    · have hless' : Op.bytesLess y.name.toList x.name.toList = false := by simpa using hless
      try simp only [q_bind_some, castInt_int, q_castBool, q_castStr, q_castPtr, q_castFn, q_castAgg, q_castTuple, q_uncons, q_isNil, q_sl, q_nils, q_emp, q_ptr, q_nilp, q_fn, q_cond_true, q_cond_false, Bool.not_true, Bool.not_false, decide_true, decide_false, List.cons_append, List.nil_append, hless', spec_FaceOk.A0_ret]
      exact W.ret ⟨by rw [not_face2 hy hx hless], hl1⟩
    try simp only [q_bind_some, castInt_int, q_castBool, q_castStr, q_castPtr, q_castFn, q_castAgg, q_castTuple, q_uncons, q_isNil, q_sl, q_nils, q_emp, q_ptr, q_nilp, q_fn, q_cond_true, q_cond_false, Bool.not_true, Bool.not_false, decide_true, decide_false, List.cons_append, List.nil_append, hless, hnext]
    exact W.again (j + 1 + 1, σ1) ⟨by show j + 1 + 1 ≤ l.length; omega, h1.next hx hs, h2.next hx (fun j' x' hj' hx' => by
      obtain rfl : j' = j := by omega
      rw [hy] at hx'
      injection hx' with hx'
      subst hx'
      exact hless), hl1⟩ (by simp only; omega) rfl rfl
  · obtain rfl : i = 0 := by omega
    try simp only [q_bind_some, castInt_int, q_castBool, q_castStr, q_castPtr, q_castFn, q_castAgg, q_castTuple, q_uncons, q_isNil, q_sl, q_nils, q_emp, q_ptr, q_nilp, q_fn, q_cond_true, q_cond_false, Bool.not_true, Bool.not_false, decide_true, decide_false, List.cons_append, List.nil_append, hnext]
    exact W.again (0 + 1, σ1) ⟨by show 0 + 1 ≤ l.length; omega, h1.next hx hs, h2.next hx (fun j' x' hj' hx' => by omega), hl1⟩ (by simp only; omega) rfl rfl
end Go.D
