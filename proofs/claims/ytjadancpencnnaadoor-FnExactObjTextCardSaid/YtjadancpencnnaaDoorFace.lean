/- Faces that are right: FaceOk of both. -/
import Derived.Test.YtjadancpencnnaaDoorAre
import Derived.Test.YtjadancpencnnaaDoorT
set_option linter.unusedVariables false
set_option linter.unusedSimpArgs false
namespace Go.D
open Go.HM Go.Proofs
def SigIs (x : FaceSig) : Prop := IsName x.name ∧ Typs x.args ∧ IsT x.type
noncomputable instance (x : FaceSig) : Decidable (SigIs x) := Classical.propDecidable _
def Less (x y : FaceSig) : Prop := Op.bytesLess x.name.toList y.name.toList = true
def SigTo (l : List FaceSig) (i : Nat) : Prop := ∀ (j : Nat) x, j < i → l[j]? = some x → SigIs x
def RisTo (l : List FaceSig) (i : Nat) : Prop := ∀ (j : Nat) x y, j + 1 < i → l[j]? = some x → l[j + 1]? = some y → Less x y
def FaceIs (l : List FaceSig) : Prop := l.length ≤ 8 ∧ SigTo l l.length ∧ RisTo l l.length
noncomputable instance (l : List FaceSig) : Decidable (FaceIs l) := Classical.propDecidable _
theorem SigTo.next {l : List FaceSig} {i : Nat} {x : FaceSig} (h : SigTo l i) (hx : l[i]? = some x) (hs : SigIs x) : SigTo l (i + 1) := fun j y hj hy => by
  rcases Nat.lt_or_ge j i with hlt | hge
  · exact h j y hlt hy
  · obtain rfl : j = i := by omega
    rw [hx] at hy
    injection hy with hy
    subst hy
    exact hs
theorem RisTo.next {l : List FaceSig} {i : Nat} {y : FaceSig} (h : RisTo l i) (hy : l[i]? = some y) (hs : ∀ j x, i = j + 1 → l[j]? = some x → Less x y) : RisTo l (i + 1) := fun j x z hj hx hz => by
  rcases Nat.lt_or_ge (j + 1) i with hlt | hge
  · exact h j x z hlt hx hz
  · obtain rfl : i = j + 1 := by omega
    rw [hy] at hz
    injection hz with hz
    subst hz
    exact hs j x rfl hx
theorem not_face1 {l : List FaceSig} {i : Nat} {x : FaceSig} (hx : l[i]? = some x) (hs : ¬ SigIs x) : decide (FaceIs l) = false := decide_eq_false fun h => hs (h.2.1 i x (List.getElem?_eq_some_iff.1 hx).1 hx)
theorem not_face2 {l : List FaceSig} {i : Nat} {x y : FaceSig} (hx : l[i]? = some x) (hy : l[i + 1]? = some y) (hs : ¬ Less x y) : decide (FaceIs l) = false := decide_eq_false fun h => hs (h.2.2 i x y (List.getElem?_eq_some_iff.1 hy).1 hx hy)
theorem implFaceOk_gives {σ : Heap} {v : V} {l : List FaceSig} (hf : l.length ≤ 1073741824) (hF : ∀ x, x ∈ l → x.name.size ≤ 1099511627776) (h : RepS 3 (FaceSig.Rep σ) σ v l) : Gives G n_impl_FaceOk [v] σ (.bool (decide (FaceIs l))) := by
  refine Gives.of (W.to (fun k _ => impl_FaceOk.eq k _ _) ?_)
  refine W.len h ?_
  refine W.loop (S := Nat × Heap) (fun s => s.1 ≤ l.length ∧ SigTo l s.1 ∧ RisTo l s.1 ∧ Lh σ s.2) (fun s => [.v v, .v v, .v (.int .i64 (l.length : Int)), .v (.int .i64 (s.1 : Int))]) (fun s => s.2) (fun s => l.length - s.1)
    (fun ⟨i, σi⟩ ⟨hi, h1, h2, hl⟩ => ?_) (0, σ) ⟨Nat.zero_le _, fun j x hj => absurd hj (by omega), fun j x y hj => absurd hj (by omega), Lh.refl _⟩
  simp only at hi h1 h2 hl ⊢
  refine W.to (fun k _ => by rw [impl_FaceOk.L0_step]) ?_
  refine B.ite (fun hlt => ?_) fun hlt => ?_
  rotate_left
  · obtain rfl : i = l.length := by omega
    try simp only [q_bind_some, castInt_int, q_castBool, q_castStr, q_castPtr, q_castFn, q_castAgg, q_castTuple, q_uncons, q_isNil, q_sl, q_nils, q_emp, q_ptr, q_nilp, q_fn, q_cond_true, q_cond_false, Bool.not_true, Bool.not_false, decide_true, decide_false, List.cons_append, List.nil_append, impl_FaceOk.A0_x0]
    refine W.len h ?_
    refine W.ret ⟨?_, hl⟩
    by_cases h8 : l.length ≤ 8
    · rw [decide_eq_true (show FaceIs l from ⟨h8, h1, h2⟩), decide_eq_true (by omega)]
    · rw [decide_eq_false (fun hc : FaceIs l => h8 hc.1), decide_eq_false (by omega)]
  have hil : i < l.length := by omega
  have hx : l[i]? = some l[i] := List.getElem?_eq_getElem hil
  have hxm : l[i] ∈ l := List.getElem_mem hil
  generalize l[i] = x at hx hxm
  have hnext := wrap_next hil (by omega)
  obtain ⟨r, o, hv, cs, hr, hP⟩ := h.at' hx
  have hr' := hl.rdc hr
  cases hP with
  | mk q0 =>
  rename_i a0
  try simp only [q_bind_some, castInt_int, q_castBool, q_castStr, q_castPtr, q_castFn, q_castAgg, q_castTuple, q_uncons, q_isNil, q_sl, q_nils, q_emp, q_ptr, q_nilp, q_fn, q_cond_true, q_cond_false, Bool.not_true, Bool.not_false, decide_true, decide_false, List.cons_append, List.nil_append, hv, hr']
  refine B.give (implLexName_gives σi x.name (by have := hF x hxm; omega)) fun σ1 l1 => ?_
  by_cases hn : IsName x.name
  rotate_left
  · try simp only [q_bind_some, castInt_int, q_castBool, q_castStr, q_castPtr, q_castFn, q_castAgg, q_castTuple, q_uncons, q_isNil, q_sl, q_nils, q_emp, q_ptr, q_nilp, q_fn, q_cond_true, q_cond_false, Bool.not_true, Bool.not_false, decide_true, decide_false, List.cons_append, List.nil_append, decide_eq_false hn, impl_FaceOk.A0_ret]
    exact W.ret ⟨by rw [not_face1 hx fun hc => hn hc.1], hl.trans l1⟩
  try simp only [q_bind_some, castInt_int, q_castBool, q_castStr, q_castPtr, q_castFn, q_castAgg, q_castTuple, q_uncons, q_isNil, q_sl, q_nils, q_emp, q_ptr, q_nilp, q_fn, q_cond_true, q_cond_false, Bool.not_true, Bool.not_false, decide_true, decide_false, List.cons_append, List.nil_append, decide_eq_true hn]
  have hl1 := hl.trans l1
  have q0' := q0.le hl1
  by_cases hi0 : 0 < i
  · obtain ⟨j, rfl⟩ : ∃ j, i = j + 1 := ⟨i - 1, by omega⟩
    have hy : l[j]? = some (l[j]'(by omega)) := List.getElem?_eq_getElem (by omega)
    generalize (l[j]'(by omega)) = y at hy
    obtain ⟨r2, o2, hv2, cs2, hr2, hP2⟩ := h.at' hy
    have hr2' := hl1.rdc hr2
    have wj : IntKind.wrap .i64 (((j + 1 : Nat) : Int) - 1) = (j : Int) := by rw [wrap_id (by omega) (by omega)]; omega
    have hp : (0 : Int) < ((j + 1 : Nat) : Int) := by omega
    cases hP2 with
    | mk u0 =>
    have g0 : rdc σ1 r2 (o2 + 0) 1 = some [.str y.name] := rdc_sub hr2' 0 1 (by omega)
    try simp only [q_bind_some, castInt_int, q_castBool, q_castStr, q_castPtr, q_castFn, q_castAgg, q_castTuple, q_uncons, q_isNil, q_sl, q_nils, q_emp, q_ptr, q_nilp, q_fn, q_cond_true, q_cond_false, Bool.not_true, Bool.not_false, decide_true, decide_false, List.cons_append, List.nil_append, hp, wj, hv2, g0]
    by_cases hless : Op.bytesLess y.name.toList x.name.toList = true
    rotate_left
    · have hless' : Op.bytesLess y.name.toList x.name.toList = false := by simpa using hless
      try simp only [q_bind_some, castInt_int, q_castBool, q_castStr, q_castPtr, q_castFn, q_castAgg, q_castTuple, q_uncons, q_isNil, q_sl, q_nils, q_emp, q_ptr, q_nilp, q_fn, q_cond_true, q_cond_false, Bool.not_true, Bool.not_false, decide_true, decide_false, List.cons_append, List.nil_append, hless', impl_FaceOk.A0_ret]
      exact W.ret ⟨by rw [not_face2 hy hx hless], hl1⟩
    try simp only [q_bind_some, castInt_int, q_castBool, q_castStr, q_castPtr, q_castFn, q_castAgg, q_castTuple, q_uncons, q_isNil, q_sl, q_nils, q_emp, q_ptr, q_nilp, q_fn, q_cond_true, q_cond_false, Bool.not_true, Bool.not_false, decide_true, decide_false, List.cons_append, List.nil_append, hless]
    refine B.give (areTypes_gives (q0'.prot1 r2)) fun σ2 l2 => ?_
    have l2' := hl1.trans l2.unprot1
    by_cases ht : Typs x.args
    rotate_left
    · try simp only [q_bind_some, castInt_int, q_castBool, q_castStr, q_castPtr, q_castFn, q_castAgg, q_castTuple, q_uncons, q_isNil, q_sl, q_nils, q_emp, q_ptr, q_nilp, q_fn, q_cond_true, q_cond_false, Bool.not_true, Bool.not_false, decide_true, decide_false, List.cons_append, List.nil_append, decide_eq_false ht, impl_FaceOk.A0_ret]
      exact W.ret ⟨by rw [not_face1 hx fun hc => ht hc.2.1], l2'⟩
    try simp only [q_bind_some, castInt_int, q_castBool, q_castStr, q_castPtr, q_castFn, q_castAgg, q_castTuple, q_uncons, q_isNil, q_sl, q_nils, q_emp, q_ptr, q_nilp, q_fn, q_cond_true, q_cond_false, Bool.not_true, Bool.not_false, decide_true, decide_false, List.cons_append, List.nil_append, decide_eq_true ht]
    refine B.run (isT_runs _) ?_
    by_cases h3 : IsT x.type
    rotate_left
    · try simp only [q_bind_some, castInt_int, q_castBool, q_castStr, q_castPtr, q_castFn, q_castAgg, q_castTuple, q_uncons, q_isNil, q_sl, q_nils, q_emp, q_ptr, q_nilp, q_fn, q_cond_true, q_cond_false, Bool.not_true, Bool.not_false, decide_true, decide_false, List.cons_append, List.nil_append, decide_eq_false h3, impl_FaceOk.A0_ret, unprot_prot]
      exact W.ret ⟨by rw [not_face1 hx fun hc => h3 hc.2.2], l2'⟩
    try simp only [q_bind_some, castInt_int, q_castBool, q_castStr, q_castPtr, q_castFn, q_castAgg, q_castTuple, q_uncons, q_isNil, q_sl, q_nils, q_emp, q_ptr, q_nilp, q_fn, q_cond_true, q_cond_false, Bool.not_true, Bool.not_false, decide_true, decide_false, List.cons_append, List.nil_append, decide_eq_true h3, unprot_prot, hnext]
    exact W.again (j + 1 + 1, _) ⟨by show j + 1 + 1 ≤ l.length; omega, h1.next hx ⟨hn, ht, h3⟩, h2.next hx (fun j' x' hj' hx' => by
      obtain rfl : j' = j := by omega
      rw [hy] at hx'
      injection hx' with hx'
      subst hx'
      exact hless), l2'⟩ (by simp only; omega) rfl rfl
  · obtain rfl : i = 0 := by omega
    try simp only [q_bind_some, castInt_int, q_castBool, q_castStr, q_castPtr, q_castFn, q_castAgg, q_castTuple, q_uncons, q_isNil, q_sl, q_nils, q_emp, q_ptr, q_nilp, q_fn, q_cond_true, q_cond_false, Bool.not_true, Bool.not_false, decide_true, decide_false, List.cons_append, List.nil_append]
    refine B.give (areTypes_gives q0') fun σ2 l2 => ?_
    by_cases ht : Typs x.args
    rotate_left
    · try simp only [q_bind_some, castInt_int, q_castBool, q_castStr, q_castPtr, q_castFn, q_castAgg, q_castTuple, q_uncons, q_isNil, q_sl, q_nils, q_emp, q_ptr, q_nilp, q_fn, q_cond_true, q_cond_false, Bool.not_true, Bool.not_false, decide_true, decide_false, List.cons_append, List.nil_append, decide_eq_false ht, impl_FaceOk.A0_ret]
      exact W.ret ⟨by rw [not_face1 hx fun hc => ht hc.2.1], hl1.trans l2⟩
    try simp only [q_bind_some, castInt_int, q_castBool, q_castStr, q_castPtr, q_castFn, q_castAgg, q_castTuple, q_uncons, q_isNil, q_sl, q_nils, q_emp, q_ptr, q_nilp, q_fn, q_cond_true, q_cond_false, Bool.not_true, Bool.not_false, decide_true, decide_false, List.cons_append, List.nil_append, decide_eq_true ht]
    refine B.run (isT_runs _) ?_
    by_cases h3 : IsT x.type
    rotate_left
    · try simp only [q_bind_some, castInt_int, q_castBool, q_castStr, q_castPtr, q_castFn, q_castAgg, q_castTuple, q_uncons, q_isNil, q_sl, q_nils, q_emp, q_ptr, q_nilp, q_fn, q_cond_true, q_cond_false, Bool.not_true, Bool.not_false, decide_true, decide_false, List.cons_append, List.nil_append, decide_eq_false h3, impl_FaceOk.A0_ret]
      exact W.ret ⟨by rw [not_face1 hx fun hc => h3 hc.2.2], hl1.trans l2⟩
    try simp only [q_bind_some, castInt_int, q_castBool, q_castStr, q_castPtr, q_castFn, q_castAgg, q_castTuple, q_uncons, q_isNil, q_sl, q_nils, q_emp, q_ptr, q_nilp, q_fn, q_cond_true, q_cond_false, Bool.not_true, Bool.not_false, decide_true, decide_false, List.cons_append, List.nil_append, decide_eq_true h3, hnext]
    exact W.again (0 + 1, σ2) ⟨by show 0 + 1 ≤ l.length; omega, h1.next hx ⟨hn, ht, h3⟩, h2.next hx (fun j' x' hj' hx' => by omega), hl1.trans l2⟩ (by simp only; omega) rfl rfl
end Go.D
