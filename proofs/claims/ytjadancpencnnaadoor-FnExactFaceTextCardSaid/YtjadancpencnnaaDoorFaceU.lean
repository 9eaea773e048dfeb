/- FaceText of the reference . -/
import Derived.Test.YtjadancpencnnaaDoorFaceT
set_option linter.unusedVariables false
set_option linter.unusedSimpArgs false
namespace Go.D
open Go.HM Go.Proofs
def lineL (x : FaceSig) : List UInt8 := x.name.data.toList ++ [40] ++ tyL x.args ++ [41] ++ (tword x.type).data.toList ++ [10]
def faceL (l : List FaceSig) (i : Nat) : List UInt8 := ((l.take i).map lineL).flatten
theorem faceL_next {l : List FaceSig} {i : Nat} {x : FaceSig} (h : l[i]? = some x) : faceL l (i + 1) = faceL l i ++ lineL x := by
  unfold faceL
  rw [take_next' h, List.map_append, List.flatten_append]
  simp
theorem line_len {x : FaceSig} (h : SigIs x) : (lineL x).length ≤ 64 := by
  have h1 := tyL_len x.args x.args.length (Nat.le_refl _)
  rw [List.take_length] at h1
  have h2 := tword_size x.type
  have h3 := ba_list (tword x.type)
  have h4 := ba_list x.name
  have h5 := h.1.2.1
  have h6 := h.2.1.1
  unfold lineL
  simp only [List.length_append, List.length_cons, List.length_nil]
  omega
theorem faceL_len {l : List FaceSig} (h : SigTo l l.length) : ∀ i, i ≤ l.length → (faceL l i).length ≤ 64 * i
  | 0, _ => by simp [faceL]
  | i + 1, hi => by
    have hx : l[i]? = some (l[i]'(by omega)) := List.getElem?_eq_getElem (by omega)
    have ih := faceL_len h i (by omega)
    have hl := line_len (h i _ (by omega) hx)
    rw [faceL_next hx, List.length_append]
    omega
theorem prot2 (r : Nat) (σ : Heap) : prot [r, r] σ = prot [r] σ := by
  show toRo (toRo σ r) r = toRo σ r
  cases h : σ[r]? with
  | none =>
    have e : toRo σ r = σ := by unfold toRo; rw [h]
    rw [e, e]
  | some x =>
    cases x with
    | none =>
      have e : toRo σ r = σ := by unfold toRo; rw [h]
      rw [e, e]
    | some row =>
      have e : toRo σ r = σ.set r (some ⟨row.cells, row.esz, true, row.ty⟩) := by unfold toRo; rw [h]
      rw [e]
      unfold toRo
      rw [List.getElem?_set_self (get_lt h)]
      simp
theorem unprot2 (r : Nat) (σ τ : Heap) : unprot [r, r] σ τ = unprot [r] σ τ := by
  show back σ (back σ τ r) r = back σ τ r
  unfold back
  split <;> simp
theorem specFaceText_gives {σ : Heap} {v : V} {l : List FaceSig} (hF : ∀ x, x ∈ l → x.name.size ≤ 1099511627776) (h : RepS 3 (FaceSig.Rep σ) σ v l) : Gives G n_spec_FaceText [v] σ (.str (if FaceIs l then ba (faceL l l.length) else ⟨#[]⟩)) := by
  refine Gives.of (W.to (fun k _ => spec_FaceText.eq k _ _) ?_)
  refine W.give (specFaceOk_gives hF h) fun σ1 l1 => ?_
  by_cases hok : FaceIs l
  rotate_left
  · try simp only [q_bind_some, castInt_int, q_castBool, q_castStr, q_castPtr, q_castFn, q_castAgg, q_castTuple, q_uncons, q_isNil, q_sl, q_nils, q_emp, q_ptr, q_nilp, q_fn, q_cond_true, q_cond_false, Bool.not_true, Bool.not_false, decide_true, decide_false, List.cons_append, List.nil_append, decide_eq_false hok]
    exact W.ret ⟨by rw [if_neg hok], l1⟩
  try simp only [q_bind_some, castInt_int, q_castBool, q_castStr, q_castPtr, q_castFn, q_castAgg, q_castTuple, q_uncons, q_isNil, q_sl, q_nils, q_emp, q_ptr, q_nilp, q_fn, q_cond_true, q_cond_false, Bool.not_true, Bool.not_false, decide_true, decide_false, List.cons_append, List.nil_append, decide_eq_true hok]
  have hlen := faceL_len hok.2.1
  have h8 := hok.1
  rw [if_pos hok]
  have h0 : (⟨#[]⟩ : ByteArray) = ba (faceL l 0) := by simp [faceL, ba]
  rw [h0]
  have e62 : (2 : Nat) ^ 62 = 4611686018427387904 := by decide
  refine W.loop (S := Nat × Heap) (fun s => s.1 ≤ l.length ∧ Lh σ s.2) (fun s => [.v v, .v (.str (ba (faceL l s.1))), .v (.int .i64 (s.1 : Int))]) (fun s => s.2) (fun s => l.length - s.1)
    (fun ⟨i, σi⟩ ⟨hi, hl⟩ => ?_) (0, σ1) ⟨Nat.zero_le _, l1⟩
  simp only at hi hl ⊢
  refine W.to (fun k _ => by rw [spec_FaceText.L0_step]) ?_
  refine B.len h ?_
  refine B.ite (fun hlt => ?_) fun hlt => ?_
  rotate_left
  · obtain rfl : i = l.length := by omega
    try simp only [q_bind_some, castInt_int, q_castBool, q_castStr, q_castPtr, q_castFn, q_castAgg, q_castTuple, q_uncons, q_isNil, q_sl, q_nils, q_emp, q_ptr, q_nilp, q_fn, q_cond_true, q_cond_false, Bool.not_true, Bool.not_false, decide_true, decide_false, List.cons_append, List.nil_append, spec_FaceText.A0_x0]
    exact W.ret ⟨rfl, hl⟩
  have hil : i < l.length := by omega
  have hx : l[i]? = some l[i] := List.getElem?_eq_getElem hil
  generalize l[i] = x at hx
  have hnext := wrap_next hil (by omega)
  have hsx := hok.2.1 i x hil hx
  have hstep := faceL_next hx
  have hl1 := hlen i hi
  have hl2 := line_len hsx
  obtain ⟨r, o, hv, cs, hr, hP⟩ := h.at' hx
  have hr' := hl.rdc hr
  cases hP with
  | mk q0 =>
  rename_i a0
  have g0 : rdc σi r (o + 0) 1 = some [.str x.name] := rdc_sub hr' 0 1 (by omega)
  have g1 : rdc σi r (o + 1) 1 = some [a0] := rdc_sub hr' 1 1 (by omega)
  have g2 : rdc σi r (o + 2) 1 = some [.int .i64 x.type] := rdc_sub hr' 2 1 (by omega)
  have hb4 := ba_list x.name
  have hb3 := ba_list (tword x.type)
  unfold lineL at hl2 hstep
  simp only [List.length_append, List.length_cons, List.length_nil] at hl2
  have k1 : (⟨#[40]⟩ : ByteArray) = ba [40] := rfl
  have k2 : (⟨#[41]⟩ : ByteArray) = ba [41] := rfl
  have k3 : (⟨#[10]⟩ : ByteArray) = ba [10] := rfl
  have d1 : ∀ L : List UInt8, (ba L).data.toList = L := fun L => rfl
  have big : ∀ (L : List UInt8) (n : Nat), L.length ≤ 2048 → n ≤ 2048 → (ba L).size + n ≤ 2 ^ 62 := fun L n h1 h2 => by
    rw [ba_size, e62]
    omega
  have z1 := big (faceL l i) x.name.size (by omega) (by omega)
  have z2 := big (faceL l i ++ x.name.data.toList) (ba [40]).size (by simp only [List.length_append]; omega) (by rw [ba_size]; simp)
  have z3 := big (faceL l i ++ x.name.data.toList ++ [40]) (ba (tyL x.args)).size (by simp only [List.length_append, List.length_cons, List.length_nil]; omega) (by rw [ba_size]; omega)
  have z4 := big (faceL l i ++ x.name.data.toList ++ [40] ++ tyL x.args) (ba [41]).size (by simp only [List.length_append, List.length_cons, List.length_nil]; omega) (by rw [ba_size]; simp)
  have z5 := big (faceL l i ++ x.name.data.toList ++ [40] ++ tyL x.args ++ [41]) (tword x.type).size (by simp only [List.length_append, List.length_cons, List.length_nil]; omega) (by omega)
  have z6 := big (faceL l i ++ x.name.data.toList ++ [40] ++ tyL x.args ++ [41] ++ (tword x.type).data.toList) (ba [10]).size (by simp only [List.length_append, List.length_cons, List.length_nil]; omega) (by rw [ba_size]; simp)
  simp only [← List.append_assoc] at hstep
  try simp only [q_bind_some, castInt_int, q_castBool, q_castStr, q_castPtr, q_castFn, q_castAgg, q_castTuple, q_uncons, q_isNil, q_sl, q_nils, q_emp, q_ptr, q_nilp, q_fn, q_cond_true, q_cond_false, Bool.not_true, Bool.not_false, decide_true, decide_false, List.cons_append, List.nil_append, hv, g0, g1, g2, k1, k2, k3, ba_app, d1, prot2, unprot2, z1, z2]
  refine B.give (l3Types_gives (by have := hsx.2.1.1; omega) ((q0.le hl).prot1 r)) fun σ2 l2 => ?_
  try simp only [q_bind_some, castInt_int, q_castBool, q_castStr, q_castPtr, q_castFn, q_castAgg, q_castTuple, q_uncons, q_isNil, q_sl, q_nils, q_emp, q_ptr, q_nilp, q_fn, q_cond_true, q_cond_false, Bool.not_true, Bool.not_false, decide_true, decide_false, List.cons_append, List.nil_append, k1, k2, k3, ba_app, d1, prot2, unprot2, z3, z4]
  refine B.give (specTreeType_gives _ _) fun σ3 l3 => ?_
  try simp only [q_bind_some, castInt_int, q_castBool, q_castStr, q_castPtr, q_castFn, q_castAgg, q_castTuple, q_uncons, q_isNil, q_sl, q_nils, q_emp, q_ptr, q_nilp, q_fn, q_cond_true, q_cond_false, Bool.not_true, Bool.not_false, decide_true, decide_false, List.cons_append, List.nil_append, k1, k2, k3, ba_app, d1, prot2, unprot2, z5, z6, hnext]
  rw [← hstep]
  exact W.again (i + 1, _) ⟨by show i + 1 ≤ l.length; omega, (hl.trans l2.unprot1).trans l3.unprot1⟩ (by simp only; omega) rfl rfl
end Go.D
