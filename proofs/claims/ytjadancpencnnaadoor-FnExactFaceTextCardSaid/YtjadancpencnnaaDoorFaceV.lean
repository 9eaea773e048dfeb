/- FaceText of the program. -/
import Derived.Test.YtjadancpencnnaaDoorFaceU
set_option linter.unusedVariables false
set_option linter.unusedSimpArgs false
namespace Go.D
open Go.HM Go.Proofs
theorem implFaceText_gives {σ : Heap} (ht : TypeW σ) {v : V} {l : List FaceSig} (hf : l.length ≤ 1073741824) (hF : ∀ x, x ∈ l → x.name.size ≤ 1099511627776) (h : RepS 3 (FaceSig.Rep σ) σ v l) : Gives G n_impl_FaceText [v] σ (.str (if FaceIs l then ba (faceL l l.length) else ⟨#[]⟩)) := by
  refine Gives.of (W.to (fun k _ => impl_FaceText.eq k _ _) ?_)
  refine W.give (implFaceOk_gives hf hF h) fun σ1 l1 => ?_
  by_cases hok : FaceIs l
  rotate_left
  · try simp only [q_bind_some, castInt_int, q_castBool, q_castStr, q_castPtr, q_castFn, q_castAgg, q_castTuple, q_uncons, q_isNil, q_sl, q_nils, q_emp, q_ptr, q_nilp, q_fn, q_cond_true, q_cond_false, Bool.not_true, Bool.not_false, decide_true, decide_false, List.cons_append, List.nil_append, decide_eq_false hok]
    exact W.ret ⟨by rw [if_neg hok], l1⟩
  try simp only [q_bind_some, castInt_int, q_castBool, q_castStr, q_castPtr, q_castFn, q_castAgg, q_castTuple, q_uncons, q_isNil, q_sl, q_nils, q_emp, q_ptr, q_nilp, q_fn, q_cond_true, q_cond_false, Bool.not_true, Bool.not_false, decide_true, decide_false, List.cons_append, List.nil_append, decide_eq_true hok]
  have hlen := faceL_len hok.2.1
  have h8 := hok.1
  rw [if_pos hok]
  have h0 : (⟨#[]⟩ : ByteArray) = ba (faceL l 0) := by simp [faceL, ba]
  have e62 : (2 : Nat) ^ 62 = 4611686018427387904 := by decide
  have hl1 : Lh σ1 (hnewT σ1 (hbT + 1) 2 [.nilp, .nils]) := Lh.append _ _
  have hno : ∀ row, σ1[σ1.length]? ≠ some (some row) := fun row hc => by rw [List.getElem?_eq_none (Nat.le_refl _)] at hc; cases hc
  refine W.len h ?_
  refine W.loop (S := Nat × Heap) (fun s => s.1 ≤ l.length ∧ Bld (σ1.length + 1) s.2 σ1.length (ba (faceL l s.1)) ∧ Lh σ1 s.2 ∧ σ1.length + 1 ≤ s.2.length)
    (fun s => [.v (.ptr σ1.length 0), .v v, .v (.int .i64 (l.length : Int)), .v (.int .i64 (s.1 : Int))]) (fun s => s.2) (fun s => l.length - s.1)
    (fun ⟨i, σi⟩ ⟨hi, hB, hle, hlen'⟩ => ?_) (0, hnewT σ1 (hbT + 1) 2 [.nilp, .nils]) ⟨Nat.zero_le _, by show Bld _ _ _ (ba (faceL l 0)); rw [← h0]; exact Bld.new σ1, hl1, by simp [hnewT]⟩
  simp only at hi hB hle hlen' ⊢
  have hl := l1.trans hle
  have hl1 := hlen i hi
  have hbs := ba_size (faceL l i)
  refine W.to (fun k _ => by rw [impl_FaceText.L0_step]) ?_
  refine B.ite (fun hlt => ?_) fun hlt => ?_
  rotate_left
  · obtain rfl : i = l.length := by omega
    try simp only [q_bind_some, castInt_int, q_castBool, q_castStr, q_castPtr, q_castFn, q_castAgg, q_castTuple, q_uncons, q_isNil, q_sl, q_nils, q_emp, q_ptr, q_nilp, q_fn, q_cond_true, q_cond_false, Bool.not_true, Bool.not_false, decide_true, decide_false, List.cons_append, List.nil_append, impl_FaceText.A0_x0]
    obtain ⟨σ2, c2, K2⟩ := builderText_runs hB (by omega)
    refine W.run c2 ?_
    try simp only [q_bind_some, castInt_int, q_castBool, q_castStr, q_castPtr, q_castFn, q_castAgg, q_castTuple, q_uncons, q_isNil, q_sl, q_nils, q_emp, q_ptr, q_nilp, q_fn, q_cond_true, q_cond_false, Bool.not_true, Bool.not_false, decide_true, decide_false, List.cons_append, List.nil_append]
    exact W.ret ⟨rfl, l1.trans (K2.lh hle (by omega) hno)⟩
  have hil : i < l.length := by omega
  have hx : l[i]? = some l[i] := List.getElem?_eq_getElem hil
  generalize l[i] = x at hx
  have hnext := wrap_next hil (by omega)
  have hsx := hok.2.1 i x hil hx
  have hstep := faceL_next hx
  have hl2 := line_len hsx
  obtain ⟨r, o, hv, cs, hr, hP⟩ := h.at' hx
  have hr' := hl.rdc hr
  cases hP with
  | mk q0 =>
  have hb4 := ba_list x.name
  have hb3 := ba_list (tword x.type)
  have hl3 := hl2
  unfold lineL at hl2
  simp only [List.length_append, List.length_cons, List.length_nil] at hl2
  have k1 : (⟨#[40]⟩ : ByteArray) = ba [40] := rfl
  have k2 : (⟨#[41]⟩ : ByteArray) = ba [41] := rfl
  have k3 : (⟨#[10]⟩ : ByteArray) = ba [10] := rfl
  have d1 : ∀ L : List UInt8, (ba L).data.toList = L := fun L => rfl
  have kn : x.name = ba x.name.data.toList := ba_self _
  have big : ∀ (L : List UInt8) (n : Nat), L.length ≤ 2048 → n ≤ 2048 → (ba L).size + n ≤ 2 ^ 62 := fun L n h1 h2 => by
    rw [ba_size, e62]
    omega
  have z2 := big x.name.data.toList (ba [40]).size (by omega) (by rw [ba_size]; simp)
  have z3 := big (x.name.data.toList ++ [40]) (ba (tyL x.args)).size (by simp only [List.length_append, List.length_cons, List.length_nil]; omega) (by rw [ba_size]; omega)
  have z4 := big (x.name.data.toList ++ [40] ++ tyL x.args) (ba [41]).size (by simp only [List.length_append, List.length_cons, List.length_nil]; omega) (by rw [ba_size]; simp)
  have z5 := big (x.name.data.toList ++ [40] ++ tyL x.args ++ [41]) (tword x.type).size (by simp only [List.length_append, List.length_cons, List.length_nil]; omega) (by omega)
  have z6 := big (x.name.data.toList ++ [40] ++ tyL x.args ++ [41] ++ (tword x.type).data.toList) (ba [10]).size (by simp only [List.length_append, List.length_cons, List.length_nil]; omega) (by rw [ba_size]; simp)
  have hline : ba (x.name.data.toList ++ [40] ++ tyL x.args ++ [41] ++ (tword x.type).data.toList ++ [10]) = ba (lineL x) := rfl
  generalize hnm : x.name.data.toList = nm at kn z2 z3 z4 z5 z6 hline
  rw [kn] at hr'
  try simp only [q_bind_some, castInt_int, q_castBool, q_castStr, q_castPtr, q_castFn, q_castAgg, q_castTuple, q_uncons, q_isNil, q_sl, q_nils, q_emp, q_ptr, q_nilp, q_fn, q_cond_true, q_cond_false, Bool.not_true, Bool.not_false, decide_true, decide_false, List.cons_append, List.nil_append, hv, hr', k1, k2, k3, ba_app, d1, z2]
  refine B.give (typeList_gives (hl.row _ _ ht) hsx.2.1.1 (q0.le hl)) fun σ2 l2 => ?_
  try simp only [q_bind_some, castInt_int, q_castBool, q_castStr, q_castPtr, q_castFn, q_castAgg, q_castTuple, q_uncons, q_isNil, q_sl, q_nils, q_emp, q_ptr, q_nilp, q_fn, q_cond_true, q_cond_false, Bool.not_true, Bool.not_false, decide_true, decide_false, List.cons_append, List.nil_append, k1, k2, k3, ba_app, d1, z3, z4]
  refine B.run (implTreeType_runs x.type σ2 ((hl.trans l2).row _ _ ht)) ?_
  try simp only [q_bind_some, castInt_int, q_castBool, q_castStr, q_castPtr, q_castFn, q_castAgg, q_castTuple, q_uncons, q_isNil, q_sl, q_nils, q_emp, q_ptr, q_nilp, q_fn, q_cond_true, q_cond_false, Bool.not_true, Bool.not_false, decide_true, decide_false, List.cons_append, List.nil_append, k1, k2, k3, ba_app, d1, z5, z6, hline]
  obtain ⟨σ3, c3, B3, K3⟩ := writeString_runs (F := σ1.length + 1) (Nat.le_trans hlen' l2.len) (hB.keep l2) (ba (lineL x)) (by rw [hbs, ba_size]; omega)
  refine B.run c3 ?_
  try simp only [q_bind_some, castInt_int, q_castBool, q_castStr, q_castPtr, q_castFn, q_castAgg, q_castTuple, q_uncons, q_isNil, q_sl, q_nils, q_emp, q_ptr, q_nilp, q_fn, q_cond_true, q_cond_false, Bool.not_true, Bool.not_false, decide_true, decide_false, List.cons_append, List.nil_append, hnext]
  rw [ba_app, d1, ← hstep] at B3
  exact W.again (i + 1, σ3) ⟨by show i + 1 ≤ l.length; omega, B3, K3.lh (hle.trans l2) (by omega) hno, Nat.le_trans (Nat.le_trans hlen' l2.len) K3.1⟩ (by simp only; omega) rfl rfl
end Go.D
