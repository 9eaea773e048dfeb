/- The law that names and numbers have one spelling. -/
import Derived.Test.YtbkbdpdfcannfaaDoorDot
import Derived.Test.YtbkbdpdfcannfaaDoorWlDec
import Derived.Test.YtbkbdpdfcannfaaDoorLexNum2
import Derived.Test.YtbkbdpdfcannfaaDoorDraw
import Derived.Test.YtbkbdpdfcannfaaDoorOFnLexName
import Derived.Test.YtbkbdpdfcannfaaDoorHMOpen
set_option linter.unusedVariables false
set_option linter.unusedSimpArgs false
namespace Go.L
open Go.HM Go.Proofs
def lits16 : List ByteArray := [⟨#[]⟩, ⟨#[102]⟩, ⟨#[97, 98, 99, 100, 101, 102, 103, 104]⟩, ⟨#[97, 98, 99, 100, 101, 102, 103, 104, 105]⟩, ⟨#[70]⟩, ⟨#[102, 49]⟩, ⟨#[117, 115, 101]⟩, ⟨#[114, 111, 119]⟩, ⟨#[112, 114, 105, 110, 116]⟩, ⟨#[116, 114, 117, 101]⟩, ⟨#[105, 110, 116]⟩, ⟨#[112, 117, 116]⟩, ⟨#[112, 117, 116, 115]⟩, ⟨#[97, 46, 98]⟩, ⟨#[40]⟩, ⟨#[122]⟩]
def lits13 : List ByteArray := [⟨#[]⟩, ⟨#[45]⟩, ⟨#[48]⟩, ⟨#[45, 48]⟩, ⟨#[48, 48]⟩, ⟨#[48, 49]⟩, ⟨#[43, 49]⟩, ⟨#[49, 50, 51, 52, 53, 54, 55, 56, 57, 48, 49, 50, 51, 52, 53, 54, 55]⟩, ⟨#[49, 50, 51, 52, 53, 54, 55, 56, 57, 48, 49, 50, 51, 52, 53, 54, 55, 56]⟩, ⟨#[45, 49, 50, 51, 52, 53, 54, 55, 56, 57, 48, 49, 50, 51, 52, 53, 54, 55]⟩, ⟨#[49, 120]⟩, ⟨#[32, 49]⟩, ⟨#[49, 46, 48]⟩]
theorem lits16_small : ∀ x, x ∈ lits16 → x.size ≤ 32 := by decide
theorem lits13_small : ∀ x, x ∈ lits13 → x.size ≤ 32 := by decide
theorem far_lh {σ σ1 σ2 : Heap} (h : Lh σ σ1) (hl : σ1.length ≤ σ2.length) (o : ∀ j, j < σ.length → σ2[j]? = σ1[j]?) : Lh σ σ2 := ⟨Nat.le_trans h.len hl, fun j row hj => by
  rw [o j (get_lt hj)]
  exact h.row _ _ hj⟩
theorem drawName_ends {σ : Heap} {v : V} {l : List Int} (h : RepS 1 U8P σ v l) (hl : ∀ x, x ∈ l → 0 ≤ x ∧ x ≤ 255) : HM.Ends G n_spec_DrawLexName [v] σ (fun w σ' => ∃ s, w = .str s ∧ s.size ≤ 32 ∧ Lh σ σ') := by
  refine HM.Ends.mk (W.to (fun k _ => spec_DrawLexName.eq k _ _) ?_)
  obtain ⟨σ1, ub, lb, c1, d1, n1, l1⟩ := open_ends h hl
  refine W.run c1 ?_
  have lL : Lh σ1 (hnew σ1 1 (lits16.map .str)) := Lh.new _ _ _
  have hlit : RepS 1 StrRep (hnew σ1 1 (lits16.map .str)) (.sl σ1.length 0 16 true) lits16 := RepS.lit (P := StrRep) σ1 lits16 .str (fun _ => rfl) true 16 rfl
  obtain ⟨s, σ3, c3, hs, d3, o3⟩ := of_ends (d1.le lL) (by omega) hlit (by decide) (by decide)
  refine W.run c3 ?_
  try simp only [q_bind_some, castInt_int, q_castBool, q_castStr, q_castPtr, q_castFn, q_castAgg, q_castTuple, q_uncons, q_isNil, q_sl, q_nils, q_emp, q_ptr, q_nilp, q_fn, q_cond_true, q_cond_false, Bool.not_true, Bool.not_false, decide_true, decide_false, List.cons_append, List.nil_append]
  refine W.ret ⟨s, rfl, lits16_small s hs, far_lh (l1.trans lL) (by rw [o3.1]; exact Nat.le_refl _) fun j hj => o3.2 j (by omega)⟩
theorem drawNum_ends {σ : Heap} {v : V} {l : List Int} (h : RepS 1 U8P σ v l) (hl : ∀ x, x ∈ l → 0 ≤ x ∧ x ≤ 255) : HM.Ends G n_spec_DrawLexNum [v] σ (fun w σ' => ∃ s, w = .str s ∧ s.size ≤ 32 ∧ Lh σ σ') := by
  refine HM.Ends.mk (W.to (fun k _ => spec_DrawLexNum.eq k _ _) ?_)
  obtain ⟨σ1, ub, lb, c1, d1, n1, l1⟩ := open_ends h hl
  refine W.run c1 ?_
  obtain ⟨i2, σ2, c2, hi2, d2, o2⟩ := pick_ends (n := 2) d1 (by omega) (by omega) (by omega)
  refine W.run c2 ?_
  try simp only [q_bind_some, castInt_int, q_castBool, q_castStr, q_castPtr, q_castFn, q_castAgg, q_castTuple, q_uncons, q_isNil, q_sl, q_nils, q_emp, q_ptr, q_nilp, q_fn, q_cond_true, q_cond_false, Bool.not_true, Bool.not_false, decide_true, decide_false, List.cons_append, List.nil_append]
  have l2 : Lh σ σ2 := far_lh l1 (by rw [o2.1]; exact Nat.le_refl _) fun j hj => o2.2 j (by omega)
  refine W.ite (fun _ => ?_) fun _ => ?_
  · obtain ⟨i3, σ3, c3, hi3, d3, o3⟩ := pick_ends (n := 2000) d2 (by omega) (by omega) (by omega)
    have l3 : Lh σ σ3 := far_lh l2 (by rw [o3.1]; exact Nat.le_refl _) fun j hj => o3.2 j (by omega)
    refine W.run c3 ?_
    have hw : IntKind.wrap .i64 ((i3 : Int) - 1000) = (i3 : Int) - 1000 := wrap_id (by omega) (by omega)
    try simp only [q_bind_some, castInt_int, q_castBool, q_castStr, q_castPtr, q_castFn, q_castAgg, q_castTuple, q_uncons, q_isNil, q_sl, q_nils, q_emp, q_ptr, q_nilp, q_fn, q_cond_true, q_cond_false, Bool.not_true, Bool.not_false, decide_true, decide_false, List.cons_append, List.nil_append, hw]
    have hlen := Lib.itoa_length_le ((i3 : Int) - 1000) (by omega) (by omega)
    refine W.give (l23Dec_gives σ3 (n := (i3 : Int) - 1000) (by omega) (by omega)) fun σ4 l4 => ?_
    try simp only [q_bind_some, castInt_int, q_castBool, q_castStr, q_castPtr, q_castFn, q_castAgg, q_castTuple, q_uncons, q_isNil, q_sl, q_nils, q_emp, q_ptr, q_nilp, q_fn, q_cond_true, q_cond_false, Bool.not_true, Bool.not_false, decide_true, decide_false, List.cons_append, List.nil_append]
    exact W.ret ⟨_, rfl, by rw [ba_size]; omega, l3.trans l4⟩
  · have lL : Lh σ2 (hnew σ2 1 (lits13.map .str)) := Lh.new _ _ _
    have hlit : RepS 1 StrRep (hnew σ2 1 (lits13.map .str)) (.sl σ2.length 0 13 true) lits13 := RepS.lit (P := StrRep) σ2 lits13 .str (fun _ => rfl) true 13 rfl
    obtain ⟨s, σ3, c3, hs, d3, o3⟩ := of_ends (d2.le lL) (by omega) hlit (by decide) (by decide)
    refine W.run c3 ?_
    try simp only [q_bind_some, castInt_int, q_castBool, q_castStr, q_castPtr, q_castFn, q_castAgg, q_castTuple, q_uncons, q_isNil, q_sl, q_nils, q_emp, q_ptr, q_nilp, q_fn, q_cond_true, q_cond_false, Bool.not_true, Bool.not_false, decide_true, decide_false, List.cons_append, List.nil_append]
    exact W.ret ⟨s, rfl, lits13_small s hs, far_lh (l2.trans lL) (by rw [o3.1]; exact Nat.le_refl _) fun j hj => o3.2 j (by omega)⟩
theorem FnLexName_law {σ : Heap} (hv : VarsFnLexName σ) {y0 : List Int} (f0 : fitL fitU8 y0) {w0 : V} (r0 : RepS 1 (U8R σ) σ w0 y0) {y1 : List Int} (f1 : fitL fitU8 y1) {w1 : V} (r1 : RepS 1 (U8R σ) σ w1 y1) :
    ∃ σ', Runs G n_laws_FnLexName [w0, w1] σ (.bool true) σ' := by
  have hn : NumV σ := ⟨hv.v2, hv.v4, hv.v3⟩
  refine HM.Ends.true (HM.Ends.mk ?_)
  refine W.to (fun k _ => laws_FnLexName.eq k _ _ _) ?_
  refine W.len r0 (W.ite (fun _ => W.ret rfl) fun hl0 => ?_)
  refine W.len r1 (W.ite (fun _ => W.ret rfl) fun hl1 => ?_)
  have r0' : RepS 1 U8P σ w0 y0 := r0.mono (Lh.refl _) fun cs x _ hc => hc
  have r1' : RepS 1 U8P σ w1 y1 := r1.mono (Lh.refl _) fun cs x _ hc => hc
  refine W.call (drawName_ends r0' f0.2) ?_
  rintro _ σ1 ⟨a, rfl, ha32, l1⟩
  try simp only [q_bind_some, castInt_int, q_castBool, q_castStr, q_castPtr, q_castFn, q_castAgg, q_castTuple, q_uncons, q_isNil, q_sl, q_nils, q_emp, q_ptr, q_nilp, q_fn, q_cond_true, q_cond_false, Bool.not_true, Bool.not_false, decide_true, decide_false, List.cons_append, List.nil_append]
  refine W.call (drawName_ends (r1'.le l1) f1.2) ?_
  rintro _ σ2 ⟨b, rfl, hb32, l2⟩
  have e62 : (2 : Nat) ^ 62 = 4611686018427387904 := by decide
  have k1 : (⟨#[46]⟩ : ByteArray) = ba [46] := rfl
  have hsz : (a ++ (⟨#[46]⟩ : ByteArray)).size = a.size + 1 := ByteArray.size_append
  have hsz2 : ((a ++ (⟨#[46]⟩ : ByteArray)) ++ b).size = a.size + 1 + b.size := by rw [ByteArray.size_append, hsz]
  have z1 : a.size + (⟨#[46]⟩ : ByteArray).size ≤ 2 ^ 62 := by rw [e62]; show a.size + 1 ≤ _; omega
  have z2 : (a ++ (⟨#[46]⟩ : ByteArray)).size + b.size ≤ 2 ^ 62 := by rw [e62, hsz]; omega
  try simp only [q_bind_some, castInt_int, q_castBool, q_castStr, q_castPtr, q_castFn, q_castAgg, q_castTuple, q_uncons, q_isNil, q_sl, q_nils, q_emp, q_ptr, q_nilp, q_fn, q_cond_true, q_cond_false, Bool.not_true, Bool.not_false, decide_true, decide_false, List.cons_append, List.nil_append, if_pos z1, if_pos z2]
  have hlist : ((a ++ (⟨#[46]⟩ : ByteArray)) ++ b).data.toList = a.data.toList ++ [46] ++ b.data.toList := by simp
  obtain ⟨g1, g2⟩ := lexDot_gives σ2 ((a ++ (⟨#[46]⟩ : ByteArray)) ++ b) (by rw [hsz2]; omega)
  rw [hlist] at g1 g2
  obtain ⟨t1, t2⟩ := dot_two a b
  have za : a.size ≤ 9223372036854775807 := by omega
  have zb : b.size ≤ 9223372036854775807 := by omega
  have l02 := l1.trans l2
  have hbb : ∀ c : Bool, (c == c) = true := fun c => by cases c <;> rfl
  suffices last : ∀ {σ6 : Heap}, Lh σ σ6 → W (ι := Unit) (fun v _ => v = .bool true) (fun _ => False) (fun k _ => ((hcall G k n_spec_DrawLexNum [w0] σ6).bind fun q28 => castStr q28.1 fun s29 => (hcall G k n_impl_LexNum [.str s29] q28.2).bind fun q30 => castTuple q30.1 fun l31 => uncons l31 fun c32 l33 => castInt .i64 c32 fun n34 => uncons l33 fun c35 l36 => castBool c35 fun b37 => isNil l36 <| (hcall G k n_spec_LexNum [.str s29] q30.2).bind fun q38 => castTuple q38.1 fun l39 => uncons l39 fun c40 l41 => castInt .i64 c40 fun n42 => uncons l41 fun c43 l44 => castBool c43 fun b45 => isNil l44 <| (hcall G k n_laws_wlDec [.int .i64 n34] q38.2).bind fun q46 => castStr q46.1 fun s47 => (hcall G k n_impl_LexNum [.str s47] q46.2).bind fun q48 => castTuple q48.1 fun l49 => uncons l49 fun c50 l51 => castInt .i64 c50 fun n52 => uncons l51 fun c53 l54 => castBool c53 fun b55 => isNil l54 <| bif b37 == b45 then (bif !b37 then (some (.bool true, q48.2)) else ((hcall G k n_laws_wlDec [.int .i64 n34] q48.2).bind fun q56 => castStr q56.1 fun s57 => bif decide (s57 = s29) then (bif b55 then (some (.bool (decide (n52 = n34)), q56.2)) else (some (.bool false, q56.2))) else (some (.bool false, q56.2)))) else (some (.bool false, q48.2)))) by
    by_cases ha : IsName a
    · by_cases hb : IsName b
      · have hok := t2.2 ⟨ha, hb⟩
        refine W.give (g1 hok) fun σ3 l3 => ?_
        rw [t1 ⟨ha, hb⟩]
        try simp only [q_bind_some, castInt_int, q_castBool, q_castStr, q_castPtr, q_castFn, q_castAgg, q_castTuple, q_uncons, q_isNil, q_sl, q_nils, q_emp, q_ptr, q_nilp, q_fn, q_cond_true, q_cond_false, Bool.not_true, Bool.not_false, decide_true, decide_false, List.cons_append, List.nil_append]
        refine W.give (implLexName_gives σ3 _ za) fun σ4 l4 => ?_
        try simp only [q_bind_some, castInt_int, q_castBool, q_castStr, q_castPtr, q_castFn, q_castAgg, q_castTuple, q_uncons, q_isNil, q_sl, q_nils, q_emp, q_ptr, q_nilp, q_fn, q_cond_true, q_cond_false, Bool.not_true, Bool.not_false, decide_true, decide_false, List.cons_append, List.nil_append, decide_eq_true ha]
        refine W.give (implLexName_gives σ4 _ zb) fun σ5 l5 => ?_
        try simp only [q_bind_some, castInt_int, q_castBool, q_castStr, q_castPtr, q_castFn, q_castAgg, q_castTuple, q_uncons, q_isNil, q_sl, q_nils, q_emp, q_ptr, q_nilp, q_fn, q_cond_true, q_cond_false, Bool.not_true, Bool.not_false, decide_true, decide_false, List.cons_append, List.nil_append, decide_eq_true hb, hbb, decide_eq_true (ba_self a).symm, decide_eq_true (ba_self b).symm]
        refine W.give (implLexName_gives σ5 _ za) fun σ7 l7 => ?_
        try simp only [q_bind_some, castInt_int, q_castBool, q_castStr, q_castPtr, q_castFn, q_castAgg, q_castTuple, q_uncons, q_isNil, q_sl, q_nils, q_emp, q_ptr, q_nilp, q_fn, q_cond_true, q_cond_false, Bool.not_true, Bool.not_false, decide_true, decide_false, List.cons_append, List.nil_append]
        refine W.give (specLexName_gives σ7 _ za) fun σ8 l8 => ?_
        try simp only [q_bind_some, castInt_int, q_castBool, q_castStr, q_castPtr, q_castFn, q_castAgg, q_castTuple, q_uncons, q_isNil, q_sl, q_nils, q_emp, q_ptr, q_nilp, q_fn, q_cond_true, q_cond_false, Bool.not_true, Bool.not_false, decide_true, decide_false, List.cons_append, List.nil_append, hbb]
        exact last (l02.trans (l3.trans (l4.trans (l5.trans (l7.trans l8)))))
      · refine W.give (g2 (fun h => hb (t2.1 h).2)) fun σ3 l3 => ?_
        try simp only [q_bind_some, castInt_int, q_castBool, q_castStr, q_castPtr, q_castFn, q_castAgg, q_castTuple, q_uncons, q_isNil, q_sl, q_nils, q_emp, q_ptr, q_nilp, q_fn, q_cond_true, q_cond_false, Bool.not_true, Bool.not_false, decide_true, decide_false, List.cons_append, List.nil_append]
        refine W.give (implLexName_gives σ3 _ za) fun σ4 l4 => ?_
        try simp only [q_bind_some, castInt_int, q_castBool, q_castStr, q_castPtr, q_castFn, q_castAgg, q_castTuple, q_uncons, q_isNil, q_sl, q_nils, q_emp, q_ptr, q_nilp, q_fn, q_cond_true, q_cond_false, Bool.not_true, Bool.not_false, decide_true, decide_false, List.cons_append, List.nil_append, decide_eq_true ha]
        refine W.give (implLexName_gives σ4 _ zb) fun σ5 l5 => ?_
        try simp only [q_bind_some, castInt_int, q_castBool, q_castStr, q_castPtr, q_castFn, q_castAgg, q_castTuple, q_uncons, q_isNil, q_sl, q_nils, q_emp, q_ptr, q_nilp, q_fn, q_cond_true, q_cond_false, Bool.not_true, Bool.not_false, decide_true, decide_false, List.cons_append, List.nil_append, decide_eq_false hb, hbb]
        refine W.give (implLexName_gives σ5 _ za) fun σ7 l7 => ?_
        try simp only [q_bind_some, castInt_int, q_castBool, q_castStr, q_castPtr, q_castFn, q_castAgg, q_castTuple, q_uncons, q_isNil, q_sl, q_nils, q_emp, q_ptr, q_nilp, q_fn, q_cond_true, q_cond_false, Bool.not_true, Bool.not_false, decide_true, decide_false, List.cons_append, List.nil_append]
        refine W.give (specLexName_gives σ7 _ za) fun σ8 l8 => ?_
        try simp only [q_bind_some, castInt_int, q_castBool, q_castStr, q_castPtr, q_castFn, q_castAgg, q_castTuple, q_uncons, q_isNil, q_sl, q_nils, q_emp, q_ptr, q_nilp, q_fn, q_cond_true, q_cond_false, Bool.not_true, Bool.not_false, decide_true, decide_false, List.cons_append, List.nil_append, hbb]
        exact last (l02.trans (l3.trans (l4.trans (l5.trans (l7.trans l8)))))
    · refine W.give (g2 (fun h => ha (t2.1 h).1)) fun σ3 l3 => ?_
      try simp only [q_bind_some, castInt_int, q_castBool, q_castStr, q_castPtr, q_castFn, q_castAgg, q_castTuple, q_uncons, q_isNil, q_sl, q_nils, q_emp, q_ptr, q_nilp, q_fn, q_cond_true, q_cond_false, Bool.not_true, Bool.not_false, decide_true, decide_false, List.cons_append, List.nil_append]
      refine W.give (implLexName_gives σ3 _ za) fun σ4 l4 => ?_
      try simp only [q_bind_some, castInt_int, q_castBool, q_castStr, q_castPtr, q_castFn, q_castAgg, q_castTuple, q_uncons, q_isNil, q_sl, q_nils, q_emp, q_ptr, q_nilp, q_fn, q_cond_true, q_cond_false, Bool.not_true, Bool.not_false, decide_true, decide_false, List.cons_append, List.nil_append, decide_eq_false ha, hbb]
      refine W.give (implLexName_gives σ4 _ za) fun σ7 l7 => ?_
      try simp only [q_bind_some, castInt_int, q_castBool, q_castStr, q_castPtr, q_castFn, q_castAgg, q_castTuple, q_uncons, q_isNil, q_sl, q_nils, q_emp, q_ptr, q_nilp, q_fn, q_cond_true, q_cond_false, Bool.not_true, Bool.not_false, decide_true, decide_false, List.cons_append, List.nil_append]
      refine W.give (specLexName_gives σ7 _ za) fun σ8 l8 => ?_
      try simp only [q_bind_some, castInt_int, q_castBool, q_castStr, q_castPtr, q_castFn, q_castAgg, q_castTuple, q_uncons, q_isNil, q_sl, q_nils, q_emp, q_ptr, q_nilp, q_fn, q_cond_true, q_cond_false, Bool.not_true, Bool.not_false, decide_true, decide_false, List.cons_append, List.nil_append, hbb]
      exact last (l02.trans (l3.trans (l4.trans (l7.trans l8))))
  intro σ6 hl
  refine W.call (drawNum_ends (r0'.le hl) f0.2) ?_
  rintro _ σ9 ⟨s, rfl, hs, l9⟩
  try simp only [q_bind_some, castInt_int, q_castBool, q_castStr, q_castPtr, q_castFn, q_castAgg, q_castTuple, q_uncons, q_isNil, q_sl, q_nils, q_emp, q_ptr, q_nilp, q_fn, q_cond_true, q_cond_false, Bool.not_true, Bool.not_false, decide_true, decide_false, List.cons_append, List.nil_append]
  refine W.give (implLexNum_gives (hn.le (hl.trans l9)) (by omega)) fun σ10 l10 => ?_
  try simp only [q_bind_some, castInt_int, q_castBool, q_castStr, q_castPtr, q_castFn, q_castAgg, q_castTuple, q_uncons, q_isNil, q_sl, q_nils, q_emp, q_ptr, q_nilp, q_fn, q_cond_true, q_cond_false, Bool.not_true, Bool.not_false, decide_true, decide_false, List.cons_append, List.nil_append]
  refine W.give (specLexNum_gives σ10 (by omega)) fun σ11 l11 => ?_
  rw [← num_eq]
  try simp only [q_bind_some, castInt_int, q_castBool, q_castStr, q_castPtr, q_castFn, q_castAgg, q_castTuple, q_uncons, q_isNil, q_sl, q_nils, q_emp, q_ptr, q_nilp, q_fn, q_cond_true, q_cond_false, Bool.not_true, Bool.not_false, decide_true, decide_false, List.cons_append, List.nil_append]
  have l011 := (hl.trans l9).trans (l10.trans l11)
  rcases num_cases s.data.toList with h | ⟨n, h⟩
  · rw [h]
    try simp only [q_bind_some, castInt_int, q_castBool, q_castStr, q_castPtr, q_castFn, q_castAgg, q_castTuple, q_uncons, q_isNil, q_sl, q_nils, q_emp, q_ptr, q_nilp, q_fn, q_cond_true, q_cond_false, Bool.not_true, Bool.not_false, decide_true, decide_false, List.cons_append, List.nil_append]
    refine W.give (wlDec_gives σ11 (n := 0) (by omega) (by omega)) fun σ12 l12 => ?_
    try simp only [q_bind_some, castInt_int, q_castBool, q_castStr, q_castPtr, q_castFn, q_castAgg, q_castTuple, q_uncons, q_isNil, q_sl, q_nils, q_emp, q_ptr, q_nilp, q_fn, q_cond_true, q_cond_false, Bool.not_true, Bool.not_false, decide_true, decide_false, List.cons_append, List.nil_append]
    refine W.give (implLexNum_gives (hn.le (l011.trans l12)) (by rw [ba_size]; have := Lib.itoa_length_le 0 (by omega) (by omega); omega)) fun σ13 l13 => ?_
    try simp only [q_bind_some, castInt_int, q_castBool, q_castStr, q_castPtr, q_castFn, q_castAgg, q_castTuple, q_uncons, q_isNil, q_sl, q_nils, q_emp, q_ptr, q_nilp, q_fn, q_cond_true, q_cond_false, Bool.not_true, Bool.not_false, decide_true, decide_false, List.cons_append, List.nil_append, show (false == false) = true from rfl]
    exact W.ret rfl
  · rw [h]
    obtain ⟨e1, e2, e3, e4⟩ := num_some h
    try simp only [q_bind_some, castInt_int, q_castBool, q_castStr, q_castPtr, q_castFn, q_castAgg, q_castTuple, q_uncons, q_isNil, q_sl, q_nils, q_emp, q_ptr, q_nilp, q_fn, q_cond_true, q_cond_false, Bool.not_true, Bool.not_false, decide_true, decide_false, List.cons_append, List.nil_append]
    refine W.give (wlDec_gives σ11 (n := n) (by omega) (by omega)) fun σ12 l12 => ?_
    have es : ba (Lib.itoa n) = s := by rw [e1]; exact (ba_self s).symm
    rw [es]
    try simp only [q_bind_some, castInt_int, q_castBool, q_castStr, q_castPtr, q_castFn, q_castAgg, q_castTuple, q_uncons, q_isNil, q_sl, q_nils, q_emp, q_ptr, q_nilp, q_fn, q_cond_true, q_cond_false, Bool.not_true, Bool.not_false, decide_true, decide_false, List.cons_append, List.nil_append]
    refine W.give (implLexNum_gives (hn.le (l011.trans l12)) (by omega)) fun σ13 l13 => ?_
    rw [← num_eq, h]
    try simp only [q_bind_some, castInt_int, q_castBool, q_castStr, q_castPtr, q_castFn, q_castAgg, q_castTuple, q_uncons, q_isNil, q_sl, q_nils, q_emp, q_ptr, q_nilp, q_fn, q_cond_true, q_cond_false, Bool.not_true, Bool.not_false, decide_true, decide_false, List.cons_append, List.nil_append, show (true == true) = true from rfl]
    refine W.give (wlDec_gives σ13 (n := n) (by omega) (by omega)) fun σ14 l14 => ?_
    rw [es]
    try simp only [q_bind_some, castInt_int, q_castBool, q_castStr, q_castPtr, q_castFn, q_castAgg, q_castTuple, q_uncons, q_isNil, q_sl, q_nils, q_emp, q_ptr, q_nilp, q_fn, q_cond_true, q_cond_false, Bool.not_true, Bool.not_false, decide_true, decide_false, List.cons_append, List.nil_append]
    exact W.ret rfl
end Go.L
