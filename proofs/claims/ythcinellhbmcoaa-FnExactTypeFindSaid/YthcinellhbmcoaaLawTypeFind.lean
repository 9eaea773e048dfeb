/- What the law on TypeFind computes. -/
import Derived.Test.YthcinellhbmcoaaTypeFind2
import Derived.Test.YthcinellhbmcoaaMarkM
import Derived.Test.YthcinellhbmcoaaC
import Derived.Test.YthcinellhbmcoaaHMOpen
set_option linter.unusedVariables false
set_option linter.unusedSimpArgs false
namespace Go.X
open Go.HM Go.Proofs
theorem noSig_fit : noSig.Fit := .mk (by decide) (by decide) (fun x hx => (List.not_mem_nil hx).elim) ⟨by decide, by decide⟩
theorem sig_fit {m : TreeMod} (hm : m.Fit) {l : List TypeFace} (hl : ∀ x, x ∈ l → x.Fit) (mod name : ByteArray) : (findSig m l mod name).1.Fit := by
  unfold findSig
  split
  · split
    · rename_i f hf
      have hmem := List.mem_of_find?_eq_some hf
      cases hm with
      | mk m0 m1 m2 m3 m4 m5 =>
      cases m3 f hmem with
      | mk f0 f1 f2 f3 f4 =>
      refine .mk f0 (by simpa [sigOf] using f1) (fun x hx => ?_) f3
      obtain ⟨a, ha, rfl⟩ := List.mem_map.1 hx
      cases f2 a ha with
      | mk a0 a1 => exact a1
    · exact noSig_fit
  · split
    · split
      · rename_i x hx
        split
        · rename_i s hs
          cases hl x (List.mem_of_find?_eq_some hx) with
          | mk x0 x1 x2 => exact x2 s (List.mem_of_find?_eq_some hs)
        · exact noSig_fit
      · exact noSig_fit
    · exact noSig_fit
theorem sig_len {m : TreeMod} (hm : m.total ≤ 1048576) {l : List TypeFace} (hl : l.length + totS TypeFace.total l ≤ 1048576) (mod name : ByteArray) : (findSig m l mod name).1.args.length ≤ 1048576 := by
  rw [TreeMod.total_eq] at hm
  unfold findSig
  split
  · split
    · rename_i f hf
      have h1 := totS_mem TreeFun.total (List.mem_of_find?_eq_some hf)
      have h2 := TreeFun.total_eq f
      show (f.args.map (·.type)).length ≤ _
      rw [List.length_map]
      omega
    · exact Nat.zero_le _
  · split
    · split
      · rename_i x hx
        split
        · rename_i s hs
          have h1 := totS_mem TypeFace.total (List.mem_of_find?_eq_some hx)
          have h2 := TypeFace.total_eq x
          have h3 := totS_mem FaceSig.total (List.mem_of_find?_eq_some hs)
          have h4 := FaceSig.total_eq s
          show s.args.length ≤ _
          omega
        · exact Nat.zero_le _
      · exact Nat.zero_le _
    · exact Nat.zero_le _
theorem Ow.sig {σ σi : Heap} {v : V} {s : FaceSig} {R : List Nat} (h : Ow σ σi v s.args R) : FaceSig.Rep σi [.str s.name, v, .int .i64 s.type] s := .mk h.rep
theorem Ow.keep {σ σ0 σi σ' : Heap} {v : V} {l : List Int} {R : List Nat} (h : Ow σ σi v l R) (hk : ∀ j, j ∈ R → σ'[j]? = σi[j]?) (hl : Lh σ0 σ') (h0 : σ0.length ≤ σ.length) : Ow σ0 σ' v l R :=
  ⟨h.r.keep hk fun cs x R hq hk => RInt.keep cs x R hq hk, h.a, h.nd, fun j hj => by have := h.lo j hj; omega, hl⟩
/-- The marks of a signature, and what holds them. -/
theorem sig_marks {σ σi : Heap} {v : V} {l : List Int} {R : List Nat} (h : Ow σ σi v l R) (hl : l.length ≤ 1048576) (nm : ByteArray) (t : Int) :
    ∃ L : List Leaf, Runs G n_laws_markFaceSig [.agg [.str nm, v, .int .i64 t], .int .i64 1] σi (.int .i64 ((1 + L.length : Nat) : Int)) (wrs σi 1 L) ∧ (∀ j, j ∉ R → (wrs σi 1 L)[j]? = σi[j]?) ∧
      ∀ σ', Lh (wrs σi 1 L) σ' → Runs G n_laws_heldFaceSig [.agg [.str nm, v, .int .i64 t], .int .i64 1] σ' (.int .i64 ((1 + L.length : Nat) : Int)) σ' := by
  obtain ⟨l8, v8, o8, b8⟩ := h.r.lv (P := PInt σi) (c := fun _ => 8) h.nd (fun r o cs x R hw hr hq hn hrn => RInt.lv r o cs x R hw hr hq hn hrn)
  rw [totS_eight] at b8
  have hheld := held_wrs l8.flatten (σ := σi) (n := 1) (v8.cells (fun r o ls h => PInt.cells h)) o8.1
  obtain ⟨m8, s8⟩ := markIntS_lv (σ0 := σi) (σ := σi) (n := 1) (A := []) (Shp.refl _) v8 (Nat.le_refl _) (by simp only [List.length_nil]; omega)
  simp only [List.nil_append] at m8 s8
  refine ⟨l8.flatten, ?_, fun j hj => wrs_out _ fun l hl he => hj (he ▸ o8.2 l hl), fun σ' hl' => ?_⟩
  · refine Runs.of (W.to (fun k _ => laws_markFaceSig.eq k _ _ _ _ _) ?_)
    refine W.run m8 ?_
    try simp only [q_bind_some, castInt_int, q_castBool, q_castStr, q_castPtr, q_castFn, q_castAgg, q_castTuple, q_uncons, q_isNil, q_sl, q_nils, q_emp, q_ptr, q_nilp, q_fn, q_cond_true, q_cond_false, Bool.not_true, Bool.not_false, decide_true, decide_false, List.cons_append, List.nil_append]
    exact W.ret ⟨rfl, rfl⟩
  · have c8 := heldIntS_lv (s8.le hl') v8 (hheld.le hl') (Nat.le_refl _) (by omega)
    refine Runs.of (W.to (fun k _ => laws_heldFaceSig.eq k _ _ _ _ _) ?_)
    refine W.run c8 ?_
    have p1 : ¬ (((1 + l8.flatten.length : Nat) : Int) < 0) := by omega
    try simp only [q_bind_some, castInt_int, q_castBool, q_castStr, q_castPtr, q_castFn, q_castAgg, q_castTuple, q_uncons, q_isNil, q_sl, q_nils, q_emp, q_ptr, q_nilp, q_fn, q_cond_true, q_cond_false, Bool.not_true, Bool.not_false, decide_true, decide_false, List.cons_append, List.nil_append, decide_eq_false p1]
    exact W.ret ⟨rfl, rfl⟩
theorem FnExactTypeFind_law {σ : Heap} {y0 : TreeMod} (f0 : TreeMod.Fit y0) {xs0 : List V} (r0 : TreeMod.Rep σ xs0 y0) {y1 : List TypeFace} (f1 : fitL TypeFace.Fit y1) {w1 : V} (r1 : RepS 2 (TypeFace.Rep σ) σ w1 y1) {y2 : ByteArray} (f2 : fitT y2) {y3 : ByteArray} (f3 : fitT y3) :
    ∃ σ', Runs G n_laws_FnExactTypeFind [.agg xs0, w1, .str y2, .str y3] σ (.bool true) σ' := by
  refine Ends.true (Ends.mk ?_)
  have c0 := szTreeMod_runs y0 f0 r0 (b := 1048576) (by omega) (by omega)
  have q0 := r0
  cases q0 with
  | mk p0 p1 p2 =>
  refine W.to (fun k _ => laws_FnExactTypeFind.eq k _ _ _ _ _ _ _) ?_
  refine W.ite (fun _ => W.ret rfl) fun hs2 => ?_
  refine W.ite (fun _ => W.ret rfl) fun hs3 => ?_
  refine W.run c0 ?_
  try simp only [q_bind_some, castInt_int, q_castBool, q_castStr, q_castPtr, q_castFn, q_castAgg, q_castTuple, q_uncons, q_isNil, q_sl, q_nils, q_emp, q_ptr, q_nilp, q_fn, q_cond_true, q_cond_false, Bool.not_true, Bool.not_false, decide_true, decide_false, List.cons_append, List.nil_append]
  refine W.ite (fun _ => W.ret rfl) fun hs => ?_
  have ht : y0.total ≤ 1048576 := by have := sub_cases 1048576 y0.total; omega
  have hb0 : 0 ≤ sub 1048576 y0.total ∧ sub 1048576 y0.total ≤ 1048576 := by have := sub_cases 1048576 y0.total; omega
  refine W.run (szTypeFaceS_runs f1.1 r1 (fun x hx cs b hr h0 h1 => szTypeFace_runs x (f1.2 x hx) hr h0 h1) (b := sub 1048576 y0.total) hb0.1 (by omega)) ?_
  try simp only [q_bind_some, castInt_int, q_castBool, q_castStr, q_castPtr, q_castFn, q_castAgg, q_castTuple, q_uncons, q_isNil, q_sl, q_nils, q_emp, q_ptr, q_nilp, q_fn, q_cond_true, q_cond_false, Bool.not_true, Bool.not_false, decide_true, decide_false, List.cons_append, List.nil_append]
  refine W.ite (fun _ => W.ret rfl) fun hs1 => ?_
  have ht1 : y1.length + totS TypeFace.total y1 ≤ 1048576 := by have := sub_cases (sub 1048576 y0.total) (y1.length + totS TypeFace.total y1); omega
  have toM : ∀ {σ' : Heap}, Lh σ σ' → _ := fun {σ'} hl => toTreeMod_runs y0 ht (σ := σ') (r0.le hl)
  have toF : ∀ {σ' : Heap}, Lh σ σ' → _ := fun {σ'} hl => toTypeFaceS_runs (σ := σ') ht1 (r1.mono hl fun cs x _ h => TypeFace.Rep.le hl h) (fun x hx ht σ cs hr => toTypeFace_runs x ht hr)
  have upF : ∀ {a b : Heap} {v : V}, Lh a b → RepS 2 (TypeFace.Rep a) a v y1 → RepS 2 (TypeFace.Rep b) b v y1 := fun hl h => h.mono hl fun cs x _ h => TypeFace.Rep.le hl h
  have hfit := sig_fit f0 f1.2 y2 y3
  have hlen := sig_len ht ht1 y2 y3
  have eqS : ∀ {σ' τ τ' : Heap} {a b : V} {R S : List Nat}, Ow τ σ' a (findSig y0 y1 y2 y3).1.args R → Ow τ' σ' b (findSig y0 y1 y2 y3).1.args S → Runs G n_laws_eqFaceSig [.agg [.str (findSig y0 y1 y2 y3).1.name, a, .int .i64 (findSig y0 y1 y2 y3).1.type], .agg [.str (findSig y0 y1 y2 y3).1.name, b, .int .i64 (findSig y0 y1 y2 y3).1.type]] σ' (.bool true) σ' := fun h h' => by
    obtain ⟨b, c, hb⟩ := eqFaceSig_runs _ _ hfit h.sig h'.sig
    obtain rfl := hb.2 rfl
    exact c
  obtain ⟨cs1, σ1, c1, l1, r11⟩ := toM (Lh.refl σ)
  obtain ⟨v2, σ2, c2, l2, r12⟩ := toF l1
  have hfind := fun {σ' : Heap} {cs : List V} (h : TreeMod.Rep σ' cs y0) {v : V} (hv : RepS 2 (TypeFace.Rep σ') σ' v y1) => specTypeFind_ends ht ht1 h hv y2 y3
  have hfind2 := fun {σ' : Heap} {cs : List V} (h : TreeMod.Rep σ' cs y0) {v : V} (hv : RepS 2 (TypeFace.Rep σ') σ' v y1) => implTypeFind_ends ht ht1 h hv y2 y3
  generalize findSig y0 y1 y2 y3 = F at hfit hlen eqS hfind hfind2
  obtain ⟨s, b⟩ := F
  have hbb : (b == b) = true := by cases b <;> rfl
  have d1 := r11.le (Lh.wipe _ _)
  have q1 := d1
  cases q1 with
  | mk g0 g1 g2 =>
  refine W.run c1 ?_
  try simp only [q_bind_some, castInt_int, q_castBool, q_castStr, q_castPtr, q_castFn, q_castAgg, q_castTuple, q_uncons, q_isNil, q_sl, q_nils, q_emp, q_ptr, q_nilp, q_fn, q_cond_true, q_cond_false, Bool.not_true, Bool.not_false, decide_true, decide_false, List.cons_append, List.nil_append]
  refine W.run c2 ?_
  try simp only [q_bind_some, castInt_int, q_castBool, q_castStr, q_castPtr, q_castFn, q_castAgg, q_castTuple, q_uncons, q_isNil, q_sl, q_nils, q_emp, q_ptr, q_nilp, q_fn, q_cond_true, q_cond_false, Bool.not_true, Bool.not_false, decide_true, decide_false, List.cons_append, List.nil_append]
  refine W.call (hfind (d1.le l2) (upF (Lh.wipe _ _) r12)) ?_
  rintro _ σ3 ⟨av3, R3, rfl, O3⟩
  try simp only [q_bind_some, castInt_int, q_castBool, q_castStr, q_castPtr, q_castFn, q_castAgg, q_castTuple, q_uncons, q_isNil, q_sl, q_nils, q_emp, q_ptr, q_nilp, q_fn, q_cond_true, q_cond_false, Bool.not_true, Bool.not_false, decide_true, decide_false, List.cons_append, List.nil_append]
  have l3 := (l1.trans l2).trans O3.le
  obtain ⟨cs4, σ4, c4, l4, r4⟩ := toM l3
  have d4 := r4.le (Lh.wipe _ _)
  have q4 := d4
  cases q4 with
  | mk g0 g1 g2 =>
  refine W.run c4 ?_
  try simp only [q_bind_some, castInt_int, q_castBool, q_castStr, q_castPtr, q_castFn, q_castAgg, q_castTuple, q_uncons, q_isNil, q_sl, q_nils, q_emp, q_ptr, q_nilp, q_fn, q_cond_true, q_cond_false, Bool.not_true, Bool.not_false, decide_true, decide_false, List.cons_append, List.nil_append]
  obtain ⟨v5, σ5, c5, l5, r5⟩ := toF (l3.trans l4)
  have d5 := upF (Lh.wipe _ _) r5
  refine W.run c5 ?_
  try simp only [q_bind_some, castInt_int, q_castBool, q_castStr, q_castPtr, q_castFn, q_castAgg, q_castTuple, q_uncons, q_isNil, q_sl, q_nils, q_emp, q_ptr, q_nilp, q_fn, q_cond_true, q_cond_false, Bool.not_true, Bool.not_false, decide_true, decide_false, List.cons_append, List.nil_append]
  refine W.call (hfind2 (d4.le l5) d5) ?_
  rintro _ σ6 ⟨av6, R6, rfl, O6⟩
  try simp only [q_bind_some, castInt_int, q_castBool, q_castStr, q_castPtr, q_castFn, q_castAgg, q_castTuple, q_uncons, q_isNil, q_sl, q_nils, q_emp, q_ptr, q_nilp, q_fn, q_cond_true, q_cond_false, Bool.not_true, Bool.not_false, decide_true, decide_false, List.cons_append, List.nil_append]
  have l36 := (l4.trans l5).trans O6.le
  refine W.run (eqS O6 (O3.up l36)) ?_
  try simp only [q_bind_some, castInt_int, q_castBool, q_castStr, q_castPtr, q_castFn, q_castAgg, q_castTuple, q_uncons, q_isNil, q_sl, q_nils, q_emp, q_ptr, q_nilp, q_fn, q_cond_true, q_cond_false, Bool.not_true, Bool.not_false, decide_true, decide_false, List.cons_append, List.nil_append, hbb]
  obtain ⟨cs7, σ7, c7, l7, r7⟩ := toM (l3.trans l36)
  have d7 := r7.le (Lh.wipe _ _)
  have q7 := d7
  cases q7 with
  | mk g0 g1 g2 =>
  refine W.run c7 ?_
  try simp only [q_bind_some, castInt_int, q_castBool, q_castStr, q_castPtr, q_castFn, q_castAgg, q_castTuple, q_uncons, q_isNil, q_sl, q_nils, q_emp, q_ptr, q_nilp, q_fn, q_cond_true, q_cond_false, Bool.not_true, Bool.not_false, decide_true, decide_false, List.cons_append, List.nil_append]
  have l47 := (l5.trans O6.le).trans l7
  obtain ⟨be, ce, hbe⟩ := eqTreeMod_runs y0 y0 f0 (d4.le l47) d7
  obtain rfl := hbe.2 rfl
  refine W.run ce ?_
  try simp only [q_bind_some, castInt_int, q_castBool, q_castStr, q_castPtr, q_castFn, q_castAgg, q_castTuple, q_uncons, q_isNil, q_sl, q_nils, q_emp, q_ptr, q_nilp, q_fn, q_cond_true, q_cond_false, Bool.not_true, Bool.not_false, decide_true, decide_false, List.cons_append, List.nil_append]
  obtain ⟨v8, σ8, c8, l8, r8⟩ := toF ((l3.trans l36).trans l7)
  have d8 := upF (Lh.wipe _ _) r8
  refine W.run c8 ?_
  try simp only [q_bind_some, castInt_int, q_castBool, q_castStr, q_castPtr, q_castFn, q_castAgg, q_castTuple, q_uncons, q_isNil, q_sl, q_nils, q_emp, q_ptr, q_nilp, q_fn, q_cond_true, q_cond_false, Bool.not_true, Bool.not_false, decide_true, decide_false, List.cons_append, List.nil_append]
  have l58 := (O6.le.trans l7).trans l8
  obtain ⟨bf, cf, hbf⟩ := eqTypeFaceS_runs f1.1 (upF l58 d5) d8 (fun x hx y cs cs' hr hr' => eqTypeFace_runs x y (f1.2 x hx) hr hr')
  obtain rfl := hbf.2 rfl
  refine W.run cf ?_
  try simp only [q_bind_some, castInt_int, q_castBool, q_castStr, q_castPtr, q_castFn, q_castAgg, q_castTuple, q_uncons, q_isNil, q_sl, q_nils, q_emp, q_ptr, q_nilp, q_fn, q_cond_true, q_cond_false, Bool.not_true, Bool.not_false, decide_true, decide_false, List.cons_append, List.nil_append]
  have l48 := l47.trans l8
  have lwM := Lh.ofWipe (lo := σ3.length) (hi := σ5.length) l48 l5.len
  have lwF := (Lh.ofWipe (lo := σ4.length) (hi := σ5.length) l58 (Nat.le_refl _)).trans (Lh.winMono (lo := σ3.length) l4.len)
  obtain ⟨A, cA, sA, bA, eA⟩ := mod_marks (r4.le lwM) ht
  obtain ⟨L, cL, oL⟩ := faces_marks sA bA eA (upF lwF r5) ht1
  refine W.run cA ?_
  try simp only [q_bind_some, castInt_int, q_castBool, q_castStr, q_castPtr, q_castFn, q_castAgg, q_castTuple, q_uncons, q_isNil, q_sl, q_nils, q_emp, q_ptr, q_nilp, q_fn, q_cond_true, q_cond_false, Bool.not_true, Bool.not_false, decide_true, decide_false, List.cons_append, List.nil_append]
  refine W.run cL ?_
  have hpL : ¬ (((1 + L.length : Nat) : Int) < 0) := by omega
  try simp only [q_bind_some, castInt_int, q_castBool, q_castStr, q_castPtr, q_castFn, q_castAgg, q_castTuple, q_uncons, q_isNil, q_sl, q_nils, q_emp, q_ptr, q_nilp, q_fn, q_cond_true, q_cond_false, Bool.not_true, Bool.not_false, decide_true, decide_false, List.cons_append, List.nil_append, decide_eq_false hpL]
  have n1 := l1.len
  have n2 := l2.len
  have n3 := O3.le.len
  have n4 := l4.len
  have n5 := l5.len
  have hl9 : (wrs σ8 1 L).length = σ8.length := wrs_len _ _ _
  have l38 := (l36.trans l7).trans l8
  have l39 : Lh σ3 (wrs σ8 1 L) := ⟨by rw [hl9]; exact l38.len, fun j row hj => by rw [oL j (.inl (get_lt hj))]; exact l38.row j row hj⟩
  have O3b := O3.up l39
  have O6b : Ow σ (wrs σ8 1 L) av6 s.args R6 := (O6.up (l7.trans l8)).keep (fun j hj => oL j (.inr (O6.lo j hj))) (l3.trans l39) (by omega)
  refine W.run (eqS O6b O3b) ?_
  try simp only [q_bind_some, castInt_int, q_castBool, q_castStr, q_castPtr, q_castFn, q_castAgg, q_castTuple, q_uncons, q_isNil, q_sl, q_nils, q_emp, q_ptr, q_nilp, q_fn, q_cond_true, q_cond_false, Bool.not_true, Bool.not_false, decide_true, decide_false, List.cons_append, List.nil_append, hbb]
  obtain ⟨L6, c10, o10, held⟩ := sig_marks O6b hlen s.name s.type
  refine W.run c10 ?_
  try simp only [q_bind_some, castInt_int, q_castBool, q_castStr, q_castPtr, q_castFn, q_castAgg, q_castTuple, q_uncons, q_isNil, q_sl, q_nils, q_emp, q_ptr, q_nilp, q_fn, q_cond_true, q_cond_false, Bool.not_true, Bool.not_false, decide_true, decide_false, List.cons_append, List.nil_append]
  refine W.run (held _ (Lh.refl _)) ?_
  have hp6 : ¬ (((1 + L6.length : Nat) : Int) < 0) := by omega
  try simp only [q_bind_some, castInt_int, q_castBool, q_castStr, q_castPtr, q_castFn, q_castAgg, q_castTuple, q_uncons, q_isNil, q_sl, q_nils, q_emp, q_ptr, q_nilp, q_fn, q_cond_true, q_cond_false, Bool.not_true, Bool.not_false, decide_true, decide_false, List.cons_append, List.nil_append, decide_eq_false hp6, decide_true]
  have l310 : Lh σ3 (wrs (wrs σ8 1 L) 1 L6) := ⟨by rw [wrs_len, hl9]; exact l38.len, fun j row hj => by
    rw [o10 j fun hc => by have := O6.lo j hc; have := get_lt hj; omega]
    exact l39.row j row hj⟩
  generalize wrs (wrs σ8 1 L) 1 L6 = σ10 at held l310 o10
  obtain ⟨cs11, σ11, c11, l11, r11'⟩ := toM (l3.trans l310)
  have d11 := r11'.le (Lh.wipe _ _)
  have q11 := d11
  cases q11 with
  | mk g0 g1 g2 =>
  refine W.run c11 ?_
  try simp only [q_bind_some, castInt_int, q_castBool, q_castStr, q_castPtr, q_castFn, q_castAgg, q_castTuple, q_uncons, q_isNil, q_sl, q_nils, q_emp, q_ptr, q_nilp, q_fn, q_cond_true, q_cond_false, Bool.not_true, Bool.not_false, decide_true, decide_false, List.cons_append, List.nil_append]
  obtain ⟨v12, σ12, c12, l12, r12'⟩ := toF ((l3.trans l310).trans l11)
  refine W.run c12 ?_
  try simp only [q_bind_some, castInt_int, q_castBool, q_castStr, q_castPtr, q_castFn, q_castAgg, q_castTuple, q_uncons, q_isNil, q_sl, q_nils, q_emp, q_ptr, q_nilp, q_fn, q_cond_true, q_cond_false, Bool.not_true, Bool.not_false, decide_true, decide_false, List.cons_append, List.nil_append]
  refine W.call (hfind2 (d11.le l12) (upF (Lh.wipe _ _) r12')) ?_
  rintro _ σ13 ⟨av13, R13, rfl, O13⟩
  try simp only [q_bind_some, castInt_int, q_castBool, q_castStr, q_castPtr, q_castFn, q_castAgg, q_castTuple, q_uncons, q_isNil, q_sl, q_nils, q_emp, q_ptr, q_nilp, q_fn, q_cond_true, q_cond_false, Bool.not_true, Bool.not_false, decide_true, decide_false, List.cons_append, List.nil_append]
  have l1013 := (l11.trans l12).trans O13.le
  refine W.run (eqS O13 (O3.up (l310.trans l1013))) ?_
  try simp only [q_bind_some, castInt_int, q_castBool, q_castStr, q_castPtr, q_castFn, q_castAgg, q_castTuple, q_uncons, q_isNil, q_sl, q_nils, q_emp, q_ptr, q_nilp, q_fn, q_cond_true, q_cond_false, Bool.not_true, Bool.not_false, decide_true, decide_false, List.cons_append, List.nil_append, hbb]
  refine W.run (held _ l1013) ?_
  try simp only [q_bind_some, castInt_int, q_castBool, q_castStr, q_castPtr, q_castFn, q_castAgg, q_castTuple, q_uncons, q_isNil, q_sl, q_nils, q_emp, q_ptr, q_nilp, q_fn, q_cond_true, q_cond_false, Bool.not_true, Bool.not_false, decide_true, decide_false, List.cons_append, List.nil_append, decide_eq_false hp6, decide_true]
  exact W.ret rfl
end Go.X
