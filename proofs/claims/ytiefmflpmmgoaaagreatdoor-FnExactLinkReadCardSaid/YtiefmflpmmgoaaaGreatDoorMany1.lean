/- The contracts of this claim, laid together: part 1. -/
import Derived.Test.YtiefmflpmmgoaaaGreatDoorMany0
import Derived.Test.YtiefmflpmmgoaaaGreatDoorC
import Derived.Test.YtiefmflpmmgoaaaGreatDoorHMOwn
import Derived.Test.YtiefmflpmmgoaaaGreatDoorK
import Derived.Test.YtiefmflpmmgoaaaGreatDoorHMTwo
import Derived.Test.YtiefmflpmmgoaaaGreatDoorHMProt
/- The places of marks, and what marks and looks at them. -/
set_option linter.unusedVariables false
set_option linter.unusedSimpArgs false
namespace Go.F
open Go.HM Go.Proofs
def PInt (σ : Heap) (r o : Nat) (ls : List Leaf) : Prop := Fl σ .i r o ∧ ls = [(.i, r, o)]
theorem PInt.shp {σ σ' : Heap} (s : Shp σ σ') {r o : Nat} {ls : List Leaf} (h : PInt σ r o ls) : PInt σ' r o ls := ⟨h.1.shp s, h.2⟩
theorem PInt.cells {σ : Heap} {r o : Nat} {ls : List Leaf} (h : PInt σ r o ls) : ∀ k r' o', (k, r', o') ∈ ls → cellAt σ r' o' ≠ none := fun k r' o' hm => by
  obtain ⟨h1, rfl⟩ := h
  simp at hm
  obtain ⟨rfl, rfl, rfl⟩ := hm
  exact h1.cell
theorem PInt.pos {σ : Heap} {r o : Nat} {ls : List Leaf} (h : PInt σ r o ls) : 1 ≤ ls.length := by rw [h.2]; simp
theorem markIntS_lv {σ0 σ : Heap} {n : Nat} {A : List Leaf} {v : V} {lss : List (List Leaf)} (s : Shp σ0 (wrs σ n A)) (h : LvS 1 (PInt σ0) σ0 v lss) (h1 : 1 ≤ n) (h2 : n + A.length + lss.flatten.length ≤ 1099511627776) : Runs G n_laws_markIntS [v, .int .i64 ((n + A.length : Nat) : Int)] (wrs σ n A) (.int .i64 ((n + (A ++ lss.flatten).length : Nat) : Int)) (wrs σ n (A ++ lss.flatten)) ∧ Shp σ0 (wrs σ n (A ++ lss.flatten)) := by
  suffices hE : HM.Ends G n_laws_markIntS [v, .int .i64 ((n + A.length : Nat) : Int)] (wrs σ n A) (fun w σ' => w = .int .i64 ((n + (A ++ lss.flatten).length : Nat) : Int) ∧ σ' = wrs σ n (A ++ lss.flatten) ∧ Shp σ0 σ') by
    obtain ⟨w, σ', ⟨rfl, rfl, hs⟩, hr⟩ := hE
    exact ⟨hr, hs⟩
  have hlen : lss.length ≤ 4611686018427387904 := h.len_le (by omega) fun r o ls h => by
      have := PInt.pos h
      omega
  refine HM.Ends.mk (W.to (fun k _ => laws_markIntS.eq k _ _ _) ?_)
  generalize hG : (fun (w : V) (σ' : Heap) => w = .int .i64 ((n + (A ++ lss.flatten).length : Nat) : Int) ∧ σ' = wrs σ n (A ++ lss.flatten) ∧ Shp σ0 σ') = Good
  rw [← List.append_nil A]
  refine W.loop (S := Nat) (fun i => i ≤ lss.length ∧ Shp σ0 (wrs σ n (A ++ (lss.take i).flatten))) (fun i => [.v v, .v (.int .i64 ((n + (A ++ (lss.take i).flatten).length : Nat) : Int)), .v (.int .i64 (i : Int))]) (fun i => wrs σ n (A ++ (lss.take i).flatten)) (fun i => lss.length - i) (fun i ⟨hi', sB⟩ => ?_)
    0 ⟨Nat.zero_le _, by simpa using s⟩
  refine W.to (fun k _ => by rw [laws_markIntS.L0_step]) ?_
  refine B.bind h.vlen (B.ite (fun hlt => ?_) fun hlt => ?_)
  rotate_left
  · rw [List.take_of_length_le (by omega)] at sB ⊢
    try simp only [q_bind_some, castInt_int, q_castBool, q_castStr, q_castPtr, q_castFn, q_castAgg, q_castTuple, q_uncons, q_isNil, q_sl, q_nils, q_emp, q_ptr, q_nilp, q_fn, q_cond_true, q_cond_false, Bool.not_true, Bool.not_false, decide_true, decide_false, List.cons_append, List.nil_append, laws_markIntS.A0_x0]
    subst hG
    exact W.ret ⟨rfl, rfl, sB⟩
  have hil : i < lss.length := by omega
  have hx : lss[i]? = some lss[i] := List.getElem?_eq_getElem hil
  have hnext := flat_next hx
  have hle := flat_le hx
  generalize lss[i] = ls at hx hnext hle
  have hw0 := wrap_next hil hlen
  have hnx : A ++ (lss.take (i + 1)).flatten = (A ++ (lss.take i).flatten) ++ ls := by rw [hnext, List.append_assoc]
  have hBl : (A ++ (lss.take i).flatten).length = A.length + (lss.take i).flatten.length := List.length_append
  generalize A ++ (lss.take i).flatten = B0 at sB hnx hBl ⊢
  obtain ⟨r, o, hv, hP⟩ := h.at hx
  obtain ⟨f0, rfl⟩ := hP
  simp only [List.length_append, List.length_cons, List.length_nil] at hle
  have e0 : (B0 ++ [(MK.i, r, o)]).length = B0.length + 1 := List.length_append
  obtain ⟨p0, s0⟩ := put_i sB f0
  have x0 := nx (n := n) (A := B0) (MK.i, r, o) (by omega)
  try simp only [q_bind_some, castInt_int, q_castBool, q_castStr, q_castPtr, q_castFn, q_castAgg, q_castTuple, q_uncons, q_isNil, q_sl, q_nils, q_emp, q_ptr, q_nilp, q_fn, q_cond_true, q_cond_false, Bool.not_true, Bool.not_false, decide_true, decide_false, List.cons_append, List.nil_append, hv, p0, x0]
  generalize hb0 : B0 ++ [(MK.i, r, o)] = B1 at *
  have hfin : A ++ (lss.take (i + 1)).flatten = B1 := by
      rw [hnx, ← hb0]
      try simp only [List.append_assoc]
  refine W.again (i + 1) ⟨by omega, by rw [hfin]; exact s0⟩ (by omega) (by rw [hfin, hw0]) (by rw [hfin])
theorem heldIntS_lv {σ0 σ : Heap} {n : Nat} {v : V} {lss : List (List Leaf)} (s : Shp σ0 σ) (h : LvS 1 (PInt σ0) σ0 v lss) (hm : HeldAt σ n lss.flatten) (h1 : 1 ≤ n) (h2 : n + lss.flatten.length ≤ 1099511627776) : Runs G n_laws_heldIntS [v, .int .i64 (n : Int)] σ (.int .i64 ((n + lss.flatten.length : Nat) : Int)) σ := by
  have hlen : lss.length ≤ 4611686018427387904 := h.len_le (by omega) fun r o ls h => by
      have := PInt.pos h
      omega
  refine Runs.of (W.to (fun k _ => laws_heldIntS.eq k _ _ _) ?_)
  refine W.loop (S := Nat) (fun i => i ≤ lss.length) (fun i => [.v v, .v (.int .i64 ((n + (lss.take i).flatten.length : Nat) : Int)), .v (.int .i64 (i : Int))]) (fun i => σ) (fun i => lss.length - i) (fun i hi' => ?_) 0 (Nat.zero_le _)
  refine W.to (fun k _ => by rw [laws_heldIntS.L0_step]) ?_
  refine B.bind h.vlen (B.ite (fun hlt => ?_) fun hlt => ?_)
  rotate_left
  · rw [List.take_of_length_le (by omega)]
    try simp only [q_bind_some, castInt_int, q_castBool, q_castStr, q_castPtr, q_castFn, q_castAgg, q_castTuple, q_uncons, q_isNil, q_sl, q_nils, q_emp, q_ptr, q_nilp, q_fn, q_cond_true, q_cond_false, Bool.not_true, Bool.not_false, decide_true, decide_false, List.cons_append, List.nil_append, laws_heldIntS.A0_x0]
    exact W.ret ⟨rfl, rfl⟩
  have hil : i < lss.length := by omega
  have hx : lss[i]? = some lss[i] := List.getElem?_eq_getElem hil
  have hnext := flat_next hx
  have hle := flat_le hx
  obtain ⟨rest, hcut⟩ := flat_cut hx
  generalize lss[i] = ls at hx hnext hle hcut
  have hw0 := wrap_next hil hlen
  have hh := (hcut ▸ hm : HeldAt σ n ((lss.take i).flatten ++ (ls ++ rest))).app.2.app.1
  obtain ⟨r, o, hv, hP⟩ := h.at hx
  obtain ⟨f0, rfl⟩ := hP
  simp only [List.length_append, List.length_cons, List.length_nil] at hle hnext
  have hm0 : n + (lss.take i).flatten.length = n + (lss.take i).flatten.length := rfl
  generalize hq0 : n + (lss.take i).flatten.length = m0 at hh ⊢
  have z0 : n ≤ m0 := by omega
  have t0 := hh
  have r0 := rdc_cell t0.one
  have r0 : rdc σ r (o) 1 = some [.int .i64 (m0 : Int)] := r0
  try simp only [q_bind_some, castInt_int, q_castBool, q_castStr, q_castPtr, q_castFn, q_castAgg, q_castTuple, q_uncons, q_isNil, q_sl, q_nils, q_emp, q_ptr, q_nilp, q_fn, q_cond_true, q_cond_false, Bool.not_true, Bool.not_false, decide_true, decide_false, List.cons_append, List.nil_append, hv, r0]
  try simp only [q_bind_some, castInt_int, q_castBool, q_castStr, q_castPtr, q_castFn, q_castAgg, q_castTuple, q_uncons, q_isNil, q_sl, q_nils, q_emp, q_ptr, q_nilp, q_fn, q_cond_true, q_cond_false, Bool.not_true, Bool.not_false, decide_true, decide_false, List.cons_append, List.nil_append, decide_eq_true (rfl : (m0 : Int) = (m0 : Int))]
  generalize hq1 : m0 + 1 = m1 at *
  have w0 : IntKind.wrap .i64 ((m0 : Int) + 1) = (m1 : Int) := by rw [wrap_id (by omega) (by omega)]; omega
  try try simp only [q_bind_some, castInt_int, q_castBool, q_castStr, q_castPtr, q_castFn, q_castAgg, q_castTuple, q_uncons, q_isNil, q_sl, q_nils, q_emp, q_ptr, q_nilp, q_fn, q_cond_true, q_cond_false, Bool.not_true, Bool.not_false, decide_true, decide_false, List.cons_append, List.nil_append, w0]
  have hfin : n + (lss.take (i + 1)).flatten.length = m1 := by rw [hnext]; simp only [List.length_append, List.length_cons, List.length_nil]; omega
  exact W.again (i + 1) (show i + 1 ≤ lss.length by omega) (by omega) (by rw [hfin, hw0]) rfl
def PCodeIns (σ : Heap) (r o : Nat) (ls : List Leaf) : Prop := Fl σ .i r (o + 0) ∧ Fl σ .i r (o + 1) ∧ ls = [(.i, r, o + 0)] ++ ([(.i, r, o + 1)])
theorem PCodeIns.shp {σ σ' : Heap} (s : Shp σ σ') {r o : Nat} {ls : List Leaf} (h : PCodeIns σ r o ls) : PCodeIns σ' r o ls := by
  obtain ⟨h0, h1, rfl⟩ := h
  exact ⟨h0.shp s, h1.shp s, rfl⟩
theorem PCodeIns.cells {σ : Heap} {r o : Nat} {ls : List Leaf} (h : PCodeIns σ r o ls) : ∀ k r' o', (k, r', o') ∈ ls → cellAt σ r' o' ≠ none := fun k r' o' hm => by
      obtain ⟨h0, h1, rfl⟩ := h
      rcases List.mem_append.1 hm with hm | hm
      · exact (fun k r' o' hm => by
          simp at hm
          obtain ⟨rfl, rfl, rfl⟩ := hm
          exact h0.cell) k r' o' hm
      exact (fun k r' o' hm => by
        simp at hm
        obtain ⟨rfl, rfl, rfl⟩ := hm
        exact h1.cell) k r' o' hm
theorem PCodeIns.pos {σ : Heap} {r o : Nat} {ls : List Leaf} (h : PCodeIns σ r o ls) : 1 ≤ ls.length := by
  obtain ⟨f0, f1, rfl⟩ := h
  simp
theorem markCodeInsS_lv {σ0 σ : Heap} {n : Nat} {A : List Leaf} {v : V} {lss : List (List Leaf)} (s : Shp σ0 (wrs σ n A)) (h : LvS 2 (PCodeIns σ0) σ0 v lss) (h1 : 1 ≤ n) (h2 : n + A.length + lss.flatten.length ≤ 1099511627776) : Runs G n_laws_markCodeInsS [v, .int .i64 ((n + A.length : Nat) : Int)] (wrs σ n A) (.int .i64 ((n + (A ++ lss.flatten).length : Nat) : Int)) (wrs σ n (A ++ lss.flatten)) ∧ Shp σ0 (wrs σ n (A ++ lss.flatten)) := by
  suffices hE : HM.Ends G n_laws_markCodeInsS [v, .int .i64 ((n + A.length : Nat) : Int)] (wrs σ n A) (fun w σ' => w = .int .i64 ((n + (A ++ lss.flatten).length : Nat) : Int) ∧ σ' = wrs σ n (A ++ lss.flatten) ∧ Shp σ0 σ') by
    obtain ⟨w, σ', ⟨rfl, rfl, hs⟩, hr⟩ := hE
    exact ⟨hr, hs⟩
  have hlen : lss.length ≤ 4611686018427387904 := h.len_le (by omega) fun r o ls h => by
      have := PCodeIns.pos h
      omega
  refine HM.Ends.mk (W.to (fun k _ => laws_markCodeInsS.eq k _ _ _) ?_)
  generalize hG : (fun (w : V) (σ' : Heap) => w = .int .i64 ((n + (A ++ lss.flatten).length : Nat) : Int) ∧ σ' = wrs σ n (A ++ lss.flatten) ∧ Shp σ0 σ') = Good
  rw [← List.append_nil A]
  refine W.loop (S := Nat) (fun i => i ≤ lss.length ∧ Shp σ0 (wrs σ n (A ++ (lss.take i).flatten))) (fun i => [.v v, .v (.int .i64 ((n + (A ++ (lss.take i).flatten).length : Nat) : Int)), .v (.int .i64 (i : Int))]) (fun i => wrs σ n (A ++ (lss.take i).flatten)) (fun i => lss.length - i) (fun i ⟨hi', sB⟩ => ?_)
    0 ⟨Nat.zero_le _, by simpa using s⟩
  refine W.to (fun k _ => by rw [laws_markCodeInsS.L0_step]) ?_
  refine B.bind h.vlen (B.ite (fun hlt => ?_) fun hlt => ?_)
  rotate_left
  · rw [List.take_of_length_le (by omega)] at sB ⊢
    try simp only [q_bind_some, castInt_int, q_castBool, q_castStr, q_castPtr, q_castFn, q_castAgg, q_castTuple, q_uncons, q_isNil, q_sl, q_nils, q_emp, q_ptr, q_nilp, q_fn, q_cond_true, q_cond_false, Bool.not_true, Bool.not_false, decide_true, decide_false, List.cons_append, List.nil_append, laws_markCodeInsS.A0_x0]
    subst hG
    exact W.ret ⟨rfl, rfl, sB⟩
  have hil : i < lss.length := by omega
  have hx : lss[i]? = some lss[i] := List.getElem?_eq_getElem hil
  have hnext := flat_next hx
  have hle := flat_le hx
  generalize lss[i] = ls at hx hnext hle
  have hw0 := wrap_next hil hlen
  have hnx : A ++ (lss.take (i + 1)).flatten = (A ++ (lss.take i).flatten) ++ ls := by rw [hnext, List.append_assoc]
  have hBl : (A ++ (lss.take i).flatten).length = A.length + (lss.take i).flatten.length := List.length_append
  generalize A ++ (lss.take i).flatten = B0 at sB hnx hBl ⊢
  obtain ⟨r, o, hv, hP⟩ := h.at hx
  obtain ⟨f0, f1, rfl⟩ := hP
  simp only [List.length_append, List.length_cons, List.length_nil] at hle
  have e0 : (B0 ++ [(MK.i, r, o + 0)]).length = B0.length + 1 := List.length_append
  obtain ⟨p0, s0⟩ := put_i sB f0
  have x0 := nx (n := n) (A := B0) (MK.i, r, o + 0) (by omega)
  try simp only [q_bind_some, castInt_int, q_castBool, q_castStr, q_castPtr, q_castFn, q_castAgg, q_castTuple, q_uncons, q_isNil, q_sl, q_nils, q_emp, q_ptr, q_nilp, q_fn, q_cond_true, q_cond_false, Bool.not_true, Bool.not_false, decide_true, decide_false, List.cons_append, List.nil_append, hv, p0, x0]
  generalize hb0 : B0 ++ [(MK.i, r, o + 0)] = B1 at *
  have e1 : (B1 ++ [(MK.i, r, o + 1)]).length = B1.length + 1 := List.length_append
  obtain ⟨p1, s1⟩ := put_i s0 f1
  have x1 := nx (n := n) (A := B1) (MK.i, r, o + 1) (by omega)
  try simp only [q_bind_some, castInt_int, q_castBool, q_castStr, q_castPtr, q_castFn, q_castAgg, q_castTuple, q_uncons, q_isNil, q_sl, q_nils, q_emp, q_ptr, q_nilp, q_fn, q_cond_true, q_cond_false, Bool.not_true, Bool.not_false, decide_true, decide_false, List.cons_append, List.nil_append, hv, p1, x1]
  generalize hb1 : B1 ++ [(MK.i, r, o + 1)] = B2 at *
  have hfin : A ++ (lss.take (i + 1)).flatten = B2 := by
      rw [hnx, ← hb1, ← hb0]
      try simp only [List.append_assoc]
  refine W.again (i + 1) ⟨by omega, by rw [hfin]; exact s1⟩ (by omega) (by rw [hfin, hw0]) (by rw [hfin])
theorem heldCodeInsS_lv {σ0 σ : Heap} {n : Nat} {v : V} {lss : List (List Leaf)} (s : Shp σ0 σ) (h : LvS 2 (PCodeIns σ0) σ0 v lss) (hm : HeldAt σ n lss.flatten) (h1 : 1 ≤ n) (h2 : n + lss.flatten.length ≤ 1099511627776) : Runs G n_laws_heldCodeInsS [v, .int .i64 (n : Int)] σ (.int .i64 ((n + lss.flatten.length : Nat) : Int)) σ := by
  have hlen : lss.length ≤ 4611686018427387904 := h.len_le (by omega) fun r o ls h => by
      have := PCodeIns.pos h
      omega
  refine Runs.of (W.to (fun k _ => laws_heldCodeInsS.eq k _ _ _) ?_)
  refine W.loop (S := Nat) (fun i => i ≤ lss.length) (fun i => [.v v, .v (.int .i64 ((n + (lss.take i).flatten.length : Nat) : Int)), .v (.int .i64 (i : Int))]) (fun i => σ) (fun i => lss.length - i) (fun i hi' => ?_) 0 (Nat.zero_le _)
  refine W.to (fun k _ => by rw [laws_heldCodeInsS.L0_step]) ?_
  refine B.bind h.vlen (B.ite (fun hlt => ?_) fun hlt => ?_)
  rotate_left
  · rw [List.take_of_length_le (by omega)]
    try simp only [q_bind_some, castInt_int, q_castBool, q_castStr, q_castPtr, q_castFn, q_castAgg, q_castTuple, q_uncons, q_isNil, q_sl, q_nils, q_emp, q_ptr, q_nilp, q_fn, q_cond_true, q_cond_false, Bool.not_true, Bool.not_false, decide_true, decide_false, List.cons_append, List.nil_append, laws_heldCodeInsS.A0_x0]
    exact W.ret ⟨rfl, rfl⟩
  have hil : i < lss.length := by omega
  have hx : lss[i]? = some lss[i] := List.getElem?_eq_getElem hil
  have hnext := flat_next hx
  have hle := flat_le hx
  obtain ⟨rest, hcut⟩ := flat_cut hx
  generalize lss[i] = ls at hx hnext hle hcut
  have hw0 := wrap_next hil hlen
  have hh := (hcut ▸ hm : HeldAt σ n ((lss.take i).flatten ++ (ls ++ rest))).app.2.app.1
  obtain ⟨r, o, hv, hP⟩ := h.at hx
  obtain ⟨f0, f1, rfl⟩ := hP
  simp only [List.length_append, List.length_cons, List.length_nil] at hle hnext
  have hm0 : n + (lss.take i).flatten.length = n + (lss.take i).flatten.length := rfl
  generalize hq0 : n + (lss.take i).flatten.length = m0 at hh ⊢
  have z0 : n ≤ m0 := by omega
  have t0 := hh.app.1
  have u0 := hh.app.2
  have r0 := rdc_cell t0.one
  have r0 : rdc σ r (o + 0) 1 = some [.int .i64 (m0 : Int)] := r0
  try simp only [q_bind_some, castInt_int, q_castBool, q_castStr, q_castPtr, q_castFn, q_castAgg, q_castTuple, q_uncons, q_isNil, q_sl, q_nils, q_emp, q_ptr, q_nilp, q_fn, q_cond_true, q_cond_false, Bool.not_true, Bool.not_false, decide_true, decide_false, List.cons_append, List.nil_append, hv, r0]
  try simp only [q_bind_some, castInt_int, q_castBool, q_castStr, q_castPtr, q_castFn, q_castAgg, q_castTuple, q_uncons, q_isNil, q_sl, q_nils, q_emp, q_ptr, q_nilp, q_fn, q_cond_true, q_cond_false, Bool.not_true, Bool.not_false, decide_true, decide_false, List.cons_append, List.nil_append, decide_eq_true (rfl : (m0 : Int) = (m0 : Int))]
  generalize hq1 : m0 + [((MK.i, r, o + 0) : Leaf)].length = m1 at *
  have hq1 : m0 + 1 = m1 := hq1
  have w0 : IntKind.wrap .i64 ((m0 : Int) + 1) = (m1 : Int) := by rw [wrap_id (by omega) (by omega)]; omega
  try try simp only [q_bind_some, castInt_int, q_castBool, q_castStr, q_castPtr, q_castFn, q_castAgg, q_castTuple, q_uncons, q_isNil, q_sl, q_nils, q_emp, q_ptr, q_nilp, q_fn, q_cond_true, q_cond_false, Bool.not_true, Bool.not_false, decide_true, decide_false, List.cons_append, List.nil_append, w0]
  have t1 := u0
  have r1 := rdc_cell t1.one
  have r1 : rdc σ r (o + 1) 1 = some [.int .i64 (m1 : Int)] := r1
  try simp only [q_bind_some, castInt_int, q_castBool, q_castStr, q_castPtr, q_castFn, q_castAgg, q_castTuple, q_uncons, q_isNil, q_sl, q_nils, q_emp, q_ptr, q_nilp, q_fn, q_cond_true, q_cond_false, Bool.not_true, Bool.not_false, decide_true, decide_false, List.cons_append, List.nil_append, hv, r1]
  try simp only [q_bind_some, castInt_int, q_castBool, q_castStr, q_castPtr, q_castFn, q_castAgg, q_castTuple, q_uncons, q_isNil, q_sl, q_nils, q_emp, q_ptr, q_nilp, q_fn, q_cond_true, q_cond_false, Bool.not_true, Bool.not_false, decide_true, decide_false, List.cons_append, List.nil_append, decide_eq_true (rfl : (m1 : Int) = (m1 : Int))]
  generalize hq2 : m1 + 1 = m2 at *
  have w1 : IntKind.wrap .i64 ((m1 : Int) + 1) = (m2 : Int) := by rw [wrap_id (by omega) (by omega)]; omega
  try try simp only [q_bind_some, castInt_int, q_castBool, q_castStr, q_castPtr, q_castFn, q_castAgg, q_castTuple, q_uncons, q_isNil, q_sl, q_nils, q_emp, q_ptr, q_nilp, q_fn, q_cond_true, q_cond_false, Bool.not_true, Bool.not_false, decide_true, decide_false, List.cons_append, List.nil_append, w1]
  have hfin : n + (lss.take (i + 1)).flatten.length = m2 := by rw [hnext]; simp only [List.length_append, List.length_cons, List.length_nil]; omega
  exact W.again (i + 1) (show i + 1 ≤ lss.length by omega) (by omega) (by rw [hfin, hw0]) rfl
def PLinkFun (σ : Heap) (r o : Nat) (ls : List Leaf) : Prop := ∃ (v2 : V) (l2 : List (List Leaf)) (v5 : V) (l5 : List (List Leaf)), Fl σ .s r (o + 0) ∧ Fl σ .s r (o + 1) ∧ Cl σ r (o + 2) v2 ∧ LvS 1 (PInt σ) σ v2 l2 ∧ Fl σ .i r (o + 3) ∧ Fl σ .i r (o + 4) ∧ Cl σ r (o + 5) v5 ∧ LvS 2 (PCodeIns σ) σ v5 l5 ∧ ls = [(.s, r, o + 0)] ++ ([(.s, r, o + 1)] ++ (l2.flatten ++ ([(.i, r, o + 3)] ++ ([(.i, r, o + 4)] ++ (l5.flatten)))))
theorem PLinkFun.shp {σ σ' : Heap} (s : Shp σ σ') {r o : Nat} {ls : List Leaf} (h : PLinkFun σ r o ls) : PLinkFun σ' r o ls := by
  obtain ⟨v2, l2, v5, l5, h0, h1, c2, h2, h3, h4, c5, h5, rfl⟩ := h
  exact ⟨v2, l2, v5, l5, h0.shp s, h1.shp s, c2.shp s, h2.mono s fun _ _ _ h => PInt.shp s h, h3.shp s, h4.shp s, c5.shp s, h5.mono s fun _ _ _ h => PCodeIns.shp s h, rfl⟩
theorem PLinkFun.cells {σ : Heap} {r o : Nat} {ls : List Leaf} (h : PLinkFun σ r o ls) : ∀ k r' o', (k, r', o') ∈ ls → cellAt σ r' o' ≠ none := fun k r' o' hm => by
      obtain ⟨v2, l2, v5, l5, h0, h1, c2, h2, h3, h4, c5, h5, rfl⟩ := h
      rcases List.mem_append.1 hm with hm | hm
      · exact (fun k r' o' hm => by
          simp at hm
          obtain ⟨rfl, rfl, rfl⟩ := hm
          exact h0.cell) k r' o' hm
      rcases List.mem_append.1 hm with hm | hm
      · exact (fun k r' o' hm => by
          simp at hm
          obtain ⟨rfl, rfl, rfl⟩ := hm
          exact h1.cell) k r' o' hm
      rcases List.mem_append.1 hm with hm | hm
      · exact (h2.cells fun _ _ _ h => PInt.cells h) k r' o' hm
      rcases List.mem_append.1 hm with hm | hm
      · exact (fun k r' o' hm => by
          simp at hm
          obtain ⟨rfl, rfl, rfl⟩ := hm
          exact h3.cell) k r' o' hm
      rcases List.mem_append.1 hm with hm | hm
      · exact (fun k r' o' hm => by
          simp at hm
          obtain ⟨rfl, rfl, rfl⟩ := hm
          exact h4.cell) k r' o' hm
      exact (h5.cells fun _ _ _ h => PCodeIns.cells h) k r' o' hm
theorem PLinkFun.pos {σ : Heap} {r o : Nat} {ls : List Leaf} (h : PLinkFun σ r o ls) : 1 ≤ ls.length := by
  obtain ⟨v2, l2, v5, l5, f0, f1, c2, f2, f3, f4, c5, f5, rfl⟩ := h
  simp
theorem markLinkFunS_lv {σ0 σ : Heap} {n : Nat} {A : List Leaf} {v : V} {lss : List (List Leaf)} (s : Shp σ0 (wrs σ n A)) (h : LvS 6 (PLinkFun σ0) σ0 v lss) (h1 : 1 ≤ n) (h2 : n + A.length + lss.flatten.length ≤ 1099511627776) : Runs G n_laws_markLinkFunS [v, .int .i64 ((n + A.length : Nat) : Int)] (wrs σ n A) (.int .i64 ((n + (A ++ lss.flatten).length : Nat) : Int)) (wrs σ n (A ++ lss.flatten)) ∧ Shp σ0 (wrs σ n (A ++ lss.flatten)) := by
  suffices hE : HM.Ends G n_laws_markLinkFunS [v, .int .i64 ((n + A.length : Nat) : Int)] (wrs σ n A) (fun w σ' => w = .int .i64 ((n + (A ++ lss.flatten).length : Nat) : Int) ∧ σ' = wrs σ n (A ++ lss.flatten) ∧ Shp σ0 σ') by
    obtain ⟨w, σ', ⟨rfl, rfl, hs⟩, hr⟩ := hE
    exact ⟨hr, hs⟩
  have hlen : lss.length ≤ 4611686018427387904 := h.len_le (by omega) fun r o ls h => by
      have := PLinkFun.pos h
      omega
  refine HM.Ends.mk (W.to (fun k _ => laws_markLinkFunS.eq k _ _ _) ?_)
  generalize hG : (fun (w : V) (σ' : Heap) => w = .int .i64 ((n + (A ++ lss.flatten).length : Nat) : Int) ∧ σ' = wrs σ n (A ++ lss.flatten) ∧ Shp σ0 σ') = Good
  rw [← List.append_nil A]
  refine W.loop (S := Nat) (fun i => i ≤ lss.length ∧ Shp σ0 (wrs σ n (A ++ (lss.take i).flatten))) (fun i => [.v v, .v (.int .i64 ((n + (A ++ (lss.take i).flatten).length : Nat) : Int)), .v (.int .i64 (i : Int))]) (fun i => wrs σ n (A ++ (lss.take i).flatten)) (fun i => lss.length - i) (fun i ⟨hi', sB⟩ => ?_)
    0 ⟨Nat.zero_le _, by simpa using s⟩
  refine W.to (fun k _ => by rw [laws_markLinkFunS.L0_step]) ?_
  refine B.bind h.vlen (B.ite (fun hlt => ?_) fun hlt => ?_)
  rotate_left
  · rw [List.take_of_length_le (by omega)] at sB ⊢
    try simp only [q_bind_some, castInt_int, q_castBool, q_castStr, q_castPtr, q_castFn, q_castAgg, q_castTuple, q_uncons, q_isNil, q_sl, q_nils, q_emp, q_ptr, q_nilp, q_fn, q_cond_true, q_cond_false, Bool.not_true, Bool.not_false, decide_true, decide_false, List.cons_append, List.nil_append, laws_markLinkFunS.A0_x0]
    subst hG
    exact W.ret ⟨rfl, rfl, sB⟩
  have hil : i < lss.length := by omega
  have hx : lss[i]? = some lss[i] := List.getElem?_eq_getElem hil
  have hnext := flat_next hx
  have hle := flat_le hx
  generalize lss[i] = ls at hx hnext hle
  have hw0 := wrap_next hil hlen
  have hnx : A ++ (lss.take (i + 1)).flatten = (A ++ (lss.take i).flatten) ++ ls := by rw [hnext, List.append_assoc]
  have hBl : (A ++ (lss.take i).flatten).length = A.length + (lss.take i).flatten.length := List.length_append
  generalize A ++ (lss.take i).flatten = B0 at sB hnx hBl ⊢
  obtain ⟨r, o, hv, hP⟩ := h.at hx
  obtain ⟨v2, l2, v5, l5, f0, f1, c2, f2, f3, f4, c5, f5, rfl⟩ := hP
  simp only [List.length_append, List.length_cons, List.length_nil] at hle
  have e0 : (B0 ++ [(MK.s, r, o + 0)]).length = B0.length + 1 := List.length_append
  try try simp only [q_bind_some, castInt_int, q_castBool, q_castStr, q_castPtr, q_castFn, q_castAgg, q_castTuple, q_uncons, q_isNil, q_sl, q_nils, q_emp, q_ptr, q_nilp, q_fn, q_cond_true, q_cond_false, Bool.not_true, Bool.not_false, decide_true, decide_false, List.cons_append, List.nil_append, hv]
  refine B.run (markText_runs (wrs σ n B0) (n := n + B0.length) (by omega) (by omega)) ?_
  try simp only [q_bind_some, castInt_int, q_castBool, q_castStr, q_castPtr, q_castFn, q_castAgg, q_castTuple, q_uncons, q_isNil, q_sl, q_nils, q_emp, q_ptr, q_nilp, q_fn, q_cond_true, q_cond_false, Bool.not_true, Bool.not_false, decide_true, decide_false, List.cons_append, List.nil_append]
  obtain ⟨p0, s0⟩ := put_s sB f0
  have x0 := nx (n := n) (A := B0) (MK.s, r, o + 0) (by omega)
  try simp only [q_bind_some, castInt_int, q_castBool, q_castStr, q_castPtr, q_castFn, q_castAgg, q_castTuple, q_uncons, q_isNil, q_sl, q_nils, q_emp, q_ptr, q_nilp, q_fn, q_cond_true, q_cond_false, Bool.not_true, Bool.not_false, decide_true, decide_false, List.cons_append, List.nil_append, hv, p0, x0]
  generalize hb0 : B0 ++ [(MK.s, r, o + 0)] = B1 at *
  have e1 : (B1 ++ [(MK.s, r, o + 1)]).length = B1.length + 1 := List.length_append
  try try simp only [q_bind_some, castInt_int, q_castBool, q_castStr, q_castPtr, q_castFn, q_castAgg, q_castTuple, q_uncons, q_isNil, q_sl, q_nils, q_emp, q_ptr, q_nilp, q_fn, q_cond_true, q_cond_false, Bool.not_true, Bool.not_false, decide_true, decide_false, List.cons_append, List.nil_append, hv, p0, x0]
  refine B.run (markText_runs (wrs σ n B1) (n := n + B1.length) (by omega) (by omega)) ?_
  try simp only [q_bind_some, castInt_int, q_castBool, q_castStr, q_castPtr, q_castFn, q_castAgg, q_castTuple, q_uncons, q_isNil, q_sl, q_nils, q_emp, q_ptr, q_nilp, q_fn, q_cond_true, q_cond_false, Bool.not_true, Bool.not_false, decide_true, decide_false, List.cons_append, List.nil_append]
  obtain ⟨p1, s1⟩ := put_s s0 f1
  have x1 := nx (n := n) (A := B1) (MK.s, r, o + 1) (by omega)
  try simp only [q_bind_some, castInt_int, q_castBool, q_castStr, q_castPtr, q_castFn, q_castAgg, q_castTuple, q_uncons, q_isNil, q_sl, q_nils, q_emp, q_ptr, q_nilp, q_fn, q_cond_true, q_cond_false, Bool.not_true, Bool.not_false, decide_true, decide_false, List.cons_append, List.nil_append, hv, p1, x1]
  generalize hb1 : B1 ++ [(MK.s, r, o + 1)] = B2 at *
  have e2 : (B2 ++ l2.flatten).length = B2.length + l2.flatten.length := List.length_append
  have q2 := rdc_cell (c2.shp s1).1
  try simp only [q_bind_some, castInt_int, q_castBool, q_castStr, q_castPtr, q_castFn, q_castAgg, q_castTuple, q_uncons, q_isNil, q_sl, q_nils, q_emp, q_ptr, q_nilp, q_fn, q_cond_true, q_cond_false, Bool.not_true, Bool.not_false, decide_true, decide_false, List.cons_append, List.nil_append, hv, q2]
  obtain ⟨g2, s2⟩ := markIntS_lv (A := B2) s1 f2 h1 (by omega)
  refine B.run g2 ?_
  try simp only [q_bind_some, castInt_int, q_castBool, q_castStr, q_castPtr, q_castFn, q_castAgg, q_castTuple, q_uncons, q_isNil, q_sl, q_nils, q_emp, q_ptr, q_nilp, q_fn, q_cond_true, q_cond_false, Bool.not_true, Bool.not_false, decide_true, decide_false, List.cons_append, List.nil_append]
  generalize hb2 : B2 ++ l2.flatten = B3 at *
  have e3 : (B3 ++ [(MK.i, r, o + 3)]).length = B3.length + 1 := List.length_append
  obtain ⟨p3, s3⟩ := put_i s2 f3
  have x3 := nx (n := n) (A := B3) (MK.i, r, o + 3) (by omega)
  try simp only [q_bind_some, castInt_int, q_castBool, q_castStr, q_castPtr, q_castFn, q_castAgg, q_castTuple, q_uncons, q_isNil, q_sl, q_nils, q_emp, q_ptr, q_nilp, q_fn, q_cond_true, q_cond_false, Bool.not_true, Bool.not_false, decide_true, decide_false, List.cons_append, List.nil_append, hv, p3, x3]
  generalize hb3 : B3 ++ [(MK.i, r, o + 3)] = B4 at *
  have e4 : (B4 ++ [(MK.i, r, o + 4)]).length = B4.length + 1 := List.length_append
  obtain ⟨p4, s4⟩ := put_i s3 f4
  have x4 := nx (n := n) (A := B4) (MK.i, r, o + 4) (by omega)
  try simp only [q_bind_some, castInt_int, q_castBool, q_castStr, q_castPtr, q_castFn, q_castAgg, q_castTuple, q_uncons, q_isNil, q_sl, q_nils, q_emp, q_ptr, q_nilp, q_fn, q_cond_true, q_cond_false, Bool.not_true, Bool.not_false, decide_true, decide_false, List.cons_append, List.nil_append, hv, p4, x4]
  generalize hb4 : B4 ++ [(MK.i, r, o + 4)] = B5 at *
  have e5 : (B5 ++ l5.flatten).length = B5.length + l5.flatten.length := List.length_append
  have q5 := rdc_cell (c5.shp s4).1
  try simp only [q_bind_some, castInt_int, q_castBool, q_castStr, q_castPtr, q_castFn, q_castAgg, q_castTuple, q_uncons, q_isNil, q_sl, q_nils, q_emp, q_ptr, q_nilp, q_fn, q_cond_true, q_cond_false, Bool.not_true, Bool.not_false, decide_true, decide_false, List.cons_append, List.nil_append, hv, q5]
  obtain ⟨g5, s5⟩ := markCodeInsS_lv (A := B5) s4 f5 h1 (by omega)
  refine B.run g5 ?_
  try simp only [q_bind_some, castInt_int, q_castBool, q_castStr, q_castPtr, q_castFn, q_castAgg, q_castTuple, q_uncons, q_isNil, q_sl, q_nils, q_emp, q_ptr, q_nilp, q_fn, q_cond_true, q_cond_false, Bool.not_true, Bool.not_false, decide_true, decide_false, List.cons_append, List.nil_append]
  generalize hb5 : B5 ++ l5.flatten = B6 at *
  have hfin : A ++ (lss.take (i + 1)).flatten = B6 := by
      rw [hnx, ← hb5, ← hb4, ← hb3, ← hb2, ← hb1, ← hb0]
      try simp only [List.append_assoc]
  refine W.again (i + 1) ⟨by omega, by rw [hfin]; exact s5⟩ (by omega) (by rw [hfin, hw0]) (by rw [hfin])
theorem heldLinkFunS_lv {σ0 σ : Heap} {n : Nat} {v : V} {lss : List (List Leaf)} (s : Shp σ0 σ) (h : LvS 6 (PLinkFun σ0) σ0 v lss) (hm : HeldAt σ n lss.flatten) (h1 : 1 ≤ n) (h2 : n + lss.flatten.length ≤ 1099511627776) : Runs G n_laws_heldLinkFunS [v, .int .i64 (n : Int)] σ (.int .i64 ((n + lss.flatten.length : Nat) : Int)) σ := by
  have hlen : lss.length ≤ 4611686018427387904 := h.len_le (by omega) fun r o ls h => by
      have := PLinkFun.pos h
      omega
  refine Runs.of (W.to (fun k _ => laws_heldLinkFunS.eq k _ _ _) ?_)
  refine W.loop (S := Nat) (fun i => i ≤ lss.length) (fun i => [.v v, .v (.int .i64 ((n + (lss.take i).flatten.length : Nat) : Int)), .v (.int .i64 (i : Int))]) (fun i => σ) (fun i => lss.length - i) (fun i hi' => ?_) 0 (Nat.zero_le _)
  refine W.to (fun k _ => by rw [laws_heldLinkFunS.L0_step]) ?_
  refine B.bind h.vlen (B.ite (fun hlt => ?_) fun hlt => ?_)
  rotate_left
  · rw [List.take_of_length_le (by omega)]
    try simp only [q_bind_some, castInt_int, q_castBool, q_castStr, q_castPtr, q_castFn, q_castAgg, q_castTuple, q_uncons, q_isNil, q_sl, q_nils, q_emp, q_ptr, q_nilp, q_fn, q_cond_true, q_cond_false, Bool.not_true, Bool.not_false, decide_true, decide_false, List.cons_append, List.nil_append, laws_heldLinkFunS.A0_x0]
    exact W.ret ⟨rfl, rfl⟩
  have hil : i < lss.length := by omega
  have hx : lss[i]? = some lss[i] := List.getElem?_eq_getElem hil
  have hnext := flat_next hx
  have hle := flat_le hx
  obtain ⟨rest, hcut⟩ := flat_cut hx
  generalize lss[i] = ls at hx hnext hle hcut
  have hw0 := wrap_next hil hlen
  have hh := (hcut ▸ hm : HeldAt σ n ((lss.take i).flatten ++ (ls ++ rest))).app.2.app.1
  obtain ⟨r, o, hv, hP⟩ := h.at hx
  obtain ⟨v2, l2, v5, l5, f0, f1, c2, f2, f3, f4, c5, f5, rfl⟩ := hP
  simp only [List.length_append, List.length_cons, List.length_nil] at hle hnext
  have hm0 : n + (lss.take i).flatten.length = n + (lss.take i).flatten.length := rfl
  generalize hq0 : n + (lss.take i).flatten.length = m0 at hh ⊢
  have z0 : n ≤ m0 := by omega
  have t0 := hh.app.1
  have u0 := hh.app.2
  have r0 := rdc_cell t0.one
  have r0 : rdc σ r (o + 0) 1 = some [.str (mText m0)] := r0
  try simp only [q_bind_some, castInt_int, q_castBool, q_castStr, q_castPtr, q_castFn, q_castAgg, q_castTuple, q_uncons, q_isNil, q_sl, q_nils, q_emp, q_ptr, q_nilp, q_fn, q_cond_true, q_cond_false, Bool.not_true, Bool.not_false, decide_true, decide_false, List.cons_append, List.nil_append, hv, r0]
  refine B.run (markText_runs (prot [r] σ) (n := m0) (by omega) (by omega)) ?_
  try simp only [q_bind_some, castInt_int, q_castBool, q_castStr, q_castPtr, q_castFn, q_castAgg, q_castTuple, q_uncons, q_isNil, q_sl, q_nils, q_emp, q_ptr, q_nilp, q_fn, q_cond_true, q_cond_false, Bool.not_true, Bool.not_false, decide_true, decide_false, List.cons_append, List.nil_append, decide_eq_true (rfl : mText m0 = mText m0), unprot0]
  generalize hq1 : m0 + [((MK.s, r, o + 0) : Leaf)].length = m1 at *
  have hq1 : m0 + 1 = m1 := hq1
  have w0 : IntKind.wrap .i64 ((m0 : Int) + 1) = (m1 : Int) := by rw [wrap_id (by omega) (by omega)]; omega
  try try simp only [q_bind_some, castInt_int, q_castBool, q_castStr, q_castPtr, q_castFn, q_castAgg, q_castTuple, q_uncons, q_isNil, q_sl, q_nils, q_emp, q_ptr, q_nilp, q_fn, q_cond_true, q_cond_false, Bool.not_true, Bool.not_false, decide_true, decide_false, List.cons_append, List.nil_append, w0]
  have t1 := u0.app.1
  have u1 := u0.app.2
  have r1 := rdc_cell t1.one
  have r1 : rdc σ r (o + 1) 1 = some [.str (mText m1)] := r1
  try simp only [q_bind_some, castInt_int, q_castBool, q_castStr, q_castPtr, q_castFn, q_castAgg, q_castTuple, q_uncons, q_isNil, q_sl, q_nils, q_emp, q_ptr, q_nilp, q_fn, q_cond_true, q_cond_false, Bool.not_true, Bool.not_false, decide_true, decide_false, List.cons_append, List.nil_append, hv, r1]
  refine B.run (markText_runs (prot [r] σ) (n := m1) (by omega) (by omega)) ?_
  try simp only [q_bind_some, castInt_int, q_castBool, q_castStr, q_castPtr, q_castFn, q_castAgg, q_castTuple, q_uncons, q_isNil, q_sl, q_nils, q_emp, q_ptr, q_nilp, q_fn, q_cond_true, q_cond_false, Bool.not_true, Bool.not_false, decide_true, decide_false, List.cons_append, List.nil_append, decide_eq_true (rfl : mText m1 = mText m1), unprot0]
  generalize hq2 : m1 + [((MK.s, r, o + 1) : Leaf)].length = m2 at *
  have hq2 : m1 + 1 = m2 := hq2
  have w1 : IntKind.wrap .i64 ((m1 : Int) + 1) = (m2 : Int) := by rw [wrap_id (by omega) (by omega)]; omega
  try try simp only [q_bind_some, castInt_int, q_castBool, q_castStr, q_castPtr, q_castFn, q_castAgg, q_castTuple, q_uncons, q_isNil, q_sl, q_nils, q_emp, q_ptr, q_nilp, q_fn, q_cond_true, q_cond_false, Bool.not_true, Bool.not_false, decide_true, decide_false, List.cons_append, List.nil_append, w1]
  have t2 := u1.app.1
  have u2 := u1.app.2
  have r2 := rdc_cell (c2.shp s).1
  try simp only [q_bind_some, castInt_int, q_castBool, q_castStr, q_castPtr, q_castFn, q_castAgg, q_castTuple, q_uncons, q_isNil, q_sl, q_nils, q_emp, q_ptr, q_nilp, q_fn, q_cond_true, q_cond_false, Bool.not_true, Bool.not_false, decide_true, decide_false, List.cons_append, List.nil_append, hv, r2]
  refine B.run (heldIntS_lv s f2 t2 (by omega) (by omega)) ?_
  try simp only [q_bind_some, castInt_int, q_castBool, q_castStr, q_castPtr, q_castFn, q_castAgg, q_castTuple, q_uncons, q_isNil, q_sl, q_nils, q_emp, q_ptr, q_nilp, q_fn, q_cond_true, q_cond_false, Bool.not_true, Bool.not_false, decide_true, decide_false, List.cons_append, List.nil_append, decide_eq_false (show ¬ ((m2 + l2.flatten.length : Nat) : Int) < 0 by omega)]
  generalize hq3 : m2 + l2.flatten.length = m3 at *
  have t3 := u2.app.1
  have u3 := u2.app.2
  have r3 := rdc_cell t3.one
  have r3 : rdc σ r (o + 3) 1 = some [.int .i64 (m3 : Int)] := r3
  try simp only [q_bind_some, castInt_int, q_castBool, q_castStr, q_castPtr, q_castFn, q_castAgg, q_castTuple, q_uncons, q_isNil, q_sl, q_nils, q_emp, q_ptr, q_nilp, q_fn, q_cond_true, q_cond_false, Bool.not_true, Bool.not_false, decide_true, decide_false, List.cons_append, List.nil_append, hv, r3]
  try simp only [q_bind_some, castInt_int, q_castBool, q_castStr, q_castPtr, q_castFn, q_castAgg, q_castTuple, q_uncons, q_isNil, q_sl, q_nils, q_emp, q_ptr, q_nilp, q_fn, q_cond_true, q_cond_false, Bool.not_true, Bool.not_false, decide_true, decide_false, List.cons_append, List.nil_append, decide_eq_true (rfl : (m3 : Int) = (m3 : Int))]
  generalize hq4 : m3 + [((MK.i, r, o + 3) : Leaf)].length = m4 at *
  have hq4 : m3 + 1 = m4 := hq4
  have w3 : IntKind.wrap .i64 ((m3 : Int) + 1) = (m4 : Int) := by rw [wrap_id (by omega) (by omega)]; omega
  try try simp only [q_bind_some, castInt_int, q_castBool, q_castStr, q_castPtr, q_castFn, q_castAgg, q_castTuple, q_uncons, q_isNil, q_sl, q_nils, q_emp, q_ptr, q_nilp, q_fn, q_cond_true, q_cond_false, Bool.not_true, Bool.not_false, decide_true, decide_false, List.cons_append, List.nil_append, w3]
  have t4 := u3.app.1
  have u4 := u3.app.2
  have r4 := rdc_cell t4.one
  have r4 : rdc σ r (o + 4) 1 = some [.int .i64 (m4 : Int)] := r4
  try simp only [q_bind_some, castInt_int, q_castBool, q_castStr, q_castPtr, q_castFn, q_castAgg, q_castTuple, q_uncons, q_isNil, q_sl, q_nils, q_emp, q_ptr, q_nilp, q_fn, q_cond_true, q_cond_false, Bool.not_true, Bool.not_false, decide_true, decide_false, List.cons_append, List.nil_append, hv, r4]
  try simp only [q_bind_some, castInt_int, q_castBool, q_castStr, q_castPtr, q_castFn, q_castAgg, q_castTuple, q_uncons, q_isNil, q_sl, q_nils, q_emp, q_ptr, q_nilp, q_fn, q_cond_true, q_cond_false, Bool.not_true, Bool.not_false, decide_true, decide_false, List.cons_append, List.nil_append, decide_eq_true (rfl : (m4 : Int) = (m4 : Int))]
  generalize hq5 : m4 + [((MK.i, r, o + 4) : Leaf)].length = m5 at *
  have hq5 : m4 + 1 = m5 := hq5
  have w4 : IntKind.wrap .i64 ((m4 : Int) + 1) = (m5 : Int) := by rw [wrap_id (by omega) (by omega)]; omega
  try try simp only [q_bind_some, castInt_int, q_castBool, q_castStr, q_castPtr, q_castFn, q_castAgg, q_castTuple, q_uncons, q_isNil, q_sl, q_nils, q_emp, q_ptr, q_nilp, q_fn, q_cond_true, q_cond_false, Bool.not_true, Bool.not_false, decide_true, decide_false, List.cons_append, List.nil_append, w4]
  have t5 := u4
  have r5 := rdc_cell (c5.shp s).1
  try simp only [q_bind_some, castInt_int, q_castBool, q_castStr, q_castPtr, q_castFn, q_castAgg, q_castTuple, q_uncons, q_isNil, q_sl, q_nils, q_emp, q_ptr, q_nilp, q_fn, q_cond_true, q_cond_false, Bool.not_true, Bool.not_false, decide_true, decide_false, List.cons_append, List.nil_append, hv, r5]
  refine B.run (heldCodeInsS_lv s f5 t5 (by omega) (by omega)) ?_
  try simp only [q_bind_some, castInt_int, q_castBool, q_castStr, q_castPtr, q_castFn, q_castAgg, q_castTuple, q_uncons, q_isNil, q_sl, q_nils, q_emp, q_ptr, q_nilp, q_fn, q_cond_true, q_cond_false, Bool.not_true, Bool.not_false, decide_true, decide_false, List.cons_append, List.nil_append, decide_eq_false (show ¬ ((m5 + l5.flatten.length : Nat) : Int) < 0 by omega)]
  generalize hq6 : m5 + l5.flatten.length = m6 at *
  have hfin : n + (lss.take (i + 1)).flatten.length = m6 := by rw [hnext]; simp only [List.length_append, List.length_cons, List.length_nil]; omega
  exact W.again (i + 1) (show i + 1 ≤ lss.length by omega) (by omega) (by rw [hfin, hw0]) rfl
end Go.F

/- Values with their rows, and the places of their marks. -/
set_option linter.unusedVariables false
set_option linter.unusedSimpArgs false
namespace Go.F
open Go.HM Go.Proofs
def RInt (σ : Heap) (cs : List V) (x : Int) (R : List Nat) : Prop := cs = [.int .i64 x] ∧ R = []
theorem RInt.keep {σ σ' : Heap} (cs : List V) (x : Int) (R : List Nat) (h : RInt σ cs x R) (_ : ∀ j, j ∈ R → σ'[j]? = σ[j]?) : RInt σ' cs x R := h
theorem RInt.le {σ σ' : Heap} (hl : Lh σ σ') (cs : List V) (x : Int) (R : List Nat) (h : RInt σ cs x R) : RInt σ' cs x R := h
theorem RInt.lt {σ : Heap} (cs : List V) (x : Int) (R : List Nat) (h : RInt σ cs x R) : ∀ j, j ∈ R → j < σ.length := fun j hj => by
  rw [h.2] at hj
  cases hj
theorem RInt.rep {σ : Heap} (cs : List V) (x : Int) (R : List Nat) (h : RInt σ cs x R) : IntRep cs x := h.1
theorem RInt.lv {σ : Heap} (r o : Nat) (cs : List V) (x : Int) (R : List Nat) (hw : ∃ row, σ[r]? = some (some row) ∧ row.ro = false) (hr : rdc σ r o 1 = some cs) (h : RInt σ cs x R) (hn : R.Nodup) (hrn : r ∉ R) : ∃ ls, PInt σ r o ls ∧ LOk r o (o + 1) R ls ∧ ls.length ≤ 8 := by
  obtain ⟨rfl, rfl⟩ := h
  exact ⟨_, ⟨fl_of (f := 0) (x := .int .i64 x) hw hr rfl rfl, rfl⟩, LOk.one _ _ _, by simp⟩
theorem PInt.of {σ : Heap} (r o : Nat) (cs : List V) (x : Int) (hw : ∃ row, σ[r]? = some (some row) ∧ row.ro = false) (hr : rdc σ r o 1 = some cs) (h : IntRep cs x) : ∃ ls, PInt σ r o ls ∧ ls.length ≤ 8 := by
  unfold IntRep at h
  subst h
  exact ⟨_, ⟨fl_of (f := 0) (x := .int .i64 x) hw hr rfl rfl, rfl⟩, by simp⟩
def CodeIns.wt (x : CodeIns) : Nat := 0
theorem CodeIns.wt_le (x : CodeIns) : x.wt ≤ x.total := by
  unfold CodeIns.wt
  rw [CodeIns.total_eq]
  omega
def RCodeIns (σ : Heap) (cs : List V) (x : CodeIns) (R : List Nat) : Prop := cs = [.int .i64 x.op, .int .i64 x.a] ∧ R = []
theorem RCodeIns.keep {σ σ' : Heap} (cs : List V) (x : CodeIns) (R : List Nat) (h : RCodeIns σ cs x R) (hk : ∀ j, j ∈ R → σ'[j]? = σ[j]?) : RCodeIns σ' cs x R := by
  obtain ⟨rfl, rfl⟩ := h
  exact ⟨rfl, rfl⟩
theorem RCodeIns.le {σ σ' : Heap} (hl : Lh σ σ') (cs : List V) (x : CodeIns) (R : List Nat) (h : RCodeIns σ cs x R) : RCodeIns σ' cs x R := by
  obtain ⟨rfl, rfl⟩ := h
  exact ⟨rfl, rfl⟩
theorem RCodeIns.lt {σ : Heap} (cs : List V) (x : CodeIns) (R : List Nat) (h : RCodeIns σ cs x R) : ∀ j, j ∈ R → j < σ.length := fun j hj => by
  obtain ⟨rfl, rfl⟩ := h
  cases hj
theorem RCodeIns.rep {σ : Heap} (cs : List V) (x : CodeIns) (R : List Nat) (h : RCodeIns σ cs x R) : CodeIns.Rep σ cs x := by
  obtain ⟨rfl, rfl⟩ := h
  exact .mk
theorem RCodeIns.len {σ : Heap} {cs : List V} {x : CodeIns} {R : List Nat} (h : RCodeIns σ cs x R) : cs.length = 2 := by
  obtain ⟨rfl, rfl⟩ := h
  rfl
theorem RCodeIns.lv {σ : Heap} (r o : Nat) (cs : List V) (x : CodeIns) (R : List Nat) (hw : ∃ row, σ[r]? = some (some row) ∧ row.ro = false) (hr : rdc σ r o 2 = some cs) (h : RCodeIns σ cs x R) (hn : R.Nodup) (hrn : r ∉ R) : ∃ ls, PCodeIns σ r o ls ∧ LOk r o (o + 2) R ls ∧ ls.length ≤ 8 + 8 * x.wt := by
  obtain ⟨rfl, rfl⟩ := h
  refine ⟨_, ⟨fl_of (f := 0) (x := .int .i64 x.op) hw hr rfl rfl, fl_of (f := 1) (x := .int .i64 x.a) hw hr rfl rfl, rfl⟩, ?_, ?_⟩
  · refine LOk.app (m := o + 1) (R1 := []) (R2 := []) (LOk.one _ r (o + 0)) ?_ (by omega) (by omega) hn hrn
    exact LOk.one _ r (o + 1)
  · unfold CodeIns.wt
    simp only [List.length_append, List.length_cons, List.length_nil]
    omega
theorem PCodeIns.of {σ : Heap} (r o : Nat) (cs : List V) (x : CodeIns) (hw : ∀ (r : Nat) row, σ[r]? = some (some row) → row.ro = false) (hr : rdc σ r o 2 = some cs) (h : CodeIns.Rep σ cs x) : ∃ ls, PCodeIns σ r o ls ∧ ls.length ≤ 8 + 8 * x.total := by
  obtain ⟨row0, hrow0, _, _⟩ := rdc_some hr
  have hw0 : ∃ row, σ[r]? = some (some row) ∧ row.ro = false := ⟨row0, hrow0, hw r row0 hrow0⟩
  cases h with
  | mk =>
  refine ⟨_, ⟨fl_of (f := 0) (x := .int .i64 x.op) hw0 hr rfl rfl, fl_of (f := 1) (x := .int .i64 x.a) hw0 hr rfl rfl, rfl⟩, ?_⟩
  rw [CodeIns.total_eq]
  simp only [List.length_append, List.length_cons, List.length_nil]
  omega
def LinkFun.wt (x : LinkFun) : Nat := 0 + x.args.length + x.code.length + totS CodeIns.wt x.code
theorem LinkFun.wt_le (x : LinkFun) : x.wt ≤ x.total := by
  unfold LinkFun.wt
  rw [LinkFun.total_eq]
  have h5 := totS_mono CodeIns.wt_le x.code
  omega
def RLinkFun (σ : Heap) (cs : List V) (x : LinkFun) (R : List Nat) : Prop := ∃ (v2 : V) (R2 : List Nat) (v5 : V) (R5 : List Nat), cs = [.str x.mod, .str x.name, v2, .int .i64 x.type, .int .i64 x.slots, v5] ∧ RepR 1 (RInt σ) σ v2 x.args R2 ∧ RepR 2 (RCodeIns σ) σ v5 x.code R5 ∧ R = (R2 ++ R5)
theorem RLinkFun.keep {σ σ' : Heap} (cs : List V) (x : LinkFun) (R : List Nat) (h : RLinkFun σ cs x R) (hk : ∀ j, j ∈ R → σ'[j]? = σ[j]?) : RLinkFun σ' cs x R := by
  obtain ⟨v2, R2, v5, R5, rfl, h2, h5, rfl⟩ := h
  exact ⟨v2, R2, v5, R5, rfl, h2.keep (fun j hj => hk j (List.mem_append_left _ hj)) (fun cs x R h k => RInt.keep cs x R h k), h5.keep (fun j hj => hk j (List.mem_append_right _ hj)) (fun cs x R h k => RCodeIns.keep cs x R h k), rfl⟩
theorem RLinkFun.le {σ σ' : Heap} (hl : Lh σ σ') (cs : List V) (x : LinkFun) (R : List Nat) (h : RLinkFun σ cs x R) : RLinkFun σ' cs x R := by
  obtain ⟨v2, R2, v5, R5, rfl, h2, h5, rfl⟩ := h
  exact ⟨v2, R2, v5, R5, rfl, h2.le hl (fun cs x R h => RInt.le hl cs x R h), h5.le hl (fun cs x R h => RCodeIns.le hl cs x R h), rfl⟩
theorem RLinkFun.lt {σ : Heap} (cs : List V) (x : LinkFun) (R : List Nat) (h : RLinkFun σ cs x R) : ∀ j, j ∈ R → j < σ.length := fun j hj => by
  obtain ⟨v2, R2, v5, R5, rfl, h2, h5, rfl⟩ := h
  rcases List.mem_append.1 hj with hj | hj
  · exact h2.lt (RInt.lt) j hj
  exact h5.lt (RCodeIns.lt) j hj
theorem RLinkFun.rep {σ : Heap} (cs : List V) (x : LinkFun) (R : List Nat) (h : RLinkFun σ cs x R) : LinkFun.Rep σ cs x := by
  obtain ⟨v2, R2, v5, R5, rfl, h2, h5, rfl⟩ := h
  exact .mk (h2.rep fun cs y R _ h => RInt.rep cs y R h) (h5.rep fun cs y R _ h => RCodeIns.rep cs y R h)
theorem RLinkFun.len {σ : Heap} {cs : List V} {x : LinkFun} {R : List Nat} (h : RLinkFun σ cs x R) : cs.length = 6 := by
  obtain ⟨v2, R2, v5, R5, rfl, h2, h5, rfl⟩ := h
  rfl
theorem RLinkFun.lv {σ : Heap} (r o : Nat) (cs : List V) (x : LinkFun) (R : List Nat) (hw : ∃ row, σ[r]? = some (some row) ∧ row.ro = false) (hr : rdc σ r o 6 = some cs) (h : RLinkFun σ cs x R) (hn : R.Nodup) (hrn : r ∉ R) : ∃ ls, PLinkFun σ r o ls ∧ LOk r o (o + 6) R ls ∧ ls.length ≤ 8 + 8 * x.wt := by
  obtain ⟨v2, R2, v5, R5, rfl, h2, h5, rfl⟩ := h
  have n2 := (nodup_sub (c := []) hn).1
  have m2 := (nodup_sub (c := []) hn).2.1
  obtain ⟨l2, k2, o2, b2⟩ := h2.lv (P := PInt σ) (c := (fun _ => 8)) n2 (fun r o cs x R hw hr hq hn hrn => RInt.lv r o cs x R hw hr hq hn hrn)
  rw [totS_eight] at b2
  have n5 := m2
  obtain ⟨l5, k5, o5, b5⟩ := h5.lv (P := PCodeIns σ) (c := (fun y => 8 + 8 * CodeIns.wt y)) n5 (fun r o cs x R hw hr hq hn hrn => RCodeIns.lv r o cs x R hw hr hq hn hrn)
  rw [totS_lin] at b5
  refine ⟨_, ⟨v2, l2, v5, l5, fl_of (f := 0) (x := .str x.mod) hw hr rfl trivial, fl_of (f := 1) (x := .str x.name) hw hr rfl trivial, cl_of (f := 2) (x := v2) hr rfl h2.isSl, k2, fl_of (f := 3) (x := .int .i64 x.type) hw hr rfl rfl, fl_of (f := 4) (x := .int .i64 x.slots) hw hr rfl rfl, cl_of (f := 5) (x := v5) hr rfl h5.isSl, k5, rfl⟩, ?_, ?_⟩
  · refine LOk.app (m := o + 1) (R1 := []) (R2 := (R2 ++ R5)) (LOk.one _ r (o + 0)) ?_ (by omega) (by omega) hn hrn
    refine LOk.app (m := o + 2) (R1 := []) (R2 := (R2 ++ R5)) (LOk.one _ r (o + 1)) ?_ (by omega) (by omega) hn hrn
    refine LOk.app (m := o + 3) (R1 := R2) (R2 := R5) (o2.field r (o + 2)) ?_ (by omega) (by omega) hn hrn
    replace hrn : r ∉ R5 := fun hc => hrn (List.mem_append_right _ hc)
    replace hn : (R5).Nodup := (nodup_sub (c := []) hn).2.1
    refine LOk.app (m := o + 4) (R1 := []) (R2 := R5) (LOk.one _ r (o + 3)) ?_ (by omega) (by omega) hn hrn
    refine LOk.app (m := o + 5) (R1 := []) (R2 := R5) (LOk.one _ r (o + 4)) ?_ (by omega) (by omega) hn hrn
    exact o5.field r (o + 5)
  · unfold LinkFun.wt
    simp only [List.length_append, List.length_cons, List.length_nil]
    omega
theorem PLinkFun.of {σ : Heap} (r o : Nat) (cs : List V) (x : LinkFun) (hw : ∀ (r : Nat) row, σ[r]? = some (some row) → row.ro = false) (hr : rdc σ r o 6 = some cs) (h : LinkFun.Rep σ cs x) : ∃ ls, PLinkFun σ r o ls ∧ ls.length ≤ 8 + 8 * x.total := by
  obtain ⟨row0, hrow0, _, _⟩ := rdc_some hr
  have hw0 : ∃ row, σ[r]? = some (some row) ∧ row.ro = false := ⟨row0, hrow0, hw r row0 hrow0⟩
  cases h with
  | mk h2 h5 =>
  obtain ⟨l2, k2, b2⟩ := h2.lv (P := PInt σ) (c := (fun _ => 8)) hw (fun r o cs x _ hw' hr hq => PInt.of r o cs x hw' hr hq)
  rw [totS_eight] at b2
  obtain ⟨l5, k5, b5⟩ := h5.lv (P := PCodeIns σ) (c := (fun y => 8 + 8 * CodeIns.total y)) hw (fun r o cs x _ hw' hr hq => PCodeIns.of r o cs x hw hr hq)
  rw [totS_lin] at b5
  refine ⟨_, ⟨_, l2, _, l5, fl_of (f := 0) (x := .str x.mod) hw0 hr rfl trivial, fl_of (f := 1) (x := .str x.name) hw0 hr rfl trivial, cl_of (f := 2) hr rfl h2.isSl, k2, fl_of (f := 3) (x := .int .i64 x.type) hw0 hr rfl rfl, fl_of (f := 4) (x := .int .i64 x.slots) hw0 hr rfl rfl, cl_of (f := 5) hr rfl h5.isSl, k5, rfl⟩, ?_⟩
  rw [LinkFun.total_eq]
  simp only [List.length_append, List.length_cons, List.length_nil]
  omega
end Go.F

/- Rows of one's own. -/
set_option linter.unusedVariables false
set_option linter.unusedSimpArgs false
namespace Go.F
open Go.HM Go.Proofs
/-- A list of numbers in a row of one's own. -/
structure Ow (σ σi : Heap) (v : V) (l : List Int) (R : List Nat) : Prop where
  r : RepR 1 (RInt σi) σi v l R
  a : At0 v
  nd : R.Nodup
  lo : ∀ j, j ∈ R → σ.length ≤ j
  le : Lh σ σi
theorem Ow.nils (σ : Heap) : Ow σ σ .nils [] [] := ⟨.nils, .inl rfl, List.nodup_nil, fun j hj => (List.not_mem_nil hj).elim, Lh.refl _⟩
theorem Ow.start (σ : Heap) : Ow σ (hnew σ 1 []) (.sl σ.length 0 0 true) [] [σ.length] :=
  ⟨.sl σ.length 0 0 true ⟨[], 1, false, 0⟩ [] [] rfl (by simp [hnew]) rfl rfl (by simp) rfl fun i x R hx => by simp at hx, .inr ⟨_, _, _, rfl⟩, by simp, fun j hj => by simp at hj; omega, Lh.new _ _ _⟩
theorem Ow.up {σ σi σ' : Heap} {v : V} {l : List Int} {R : List Nat} (h : Ow σ σi v l R) (hl : Lh σi σ') : Ow σ σ' v l R := ⟨h.r.le hl fun cs x R hq => hq, h.a, h.nd, h.lo, h.le.trans hl⟩
theorem Ow.down {σ0 σ σi : Heap} {v : V} {l : List Int} {R : List Nat} (h : Ow σ σi v l R) (h0 : Lh σ0 σ) : Ow σ0 σi v l R := ⟨h.r, h.a, h.nd, fun j hj => by have := h.lo j hj; have := h0.len; omega, h0.trans h.le⟩
theorem Ow.rep {σ σi : Heap} {v : V} {l : List Int} {R : List Nat} (h : Ow σ σi v l R) : RepS 1 IntRep σi v l := h.r.rep fun cs x R _ hq => RInt.rep cs x R hq
theorem Ow.add {σ σi : Heap} {v : V} {l : List Int} {R : List Nat} (h : Ow σ σi v l R) (n : Int) (hl : l.length ≤ 1048576) :
    ∃ v' σ' R', vappend 1 8 σi v 1 [.int .i64 n] = some (v', σ') ∧ Ow σ σ' v' (l ++ [n]) R' := by
  obtain ⟨v', σ', R', g1, g2, g3, g4, g5, g6, g7⟩ := h.r.app (bytes := 8) h.a (cs := [.int .i64 n]) (x := n) (Rx := []) ⟨rfl, rfl⟩ rfl (fun cs x R hq hk => RInt.keep cs x R hq hk) (fun cs x R hq => RInt.lt cs x R hq) (by simpa using h.nd) (by omega) (by omega)
  have hlen := h.le.len
  refine ⟨v', σ', R', g1, g2, g3, g4, fun j hj => ?_, ⟨by rw [g6]; omega, fun j row hj => ?_⟩⟩
  · rcases g5 j hj with hj | hj | hj
    · omega
    · exact h.lo j hj
    · cases hj
  · have hjl := get_lt hj
    rw [g7 j (by omega) fun hc => by have := h.lo j hc; omega]
    exact h.le.row _ _ hj
/-- As Ow.add, and what it leaves alone. -/
theorem Ow.add' {σ σi : Heap} {v : V} {l : List Int} {R : List Nat} (h : Ow σ σi v l R) (n : Int) (hl : l.length ≤ 2097152) :
    ∃ v' σ' R', vappend 1 8 σi v 1 [.int .i64 n] = some (v', σ') ∧ Ow σ σ' v' (l ++ [n]) R' ∧ (∀ j, j ∈ R' → j = σi.length ∨ j ∈ R) ∧ ∀ j, j < σi.length → j ∉ R → σ'[j]? = σi[j]? := by
  obtain ⟨v', σ', R', g1, g2, g3, g4, g5, g6, g7⟩ := h.r.app (bytes := 8) h.a (cs := [.int .i64 n]) (x := n) (Rx := []) ⟨rfl, rfl⟩ rfl (fun cs x R hq hk => RInt.keep cs x R hq hk) (fun cs x R hq => RInt.lt cs x R hq) (by simpa using h.nd) (by omega) (by omega)
  have hlen := h.le.len
  have g5' : ∀ j, j ∈ R' → j = σi.length ∨ j ∈ R := fun j hj => by
    rcases g5 j hj with hj | hj | hj
    · exact .inl hj
    · exact .inr hj
    · cases hj
  refine ⟨v', σ', R', g1, ⟨g2, g3, g4, fun j hj => ?_, ⟨by rw [g6]; omega, fun j row hj => ?_⟩⟩, g5', g7⟩
  · rcases g5' j hj with hj | hj
    · omega
    · exact h.lo j hj
  · have hjl := get_lt hj
    rw [g7 j (by omega) fun hc => by have := h.lo j hc; omega]
    exact h.le.row _ _ hj
end Go.F

/- Words of types read by the program and by the reference. -/
set_option linter.unusedVariables false
set_option linter.unusedSimpArgs false
namespace Go.F
open Go.HM Go.Proofs
theorem slices_Index_string_string_runs {σ : Heap} {v : V} {l : List ByteArray} (hf : l.length ≤ 1073741824) (h : RepS 1 StrRep σ v l) (s : ByteArray) : Runs G n_slices_Index_string_string [v, .str s] σ (.int .i64 (fidx (fun x => decide (s = x)) l)) σ := by
  refine Runs.of (W.to (fun k _ => slices_Index_string_string.eq k _ _ _) ?_)
  refine W.len h ?_
  refine W.loop (S := Nat) (fun i => i ≤ l.length ∧ ∀ (j : Nat) y, j < i → l[j]? = some y → decide (s = y) = false) (fun i => [.v v, .v (.str s), .v (.int .i64 (l.length : Int)), .v (.int .i64 (i : Int))]) (fun _ => σ) (fun i => l.length - i) (fun i ⟨hi, hok⟩ => ?_)
    0 ⟨Nat.zero_le _, fun j y hj => absurd hj (Nat.not_lt_zero _)⟩
  refine W.to (fun k _ => by rw [slices_Index_string_string.L0_step]) ?_
  try simp only [q_bind_some, Option.bind_assoc, castInt_int, q_castBool, q_castStr, q_castPtr, q_castFn, q_castAgg, q_castTuple, q_uncons, q_isNil, q_sl, q_nils, q_emp, q_ptr, q_nilp, q_fn, q_cond_true, q_cond_false, Bool.not_true, Bool.not_false, decide_true, decide_false, castInt_bind, castBool_bind, castStr_bind, castPtr_bind, castFn_bind, castAgg_bind, castTuple_bind, uncons_bind, isNil_bind, one_bind, cond_bind, ite_bind_, List.cons_append, List.nil_append]
  refine W.ite (fun hlt => ?_) fun hlt => ?_
  · refine W.at h (Lh.refl _) (by omega) fun r o cs x hx' hr hP => ?_
    unfold StrRep at hP
    subst hP
    try simp only [q_bind_some, Option.bind_assoc, castInt_int, q_castBool, q_castStr, q_castPtr, q_castFn, q_castAgg, q_castTuple, q_uncons, q_isNil, q_sl, q_nils, q_emp, q_ptr, q_nilp, q_fn, q_cond_true, q_cond_false, Bool.not_true, Bool.not_false, decide_true, decide_false, castInt_bind, castBool_bind, castStr_bind, castPtr_bind, castFn_bind, castAgg_bind, castTuple_bind, uncons_bind, isNil_bind, one_bind, cond_bind, ite_bind_, List.cons_append, List.nil_append, hr]
    refine W.ite (fun hs => ?_) fun hs => ?_
    · try simp only [q_bind_some, Option.bind_assoc, castInt_int, q_castBool, q_castStr, q_castPtr, q_castFn, q_castAgg, q_castTuple, q_uncons, q_isNil, q_sl, q_nils, q_emp, q_ptr, q_nilp, q_fn, q_cond_true, q_cond_false, Bool.not_true, Bool.not_false, decide_true, decide_false, castInt_bind, castBool_bind, castStr_bind, castPtr_bind, castFn_bind, castAgg_bind, castTuple_bind, uncons_bind, isNil_bind, one_bind, cond_bind, ite_bind_, List.cons_append, List.nil_append, slices_Index_string_string.A0_ret]
      exact W.ret ⟨by rw [fidx_at hx' (by simp [hs]) hok], rfl⟩
    · try simp only [q_bind_some, Option.bind_assoc, castInt_int, q_castBool, q_castStr, q_castPtr, q_castFn, q_castAgg, q_castTuple, q_uncons, q_isNil, q_sl, q_nils, q_emp, q_ptr, q_nilp, q_fn, q_cond_true, q_cond_false, Bool.not_true, Bool.not_false, decide_true, decide_false, castInt_bind, castBool_bind, castStr_bind, castPtr_bind, castFn_bind, castAgg_bind, castTuple_bind, uncons_bind, isNil_bind, one_bind, cond_bind, ite_bind_, List.cons_append, List.nil_append, wrap_next (show i < l.length by omega) (by omega)]
      refine W.again (i + 1) ⟨by omega, fun j y hj hy => ?_⟩ (by omega) rfl rfl
      by_cases hij : j = i
      · subst hij
        rw [hx'] at hy
        injection hy with hy
        rw [← hy]; simp [hs]
      · exact hok j y (by omega) hy
  · try simp only [q_bind_some, Option.bind_assoc, castInt_int, q_castBool, q_castStr, q_castPtr, q_castFn, q_castAgg, q_castTuple, q_uncons, q_isNil, q_sl, q_nils, q_emp, q_ptr, q_nilp, q_fn, q_cond_true, q_cond_false, Bool.not_true, Bool.not_false, decide_true, decide_false, castInt_bind, castBool_bind, castStr_bind, castPtr_bind, castFn_bind, castAgg_bind, castTuple_bind, uncons_bind, isNil_bind, one_bind, cond_bind, ite_bind_, List.cons_append, List.nil_append, slices_Index_string_string.A0_x0]
    exact W.ret ⟨by rw [fidx_none fun j y hy => hok j y (by have := lt_of_get hy; omega) hy], rfl⟩

theorem typeOf_runs {σ : Heap} (ht : TypeW σ) (s : ByteArray) : Runs G n_impl_typeOf [.str s] σ (.int .i64 (typeNo s)) σ := by
  refine Runs.of (W.to (fun k _ => impl_typeOf.eq k _ _) ?_)
  have hw : gwhole σ 1 0 3 1 = some (.sl 1 0 3 true) := by
    unfold gwhole
    rw [ht]
    rfl
  have hr : RepS 1 StrRep σ (.sl 1 0 3 true) [(⟨#[105, 110, 116]⟩ : ByteArray), ⟨#[98, 111, 111, 108]⟩, ⟨#[114, 111, 119]⟩] := by
    refine .sl _ 0 3 true _ _ rfl ht rfl (by decide) fun i x hx => ?_
    match i, hx with
    | 0, hx => injection hx with hx; subst hx; rfl
    | 1, hx => injection hx with hx; subst hx; rfl
    | 2, hx => injection hx with hx; subst hx; rfl
  refine W.bind hw ?_
  refine W.run (slices_Index_string_string_runs (by simp) hr s) ?_
  try simp only [q_bind_some, castInt_int, q_castBool, q_castStr, q_castPtr, q_castFn, q_castAgg, q_castTuple, q_uncons, q_isNil, q_sl, q_nils, q_emp, q_ptr, q_nilp, q_fn, q_cond_true, q_cond_false, Bool.not_true, Bool.not_false, decide_true, decide_false, List.cons_append, List.nil_append]
  unfold typeNo
  by_cases h1 : s = ⟨#[105, 110, 116]⟩
  · rw [if_pos h1]
    have : fidx (fun x => decide (s = x)) [(⟨#[105, 110, 116]⟩ : ByteArray), ⟨#[98, 111, 111, 108]⟩, ⟨#[114, 111, 119]⟩] = 0 := by simp [fidx, h1]
    try simp only [q_bind_some, castInt_int, q_castBool, q_castStr, q_castPtr, q_castFn, q_castAgg, q_castTuple, q_uncons, q_isNil, q_sl, q_nils, q_emp, q_ptr, q_nilp, q_fn, q_cond_true, q_cond_false, Bool.not_true, Bool.not_false, decide_true, decide_false, List.cons_append, List.nil_append, this, show decide ((0 : Int) < 0) = false from rfl]
    exact W.ret ⟨rfl, rfl⟩
  rw [if_neg h1]
  by_cases h2 : s = ⟨#[98, 111, 111, 108]⟩
  · rw [if_pos h2]
    have : fidx (fun x => decide (s = x)) [(⟨#[105, 110, 116]⟩ : ByteArray), ⟨#[98, 111, 111, 108]⟩, ⟨#[114, 111, 119]⟩] = 1 := by subst h2; simp [fidx]
    try simp only [q_bind_some, castInt_int, q_castBool, q_castStr, q_castPtr, q_castFn, q_castAgg, q_castTuple, q_uncons, q_isNil, q_sl, q_nils, q_emp, q_ptr, q_nilp, q_fn, q_cond_true, q_cond_false, Bool.not_true, Bool.not_false, decide_true, decide_false, List.cons_append, List.nil_append, this, show decide ((1 : Int) < 0) = false from rfl]
    exact W.ret ⟨rfl, rfl⟩
  rw [if_neg h2]
  by_cases h3 : s = ⟨#[114, 111, 119]⟩
  · rw [if_pos h3]
    have : fidx (fun x => decide (s = x)) [(⟨#[105, 110, 116]⟩ : ByteArray), ⟨#[98, 111, 111, 108]⟩, ⟨#[114, 111, 119]⟩] = 2 := by subst h3; simp [fidx]
    try simp only [q_bind_some, castInt_int, q_castBool, q_castStr, q_castPtr, q_castFn, q_castAgg, q_castTuple, q_uncons, q_isNil, q_sl, q_nils, q_emp, q_ptr, q_nilp, q_fn, q_cond_true, q_cond_false, Bool.not_true, Bool.not_false, decide_true, decide_false, List.cons_append, List.nil_append, this, show decide ((2 : Int) < 0) = false from rfl]
    exact W.ret ⟨rfl, rfl⟩
  rw [if_neg h3]
  have : fidx (fun x => decide (s = x)) [(⟨#[105, 110, 116]⟩ : ByteArray), ⟨#[98, 111, 111, 108]⟩, ⟨#[114, 111, 119]⟩] = -1 := by simp [fidx, h1, h2, h3]
  try simp only [q_bind_some, castInt_int, q_castBool, q_castStr, q_castPtr, q_castFn, q_castAgg, q_castTuple, q_uncons, q_isNil, q_sl, q_nils, q_emp, q_ptr, q_nilp, q_fn, q_cond_true, q_cond_false, Bool.not_true, Bool.not_false, decide_true, decide_false, List.cons_append, List.nil_append, this, show decide ((-1 : Int) < 0) = true from rfl]
  exact W.ret ⟨rfl, rfl⟩
theorem typeNo_cases (s : ByteArray) : (typeNo s = 0 ∧ ∀ n, IsT n → s ≠ tword n) ∨ (IsT (typeNo s) ∧ s = tword (typeNo s)) := by
  unfold typeNo
  split
  · exact .inr ⟨by unfold IsT; omega, by subst s; rfl⟩
  split
  · exact .inr ⟨by unfold IsT; omega, by subst s; rfl⟩
  split
  · exact .inr ⟨by unfold IsT; omega, by subst s; rfl⟩
  · rename_i h1 h2 h3
    refine .inl ⟨rfl, fun n hn hc => ?_⟩
    unfold IsT at hn
    have : n = 1 ∨ n = 2 ∨ n = 3 := by omega
    rcases this with rfl | rfl | rfl
    · exact h1 hc
    · exact h2 hc
    · exact h3 hc
theorem l3Kind_gives {σ : Heap} (s : ByteArray) : Gives G n_spec_l3Kind [.str s] σ (.int .i64 (typeNo s)) := by
  refine Gives.of (W.to (fun k _ => spec_l3Kind.eq k _ _) ?_)
  refine W.loop (S := Nat × Heap) (fun x => x.1 ≤ 3 ∧ Lh σ x.2 ∧ ∀ j : Nat, 1 ≤ j → j ≤ x.1 → tword (j : Int) ≠ s) (fun x => [.v (.str s), .v (.int .i64 ((x.1 + 1 : Nat) : Int))]) (fun x => x.2) (fun x => 4 - x.1) (fun ⟨i, σi⟩ ⟨hi, hl, hno⟩ => ?_)
    (0, σ) ⟨by show 0 ≤ 3; omega, Lh.refl _, fun j h1 h2 => by simp at h2; omega⟩
  simp only at hi hl hno ⊢
  refine W.to (fun k _ => by rw [spec_l3Kind.L0_step]) ?_
  refine B.ite (fun hlt => ?_) fun hlt => ?_
  · refine B.give (specTreeType_gives _ σi) fun σ1 l1 => ?_
    try simp only [q_bind_some, castInt_int, q_castBool, q_castStr, q_castPtr, q_castFn, q_castAgg, q_castTuple, q_uncons, q_isNil, q_sl, q_nils, q_emp, q_ptr, q_nilp, q_fn, q_cond_true, q_cond_false, Bool.not_true, Bool.not_false, decide_true, decide_false, List.cons_append, List.nil_append]
    by_cases hs : tword ((i + 1 : Nat) : Int) = s
    · have hT : IsT ((i + 1 : Nat) : Int) := by unfold IsT; omega
      try simp only [q_bind_some, castInt_int, q_castBool, q_castStr, q_castPtr, q_castFn, q_castAgg, q_castTuple, q_uncons, q_isNil, q_sl, q_nils, q_emp, q_ptr, q_nilp, q_fn, q_cond_true, q_cond_false, Bool.not_true, Bool.not_false, decide_true, decide_false, List.cons_append, List.nil_append, decide_eq_true hs, spec_l3Kind.A0_ret]
      refine W.ret ⟨?_, hl.trans l1⟩
      rw [← hs, typeNo_word hT]
    · try simp only [q_bind_some, castInt_int, q_castBool, q_castStr, q_castPtr, q_castFn, q_castAgg, q_castTuple, q_uncons, q_isNil, q_sl, q_nils, q_emp, q_ptr, q_nilp, q_fn, q_cond_true, q_cond_false, Bool.not_true, Bool.not_false, decide_true, decide_false, List.cons_append, List.nil_append, decide_eq_false hs, wrap_next (show i + 1 < 4 by omega) (by decide)]
      refine W.again (i + 1, σ1) ⟨by show i + 1 ≤ 3; omega, hl.trans l1, fun j h1 h2 => ?_⟩ (by simp only; omega) rfl rfl
      rcases Nat.lt_or_ge j (i + 1) with h | h
      · exact hno j h1 (by omega)
      · simp only at h2
        obtain rfl : j = i + 1 := by omega
        exact hs
  · try simp only [q_bind_some, castInt_int, q_castBool, q_castStr, q_castPtr, q_castFn, q_castAgg, q_castTuple, q_uncons, q_isNil, q_sl, q_nils, q_emp, q_ptr, q_nilp, q_fn, q_cond_true, q_cond_false, Bool.not_true, Bool.not_false, decide_true, decide_false, List.cons_append, List.nil_append, spec_l3Kind.A0_x0]
    refine W.ret ⟨?_, hl⟩
    obtain rfl : i = 3 := by omega
    rcases typeNo_cases s with ⟨h1, _⟩ | ⟨h1, h2⟩
    · rw [h1]
    · exfalso
      unfold IsT at h1
      have hn := hno (typeNo s).toNat (by omega) (by omega)
      rw [Int.toNat_of_nonneg (by omega)] at hn
      exact hn h2.symm
theorem ba_none (s : ByteArray) : s = ⟨#[]⟩ ↔ s.data.toList = [] := by
  constructor
  · intro h
    rw [h]
  · intro h
    rw [ba_self s, h]
    rfl
theorem srow_at {σ : Heap} {q : Nat} {lim : Bool} {ls : List (List UInt8)} (h : StrRow σ q (ls.map ba)) {i : Nat} {x : List UInt8} (hx : ls[i]? = some x) : ∃ r o, vidx 1 (.sl q 0 ls.length lim) (i : Int) = some (r, o) ∧ rdc σ r o 1 = some [.str (ba x)] := by
  have hr : RepS 1 StrRep σ (.sl q 0 (ls.map ba).length lim) (ls.map ba) := h.rep (fun _ => rfl) lim
  obtain ⟨r, o, hv, cs, hr, hP⟩ := hr.at' (i := i) (x := ba x) (by rw [List.getElem?_map, hx]; rfl)
  unfold StrRep at hP
  subst hP
  rw [List.length_map] at hv
  exact ⟨r, o, hv, hr⟩
theorem readTypes_ends {σ : Heap} (ht : TypeW σ) (hm : MaxV σ) (s : ByteArray) (hs : s.size ≤ 1048576) : HM.Ends G n_impl_readTypes [.str s] σ (fun w σ' => ∃ R, Ow σ σ' w (readT s.data.toList) R) := by
  refine HM.Ends.mk (W.to (fun k _ => impl_readTypes.eq k _ _) ?_)
  unfold readT
  by_cases h0 : s.data.toList = []
  · try simp only [q_bind_some, castInt_int, q_castBool, q_castStr, q_castPtr, q_castFn, q_castAgg, q_castTuple, q_uncons, q_isNil, q_sl, q_nils, q_emp, q_ptr, q_nilp, q_fn, q_cond_true, q_cond_false, Bool.not_true, Bool.not_false, decide_true, decide_false, List.cons_append, List.nil_append, decide_eq_true ((ba_none s).2 h0)]
    rw [if_pos h0]
    exact W.ret ⟨_, Ow.start σ⟩
  rw [if_neg h0]
  try simp only [q_bind_some, castInt_int, q_castBool, q_castStr, q_castPtr, q_castFn, q_castAgg, q_castTuple, q_uncons, q_isNil, q_sl, q_nils, q_emp, q_ptr, q_nilp, q_fn, q_cond_true, q_cond_false, Bool.not_true, Bool.not_false, decide_true, decide_false, List.cons_append, List.nil_append, decide_eq_false (fun h => h0 ((ba_none s).1 h))]
  have lN : Lh σ (hnew σ 1 []) := Lh.new _ _ _
  obtain ⟨σ0, c1, lS, hrow, hlen⟩ := split_runs (σ := hnew σ 1 []) (let ⟨m, e⟩ := hm; ⟨m, lN.row _ _ e⟩) s 44 hs
  refine W.run c1 ?_
  try simp only [q_bind_some, castInt_int, q_castBool, q_castStr, q_castPtr, q_castFn, q_castAgg, q_castTuple, q_uncons, q_isNil, q_sl, q_nils, q_emp, q_ptr, q_nilp, q_fn, q_cond_true, q_cond_false, Bool.not_true, Bool.not_false, decide_true, decide_false, List.cons_append, List.nil_append]
  have hn := split_len 44 s.data.toList
  have hsz := ba_list s
  have hq : (hnew σ 1 []).length = σ.length + 1 := by simp [hnew]
  generalize splitL 44 s.data.toList = ls at hrow hn
  rw [hq] at hrow hlen ⊢
  refine W.loop (S := Nat × V × Heap × List Nat) (fun s => s.1 ≤ ls.length ∧ Ow σ s.2.2.1 s.2.1 ((ls.take s.1).map fun w => typeNo (ba w)) s.2.2.2 ∧ StrRow s.2.2.1 (σ.length + 1) (ls.map ba) ∧ σ.length + 1 ∉ s.2.2.2) (fun s => [.v s.2.1, .v (.sl (σ.length + 1) 0 ls.length false), .v (.int .i64 (ls.length : Int)), .v (.int .i64 (s.1 : Int))]) (fun s => s.2.2.1) (fun s => ls.length - s.1)
    (fun ⟨i, vi, σi, Ri⟩ ⟨hi, hO, hr, hq'⟩ => ?_) (0, .sl σ.length 0 0 true, σ0, [σ.length]) ⟨Nat.zero_le _, (Ow.start σ).up lS, hrow, by simp⟩
  simp only at hi hO hr hq' ⊢
  refine W.to (fun k _ => by rw [impl_readTypes.L0_step]) ?_
  refine B.ite (fun hlt => ?_) fun hlt => ?_
  · have hil : i < ls.length := by omega
    have hx : ls[i]? = some ls[i] := List.getElem?_eq_getElem hil
    generalize ls[i] = x at hx
    obtain ⟨r, o, hv, hrd⟩ := srow_at (lim := false) hr hx
    have hql := hr.lt
    try simp only [q_bind_some, castInt_int, q_castBool, q_castStr, q_castPtr, q_castFn, q_castAgg, q_castTuple, q_uncons, q_isNil, q_sl, q_nils, q_emp, q_ptr, q_nilp, q_fn, q_cond_true, q_cond_false, Bool.not_true, Bool.not_false, decide_true, decide_false, List.cons_append, List.nil_append, hv, hrd]
    refine B.run (typeOf_runs (hO.le.row _ _ ht) (ba x)) ?_
    obtain ⟨v', σ', R', c1, c2, c3, c4⟩ := hO.add' (typeNo (ba x)) (by rw [List.length_map, List.length_take]; omega)
    try simp only [q_bind_some, castInt_int, q_castBool, q_castStr, q_castPtr, q_castFn, q_castAgg, q_castTuple, q_uncons, q_isNil, q_sl, q_nils, q_emp, q_ptr, q_nilp, q_fn, q_cond_true, q_cond_false, Bool.not_true, Bool.not_false, decide_true, decide_false, List.cons_append, List.nil_append, c1, wrap_next hil (by omega)]
    refine W.again (i + 1, v', σ', R') ⟨by show i + 1 ≤ ls.length; omega, by rw [take_next' hx, List.map_append]; exact c2, hr.keep (c4 _ hql hq'), fun hc => ?_⟩ (by simp only; omega) rfl rfl
    rcases c3 _ hc with h | h
    · omega
    · exact hq' h
  · obtain rfl : i = ls.length := by omega
    rw [List.take_length] at hO
    try simp only [q_bind_some, castInt_int, q_castBool, q_castStr, q_castPtr, q_castFn, q_castAgg, q_castTuple, q_uncons, q_isNil, q_sl, q_nils, q_emp, q_ptr, q_nilp, q_fn, q_cond_true, q_cond_false, Bool.not_true, Bool.not_false, decide_true, decide_false, List.cons_append, List.nil_append, impl_readTypes.A0_x0]
    exact W.ret ⟨Ri, hO⟩
theorem l3Kinds_ends {σ : Heap} (s : ByteArray) (hs : s.size ≤ 1048576) : HM.Ends G n_spec_l3Kinds [.str s] σ (fun w σ' => ∃ R, Ow σ σ' w (readT s.data.toList) R) := by
  refine HM.Ends.mk (W.to (fun k _ => spec_l3Kinds.eq k _ _) ?_)
  unfold readT
  by_cases h0 : s.data.toList = []
  · try simp only [q_bind_some, castInt_int, q_castBool, q_castStr, q_castPtr, q_castFn, q_castAgg, q_castTuple, q_uncons, q_isNil, q_sl, q_nils, q_emp, q_ptr, q_nilp, q_fn, q_cond_true, q_cond_false, Bool.not_true, Bool.not_false, decide_true, decide_false, List.cons_append, List.nil_append, decide_eq_true ((ba_none s).2 h0)]
    rw [if_pos h0]
    exact W.ret ⟨_, Ow.start σ⟩
  rw [if_neg h0]
  try simp only [q_bind_some, castInt_int, q_castBool, q_castStr, q_castPtr, q_castFn, q_castAgg, q_castTuple, q_uncons, q_isNil, q_sl, q_nils, q_emp, q_ptr, q_nilp, q_fn, q_cond_true, q_cond_false, Bool.not_true, Bool.not_false, decide_true, decide_false, List.cons_append, List.nil_append, decide_eq_false (fun h => h0 ((ba_none s).1 h))]
  have hq : (hnew σ 1 []).length = σ.length + 1 := by simp [hnew]
  have hn := split_len 44 s.data.toList
  have hsz := ba_list s
  have c0 := l23Cut_ends (σ := hnew σ 1 []) s 44 hs
  generalize splitL 44 s.data.toList = ls at hn c0
  refine W.call c0 ?_
  rintro _ σ0 ⟨⟨q, lim, hq0, rfl, hrow⟩, lS⟩
  rw [hq] at hq0
  rw [List.length_map]
  refine W.loop (S := Nat × V × Heap × List Nat) (fun s => s.1 ≤ ls.length ∧ Ow σ s.2.2.1 s.2.1 ((ls.take s.1).map fun w => typeNo (ba w)) s.2.2.2 ∧ StrRow s.2.2.1 q (ls.map ba) ∧ q ∉ s.2.2.2) (fun s => [.v s.2.1, .v (.sl q 0 ls.length lim), .v (.int .i64 (s.1 : Int))]) (fun s => s.2.2.1) (fun s => ls.length - s.1)
    (fun ⟨i, vi, σi, Ri⟩ ⟨hi, hO, hr, hq'⟩ => ?_) (0, .sl σ.length 0 0 true, σ0, [σ.length]) ⟨Nat.zero_le _, (Ow.start σ).up lS, hrow, by simp; omega⟩
  simp only at hi hO hr hq' ⊢
  refine W.to (fun k _ => by rw [spec_l3Kinds.L0_step]) ?_
  try simp only [q_bind_some, castInt_int, q_castBool, q_castStr, q_castPtr, q_castFn, q_castAgg, q_castTuple, q_uncons, q_isNil, q_sl, q_nils, q_emp, q_ptr, q_nilp, q_fn, q_cond_true, q_cond_false, Bool.not_true, Bool.not_false, decide_true, decide_false, List.cons_append, List.nil_append]
  refine B.ite (fun hlt => ?_) fun hlt => ?_
  · have hil : i < ls.length := by omega
    have hx : ls[i]? = some ls[i] := List.getElem?_eq_getElem hil
    generalize ls[i] = x at hx
    obtain ⟨r, o, hv, hrd⟩ := srow_at (lim := lim) hr hx
    try simp only [q_bind_some, castInt_int, q_castBool, q_castStr, q_castPtr, q_castFn, q_castAgg, q_castTuple, q_uncons, q_isNil, q_sl, q_nils, q_emp, q_ptr, q_nilp, q_fn, q_cond_true, q_cond_false, Bool.not_true, Bool.not_false, decide_true, decide_false, List.cons_append, List.nil_append, hv, hrd]
    refine B.give (l3Kind_gives (ba x)) fun σ1 l1 => ?_
    have hql := (hr.lt : q < σi.length)
    have hr1 : StrRow σ1 q (ls.map ba) := by
      obtain ⟨ty, hr⟩ := hr
      exact ⟨ty, l1.row _ _ hr⟩
    have hlen := l1.len
    obtain ⟨v', σ', R', c1, c2, c3, c4⟩ := (hO.up l1).add' (typeNo (ba x)) (by rw [List.length_map, List.length_take]; omega)
    try simp only [q_bind_some, castInt_int, q_castBool, q_castStr, q_castPtr, q_castFn, q_castAgg, q_castTuple, q_uncons, q_isNil, q_sl, q_nils, q_emp, q_ptr, q_nilp, q_fn, q_cond_true, q_cond_false, Bool.not_true, Bool.not_false, decide_true, decide_false, List.cons_append, List.nil_append, c1, wrap_next hil (by omega)]
    refine W.again (i + 1, v', σ', R') ⟨by show i + 1 ≤ ls.length; omega, by rw [take_next' hx, List.map_append]; exact c2, hr1.keep (c4 _ (by omega) hq'), fun hc => ?_⟩ (by simp only; omega) rfl rfl
    rcases c3 _ hc with h | h
    · omega
    · exact hq' h
  · obtain rfl : i = ls.length := by omega
    rw [List.take_length] at hO
    try simp only [q_bind_some, castInt_int, q_castBool, q_castStr, q_castPtr, q_castFn, q_castAgg, q_castTuple, q_uncons, q_isNil, q_sl, q_nils, q_emp, q_ptr, q_nilp, q_fn, q_cond_true, q_cond_false, Bool.not_true, Bool.not_false, decide_true, decide_false, List.cons_append, List.nil_append, spec_l3Kinds.A0_x0]
    exact W.ret ⟨Ri, hO⟩
end Go.F

/- Lines and their words, read by the program and by the reference. -/
set_option linter.unusedVariables false
set_option linter.unusedSimpArgs false
namespace Go.F
open Go.HM Go.Proofs
/-- The words of a line. -/
def WsP (σ : Heap) (cs : List V) (ws : List (List UInt8)) : Prop := ∃ v, cs = [v] ∧ RepS 1 StrRep σ v (ws.map ba)
theorem WsP.le {σ σ' : Heap} (hl : Lh σ σ') {cs : List V} {ws : List (List UInt8)} (h : WsP σ cs ws) : WsP σ' cs ws := by
  obtain ⟨v, h1, h2⟩ := h
  exact ⟨v, h1, h2.le hl⟩
def Wq (σ : Heap) (cs : List V) (x : List (List UInt8)) (R : List Nat) : Prop := ∃ q lim, cs = [.sl q 0 x.length lim] ∧ StrRow σ q (x.map ba) ∧ R = [q]
theorem ownWq : OwnQ Wq where
  keep := fun cs x R h hk => by
    obtain ⟨q, lim, h1, h2, rfl⟩ := h
    exact ⟨q, lim, h1, h2.keep (hk q (by simp)), rfl⟩
  lt := fun cs x R h j hj => by
    obtain ⟨q, lim, h1, h2, rfl⟩ := h
    simp at hj
    subst hj
    exact h2.lt
  le := fun hl cs x R h => by
    obtain ⟨q, lim, h1, ⟨ty, h2⟩, rfl⟩ := h
    exact ⟨q, lim, h1, ⟨ty, hl.row _ _ h2⟩, rfl⟩
theorem Wq.ws {σ : Heap} (cs : List V) (x : List (List UInt8)) (R : List Nat) (h : Wq σ cs x R) : WsP σ cs x := by
  obtain ⟨q, lim, h1, h2, _⟩ := h
  have := h2.rep (P := StrRep) (fun _ => rfl) lim
  rw [List.length_map] at this
  exact ⟨_, h1, this⟩
structure Wm (σ σi : Heap) (v : V) (L : List (List (List UInt8))) (R : List Nat) : Prop where
  r : RepR 1 (Wq σi) σi v L R
  a : At0 v
  nd : R.Nodup
  lo : ∀ j, j ∈ R → σ.length ≤ j
  le : Lh σ σi
theorem Wm.start (σ : Heap) : Wm σ (hnew σ 1 []) (.sl σ.length 0 0 true) [] [σ.length] :=
  ⟨.sl σ.length 0 0 true ⟨[], 1, false, 0⟩ [] [] rfl (by simp [hnew]) rfl rfl (by simp) rfl fun i x R hx => by simp at hx, .inr ⟨_, _, _, rfl⟩, by simp, fun j hj => by simp at hj; omega, Lh.new _ _ _⟩
theorem Wm.up {σ σi σ' : Heap} {v : V} {L : List (List (List UInt8))} {R : List Nat} (h : Wm σ σi v L R) (hl : Lh σi σ') : Wm σ σ' v L R := ⟨h.r.le hl (ownWq.le hl), h.a, h.nd, h.lo, h.le.trans hl⟩
theorem Wm.add {σ σi σ' : Heap} {v : V} {q : Nat} {lim : Bool} {L : List (List (List UInt8))} {R : List Nat} {x : List (List UInt8)} (h : Wm σ σi v L R) (hl : Lh σi σ') (hq : σi.length ≤ q) (hS : StrRow σ' q (x.map ba)) (hL : L.length ≤ 1048577) :
    ∃ v' σ'' R', vappend 1 24 σ' v 1 [.sl q 0 x.length lim] = some (v', σ'') ∧ Wm σ σ'' v' (L ++ [x]) R' ∧ (∀ j, j ∈ R' → j = σ'.length ∨ j ∈ R ∨ j = q) ∧ ∀ j, j < σ'.length → j ∉ R → σ''[j]? = σ'[j]? := by
  have hlt := h.r.lt fun cs x R hq => ownWq.lt cs x R hq
  have h' := h.up hl
  have e46 : (2 : Nat) ^ 46 = 70368744177664 := by decide
  obtain ⟨v', σ'', R', g1, g2, g3, g4, g5, g6, g7⟩ := h'.r.app (bytes := 24) (Q := Wq) h'.a (cs := [.sl q 0 x.length lim]) (x := x) (Rx := [q]) ⟨q, lim, rfl, hS, rfl⟩ rfl (fun cs x R hq hk => ownWq.keep cs x R hq hk) (fun cs x R hq => ownWq.lt cs x R hq)
    (nodup_far h.nd (by simp) hlt (fun j hj => by simp at hj; omega)) (by omega) (by omega)
  have hlen := h'.le.len
  refine ⟨v', σ'', R', g1, ⟨g2, g3, g4, fun j hj => ?_, ⟨by rw [g6]; omega, fun j row hj => ?_⟩⟩, fun j hj => ?_, g7⟩
  · rcases g5 j hj with hj | hj | hj
    · omega
    · exact h.lo j hj
    · simp at hj
      have := h.le.len
      omega
  · have hjl := get_lt hj
    rw [g7 j (by omega) fun hc => by have := h.lo j hc; omega]
    exact h'.le.row _ _ hj
  · rcases g5 j hj with hj | hj | hj
    · exact .inl hj
    · exact .inr (.inl hj)
    · exact .inr (.inr (by simpa using hj))
theorem Wm.rep {σ σi : Heap} {v : V} {L : List (List (List UInt8))} {R : List Nat} (h : Wm σ σi v L R) : RepS 1 (WsP σi) σi v L := h.r.rep fun cs x R _ hq => Wq.ws cs x R hq
abbrev MaxUp {σ σ' : Heap} (hl : Lh σ σ') (hm : MaxV σ) : MaxV σ' := let ⟨m, e⟩ := hm; ⟨m, hl.row _ _ e⟩
theorem linesOf_ends {σ : Heap} (hm : MaxV σ) (s : ByteArray) (hs : s.size ≤ 1048576) : HM.Ends G n_impl_linesOf [.str s] σ (fun w σ' => Lh σ σ' ∧ RepS 1 (WsP σ') σ' w ((splitL 10 (trimL 10 s.data.toList)).map wordsP)) := by
  refine HM.Ends.mk (W.to (fun k _ => impl_linesOf.eq k _ _) ?_)
  have lN : Lh σ (hnew σ 1 []) := Lh.new _ _ _
  have hsz := ba_list s
  refine W.run (trim_runs s 10 hs) ?_
  have ht : (ba (trimL 10 s.data.toList)).size ≤ 1048576 := by rw [ba_size]; have := trim_le 10 s.data.toList; omega
  obtain ⟨σ0, c1, lS, hrow, hlen⟩ := split_runs (σ := hnew σ 1 []) (MaxUp lN hm) (ba (trimL 10 s.data.toList)) 10 ht
  have hbt : (ba (trimL 10 s.data.toList)).data.toList = trimL 10 s.data.toList := rfl
  rw [hbt] at c1 hrow
  try simp only [q_bind_some, castInt_int, q_castBool, q_castStr, q_castPtr, q_castFn, q_castAgg, q_castTuple, q_uncons, q_isNil, q_sl, q_nils, q_emp, q_ptr, q_nilp, q_fn, q_cond_true, q_cond_false, Bool.not_true, Bool.not_false, decide_true, decide_false, List.cons_append, List.nil_append]
  refine W.run c1 ?_
  try simp only [q_bind_some, castInt_int, q_castBool, q_castStr, q_castPtr, q_castFn, q_castAgg, q_castTuple, q_uncons, q_isNil, q_sl, q_nils, q_emp, q_ptr, q_nilp, q_fn, q_cond_true, q_cond_false, Bool.not_true, Bool.not_false, decide_true, decide_false, List.cons_append, List.nil_append]
  have hn := split_len 10 (trimL 10 s.data.toList)
  have hel := split_le 10 (trimL 10 s.data.toList)
  have htl := trim_le 10 s.data.toList
  have hq : (hnew σ 1 []).length = σ.length + 1 := by simp [hnew]
  generalize splitL 10 (trimL 10 s.data.toList) = ls at hrow hn hel
  rw [hq] at hrow hlen ⊢
  refine W.bind (a := ls.length) (by rfl) ?_
  refine W.loop (S := Nat × V × Heap × List Nat) (fun s => s.1 ≤ ls.length ∧ Wm σ s.2.2.1 s.2.1 ((ls.take s.1).map wordsP) s.2.2.2 ∧ StrRow s.2.2.1 (σ.length + 1) (ls.map ba) ∧ σ.length + 1 ∉ s.2.2.2) (fun s => [.v s.2.1, .v (.sl (σ.length + 1) 0 ls.length false), .v (.int .i64 (ls.length : Int)), .v (.int .i64 (s.1 : Int))]) (fun s => s.2.2.1) (fun s => ls.length - s.1)
    (fun ⟨i, vi, σi, Ri⟩ ⟨hi, hO, hr, hq'⟩ => ?_) (0, .sl σ.length 0 0 true, σ0, [σ.length]) ⟨Nat.zero_le _, (Wm.start σ).up lS, hrow, by simp⟩
  simp only at hi hO hr hq' ⊢
  refine W.to (fun k _ => by rw [impl_linesOf.L0_step]) ?_
  refine B.ite (fun hlt => ?_) fun hlt => ?_
  · have hil : i < ls.length := by omega
    have hx : ls[i]? = some ls[i] := List.getElem?_eq_getElem hil
    have hxl := hel ls[i] (List.getElem_mem hil)
    generalize ls[i] = x at hx hxl
    obtain ⟨r, o, hv, hrd⟩ := srow_at (lim := false) hr hx
    have hql := hr.lt
    obtain ⟨σ1, c2, l1, hrow1, hlen1⟩ := split_runs (σ := σi) (MaxUp hO.le hm) (ba x) 32 (by rw [ba_size]; omega)
    have hbx : (ba x).data.toList = x := rfl
    rw [hbx] at c2 hrow1
    try simp only [q_bind_some, castInt_int, q_castBool, q_castStr, q_castPtr, q_castFn, q_castAgg, q_castTuple, q_uncons, q_isNil, q_sl, q_nils, q_emp, q_ptr, q_nilp, q_fn, q_cond_true, q_cond_false, Bool.not_true, Bool.not_false, decide_true, decide_false, List.cons_append, List.nil_append, hv, hrd]
    refine B.run c2 ?_
    obtain ⟨v', σ', R', d1, d2, d3, d4⟩ := hO.add (x := wordsP x) (lim := false) l1 (Nat.le_refl _) hrow1 (by rw [List.length_map, List.length_take]; omega)
    have d1' : vappend 1 24 σ1 vi 1 [.sl σi.length 0 (splitL 32 x).length false] = some (v', σ') := d1
    try simp only [q_bind_some, castInt_int, q_castBool, q_castStr, q_castPtr, q_castFn, q_castAgg, q_castTuple, q_uncons, q_isNil, q_sl, q_nils, q_emp, q_ptr, q_nilp, q_fn, q_cond_true, q_cond_false, Bool.not_true, Bool.not_false, decide_true, decide_false, List.cons_append, List.nil_append, d1', wrap_next hil (by omega)]
    have hr1 : StrRow σ1 (σ.length + 1) (ls.map ba) := by
      obtain ⟨ty, hr⟩ := hr
      exact ⟨ty, l1.row _ _ hr⟩
    refine W.again (i + 1, v', σ', R') ⟨by show i + 1 ≤ ls.length; omega, by rw [take_next' hx, List.map_append]; exact d2, hr1.keep (d4 _ (by omega) hq'), fun hc => ?_⟩ (by simp only; omega) rfl rfl
    rcases d3 _ hc with h | h | h
    · omega
    · exact hq' h
    · omega
  · obtain rfl : i = ls.length := by omega
    rw [List.take_length] at hO
    try simp only [q_bind_some, castInt_int, q_castBool, q_castStr, q_castPtr, q_castFn, q_castAgg, q_castTuple, q_uncons, q_isNil, q_sl, q_nils, q_emp, q_ptr, q_nilp, q_fn, q_cond_true, q_cond_false, Bool.not_true, Bool.not_false, decide_true, decide_false, List.cons_append, List.nil_append, impl_linesOf.A0_x0]
    exact W.ret ⟨hO.le, hO.rep⟩
/-- The words of a line, by the reference. -/
theorem l23Words_ends {σ : Heap} (s : ByteArray) (hs : s.size ≤ 1048576) : HM.Ends G n_spec_l23Words [.str s] σ (fun w σ' => Lh σ σ' ∧ RepS 1 StrRep σ' w ((wordsQ s.data.toList).map ba)) := by
  refine HM.Ends.mk (W.to (fun k _ => spec_l23Words.eq k _ _) ?_)
  have hn := split_len 32 s.data.toList
  have hsz := ba_list s
  have c0 := l23Cut_ends (σ := σ) s 32 hs
  unfold wordsQ
  generalize splitL 32 s.data.toList = ls at hn c0
  refine W.call c0 ?_
  rintro _ σ0 ⟨⟨q, lim, hq0, rfl, hrow⟩, lS⟩
  rw [List.length_map]
  have hql := hrow.lt
  have lN : Lh σ0 (hnew σ0 1 []) := Lh.new _ _ _
  refine W.loop (S := Nat × V × Heap) (fun s => s.1 ≤ ls.length ∧ GrS σ0.length s.2.2 s.2.1 (((ls.take s.1).filter fun w => decide (w ≠ [])).map ba) ∧ Lh σ0 s.2.2) (fun s => [.v (.sl q 0 ls.length lim), .v s.2.1, .v (.int .i64 (s.1 : Int))]) (fun s => s.2.2) (fun s => ls.length - s.1)
    (fun ⟨i, vi, σi⟩ ⟨hi, hO, hl⟩ => ?_) (0, .sl σ0.length 0 0 true, hnew σ0 1 []) ⟨Nat.zero_le _, GrS.new σ0 true, lN⟩
  simp only at hi hO hl ⊢
  refine W.to (fun k _ => by rw [spec_l23Words.L0_step]) ?_
  try simp only [q_bind_some, castInt_int, q_castBool, q_castStr, q_castPtr, q_castFn, q_castAgg, q_castTuple, q_uncons, q_isNil, q_sl, q_nils, q_emp, q_ptr, q_nilp, q_fn, q_cond_true, q_cond_false, Bool.not_true, Bool.not_false, decide_true, decide_false, List.cons_append, List.nil_append]
  refine B.ite (fun hlt => ?_) fun hlt => ?_
  · have hil : i < ls.length := by omega
    have hx : ls[i]? = some ls[i] := List.getElem?_eq_getElem hil
    generalize ls[i] = x at hx
    have hr : StrRow σi q (ls.map ba) := by
      obtain ⟨ty, hr⟩ := hrow
      exact ⟨ty, hl.row _ _ hr⟩
    obtain ⟨r, o, hv, hrd⟩ := srow_at (lim := lim) hr hx
    have hf : ((ls.take (i + 1)).filter fun w => decide (w ≠ [])).map ba = ((ls.take i).filter fun w => decide (w ≠ [])).map ba ++ (if x = [] then [] else [ba x]) := by
      rw [take_next' hx, List.filter_append, List.map_append]
      congr 1
      by_cases h0 : x = [] <;> simp [h0]
    by_cases h0 : x = []
    · try simp only [q_bind_some, castInt_int, q_castBool, q_castStr, q_castPtr, q_castFn, q_castAgg, q_castTuple, q_uncons, q_isNil, q_sl, q_nils, q_emp, q_ptr, q_nilp, q_fn, q_cond_true, q_cond_false, Bool.not_true, Bool.not_false, decide_true, decide_false, List.cons_append, List.nil_append, hv, hrd, decide_eq_true ((ba_none (ba x)).2 h0), wrap_next hil (by omega)]
      rw [if_pos h0, List.append_nil] at hf
      exact W.again (i + 1, vi, σi) ⟨by show i + 1 ≤ ls.length; omega, by rw [hf]; exact hO, hl⟩ (by simp only; omega) rfl rfl
    · rw [if_neg h0] at hf
      obtain ⟨v', σ', d1, d2, d3, _⟩ := hO.app' (ba x) (by
        have h1 : ((ls.take i).filter fun w => decide (w ≠ [])).length ≤ (ls.take i).length := List.length_filter_le _ _
        rw [List.length_map]
        rw [List.length_take] at h1
        omega)
      try simp only [q_bind_some, castInt_int, q_castBool, q_castStr, q_castPtr, q_castFn, q_castAgg, q_castTuple, q_uncons, q_isNil, q_sl, q_nils, q_emp, q_ptr, q_nilp, q_fn, q_cond_true, q_cond_false, Bool.not_true, Bool.not_false, decide_true, decide_false, List.cons_append, List.nil_append, hv, hrd, decide_eq_false (fun h => h0 ((ba_none (ba x)).1 h)), d1, wrap_next hil (by omega)]
      exact W.again (i + 1, v', σ') ⟨by show i + 1 ≤ ls.length; omega, by rw [hf]; exact d2, d3 σ0 (Nat.le_refl _) hl⟩ (by simp only; omega) rfl rfl
  · obtain rfl : i = ls.length := by omega
    rw [List.take_length] at hO
    try simp only [q_bind_some, castInt_int, q_castBool, q_castStr, q_castPtr, q_castFn, q_castAgg, q_castTuple, q_uncons, q_isNil, q_sl, q_nils, q_emp, q_ptr, q_nilp, q_fn, q_cond_true, q_cond_false, Bool.not_true, Bool.not_false, decide_true, decide_false, List.cons_append, List.nil_append, spec_l23Words.A0_x0]
    exact W.ret ⟨lS.trans hl, hO.rep fun _ => rfl⟩
/-- A word of a line. -/
theorem word_at {σ : Heap} {v : V} {ws : List (List UInt8)} (h : RepS 1 StrRep σ v (ws.map ba)) {i : Nat} (hi : i < ws.length) : ∃ r o, vidx 1 v (i : Int) = some (r, o) ∧ rdc σ r o 1 = some [.str (ba (wd ws i))] := by
  obtain ⟨r, o, hv, cs, hr, hP⟩ := h.at' (i := i) (x := ba (wd ws i)) (by rw [List.getElem?_map, wd_some hi]; rfl)
  unfold StrRep at hP
  subst hP
  exact ⟨r, o, hv, hr⟩
/-- The number that is handed back. -/
theorem decimal_ends' {σ : Heap} (hv : NumV σ) {s : ByteArray} (hs : s.size ≤ 1048576) : HM.Ends G n_impl_decimal [.str s] σ (fun w σ' => Lh σ σ' ∧ ∃ b, w = .tuple [.int .i64 (numR s.data.toList), .bool b]) := by
  refine HM.Ends.mk (W.to (fun k _ => impl_decimal.eq k _ _) ?_)
  unfold numR
  have h3 : (∃ n, Lib.atoiAll s.data.toList = .ok n) ∨ Lib.atoiAll s.data.toList = .range ∨ Lib.atoiAll s.data.toList = Lib.NumEnd.ofOption none := by
    cases Lib.atoiAll s.data.toList with
    | ok n => exact .inl ⟨n, rfl⟩
    | range => exact .inr (.inl rfl)
    | _ => exact .inr (.inr rfl)
  rcases h3 with ⟨n, ha⟩ | ha | ha
  · have hb := Lib.atoiAll_bounds ha
    have hr : Runs G n_strconv_Atoi [.str s] σ (.tuple [.int .i64 n, .nili]) σ := by
      refine hook_runs (h := hkAtoi g_ErrSyntax g_ErrRange _) rfl ?_
      unfold hkAtoi
      simp only
      rw [if_pos (by omega), ha]
    refine W.run hr ?_
    try simp only [q_bind_some, castInt_int, q_castBool, q_castStr, q_castPtr, q_castFn, q_castAgg, q_castTuple, q_uncons, q_isNil, q_sl, q_nils, q_emp, q_ptr, q_nilp, q_fn, q_cond_true, q_cond_false, Bool.not_true, Bool.not_false, decide_true, decide_false, List.cons_append, List.nil_append, nilI]
    refine W.run (itoa_runs hv.tab hb.1 hb.2) ?_
    try simp only [q_bind_some, castInt_int, q_castBool, q_castStr, q_castPtr, q_castFn, q_castAgg, q_castTuple, q_uncons, q_isNil, q_sl, q_nils, q_emp, q_ptr, q_nilp, q_fn, q_cond_true, q_cond_false, Bool.not_true, Bool.not_false, decide_true, decide_false, List.cons_append, List.nil_append]
    rw [ha]
    exact W.ret ⟨Lh.refl _, _, rfl⟩
  · have hr : Runs G n_strconv_Atoi [.str s] σ (.tuple [.int .i64 (Lib.atoiSat s.data.toList), .iface tNumErr (.ptr σ.length 0)]) (hnew σ 3 []) := by
      refine hook_runs (h := hkAtoi g_ErrSyntax g_ErrRange tNumErr) rfl ?_
      unfold hkAtoi
      simp only
      rw [if_pos (by omega), ha]
      simp only
      rw [if_pos hv.er]
    refine W.run hr ?_
    try simp only [q_bind_some, castInt_int, q_castBool, q_castStr, q_castPtr, q_castFn, q_castAgg, q_castTuple, q_uncons, q_isNil, q_sl, q_nils, q_emp, q_ptr, q_nilp, q_fn, q_cond_true, q_cond_false, Bool.not_true, Bool.not_false, decide_true, decide_false, List.cons_append, List.nil_append, nilI]
    rw [ha]
    exact W.ret ⟨Lh.new _ _ _, _, rfl⟩
  · simp only [Lib.NumEnd.ofOption] at ha
    have hr : Runs G n_strconv_Atoi [.str s] σ (.tuple [.int .i64 0, .iface tNumErr (.ptr σ.length 0)]) (hnew σ 3 []) := by
      refine hook_runs (h := hkAtoi g_ErrSyntax g_ErrRange tNumErr) rfl ?_
      unfold hkAtoi
      simp only
      rw [if_pos (by omega), ha]
      simp only
      rw [if_pos hv.es]
    refine W.run hr ?_
    try simp only [q_bind_some, castInt_int, q_castBool, q_castStr, q_castPtr, q_castFn, q_castAgg, q_castTuple, q_uncons, q_isNil, q_sl, q_nils, q_emp, q_ptr, q_nilp, q_fn, q_cond_true, q_cond_false, Bool.not_true, Bool.not_false, decide_true, decide_false, List.cons_append, List.nil_append, nilI]
    rw [ha]
    exact W.ret ⟨Lh.new _ _ _, _, rfl⟩
/-- What is known of the variables. -/
structure ReadV (σ : Heap) : Prop where
  ty : TypeW σ
  op : OpW σ
  mx : MaxV σ
  nm : NumV σ
theorem ReadV.le {σ σ' : Heap} (hl : Lh σ σ') (h : ReadV σ) : ReadV σ' := ⟨hl.row _ _ h.ty, hl.row _ _ h.op, MaxUp hl h.mx, h.nm.le hl⟩
theorem opw_rep {σ : Heap} (h : OpW σ) : RepS 1 StrRep σ (.sl 0 0 10 true) opws := by
  refine .sl _ 0 10 true _ _ rfl h rfl (by decide) fun i x hx => ?_
  have hi := lt_of_get hx
  have : ((opws.map V.str).drop (0 + i * 1)).take 1 = [.str x] := by
    apply List.ext_getElem?
    intro j
    rw [chunk_get]
    split
    · rename_i hj
      obtain rfl : j = 0 := by omega
      simp [hx]
    · rename_i hj
      rw [List.getElem?_eq_none (by simp; omega)]
  show StrRep (((opws.map V.str).drop (0 + i * 1)).take 1) x
  rw [this]
  rfl
/-- An instruction, by the program. -/
theorem readIns_ends {σ : Heap} (hR : ReadV σ) {v : V} {ws : List (List UInt8)} (h : RepS 1 StrRep σ v (ws.map ba)) (h2 : ws.length = 2) (hs : ∀ x, x ∈ ws → x.length ≤ 1048576) : HM.Ends G n_impl_readIns [v] σ (fun w σ' => Lh σ σ' ∧ w = .agg [.int .i64 (opNo (ba (wd ws 0))), .int .i64 (numR (wd ws 1))]) := by
  refine HM.Ends.mk (W.to (fun k _ => impl_readIns.eq k _ _) ?_)
  obtain ⟨r1, o1, hv1, hr1⟩ := word_at h (i := 1) (by omega)
  have c1 := decimal_ends' hR.nm (s := ba (wd ws 1)) (by rw [ba_size]; exact hs _ (List.mem_of_getElem? (wd_some (by omega))))
  have hv1' : vidx 1 v 1 = some (r1, o1) := hv1
  try simp only [q_bind_some, castInt_int, q_castBool, q_castStr, q_castPtr, q_castFn, q_castAgg, q_castTuple, q_uncons, q_isNil, q_sl, q_nils, q_emp, q_ptr, q_nilp, q_fn, q_cond_true, q_cond_false, Bool.not_true, Bool.not_false, decide_true, decide_false, List.cons_append, List.nil_append, hv1', hr1]
  refine W.call c1 ?_
  rintro _ σ1 ⟨l1, b, rfl⟩
  have hR1 := hR.le l1
  have hw : gwhole σ1 0 0 10 1 = some (.sl 0 0 10 true) := by
    unfold gwhole
    rw [hR1.op]
    rfl
  obtain ⟨r0, o0, hv0, hr0⟩ := word_at (h.le l1) (i := 0) (by omega)
  have hv0' : vidx 1 v 0 = some (r0, o0) := hv0
  try simp only [q_bind_some, castInt_int, q_castBool, q_castStr, q_castPtr, q_castFn, q_castAgg, q_castTuple, q_uncons, q_isNil, q_sl, q_nils, q_emp, q_ptr, q_nilp, q_fn, q_cond_true, q_cond_false, Bool.not_true, Bool.not_false, decide_true, decide_false, List.cons_append, List.nil_append, hw, hv0', hr0]
  refine W.run (slices_Index_string_string_runs (by decide) (opw_rep hR1.op) (ba (wd ws 0))) ?_
  have hb := opNo_b (ba (wd ws 0))
  unfold opNo at hb ⊢
  try simp only [q_bind_some, castInt_int, q_castBool, q_castStr, q_castPtr, q_castFn, q_castAgg, q_castTuple, q_uncons, q_isNil, q_sl, q_nils, q_emp, q_ptr, q_nilp, q_fn, q_cond_true, q_cond_false, Bool.not_true, Bool.not_false, decide_true, decide_false, List.cons_append, List.nil_append, wrap_id (n := fidx (fun x => decide (ba (wd ws 0) = x)) opws + 1) (by omega) (by omega)]
  exact W.ret ⟨l1, rfl⟩
/-- What stands behind a function's name, by the program. -/
theorem readHead_ends {σ : Heap} (hR : ReadV σ) {v : V} {ws : List (List UInt8)} (h : RepS 1 StrRep σ v (ws.map ba)) (h3 : ws.length = 3) (hs : ∀ x, x ∈ ws → x.length ≤ 1048576) : HM.Ends G n_impl_readHead [v] σ (fun w σ' => ∃ av R, w = .tuple [av, .int .i64 (typeNo (ba (wd ws 1))), .int .i64 (numR (wd ws 2))] ∧ Ow σ σ' av (argR (wd ws 0)) R) := by
  refine HM.Ends.mk (W.to (fun k _ => impl_readHead.eq k _ _) ?_)
  have lN : Lh σ (hnew σ 1 []) := Lh.new _ _ _
  have hws : ∀ i : Nat, i < 3 → (ba (wd ws i)).size ≤ 1048576 := fun i hi => by rw [ba_size]; exact hs _ (List.mem_of_getElem? (wd_some (by omega)))
  have at' : ∀ {σ' : Heap}, Lh σ σ' → ∀ i : Nat, i < 3 → ∃ r o, vidx 1 v (i : Int) = some (r, o) ∧ rdc σ' r o 1 = some [.str (ba (wd ws i))] := fun hl i hi => word_at (h.le hl) (by omega)
  obtain ⟨r0, o0, hv0, hr0⟩ := at' lN 0 (by omega)
  have hv0' : vidx 1 v 0 = some (r0, o0) := hv0
  try simp only [q_bind_some, castInt_int, q_castBool, q_castStr, q_castPtr, q_castFn, q_castAgg, q_castTuple, q_uncons, q_isNil, q_sl, q_nils, q_emp, q_ptr, q_nilp, q_fn, q_cond_true, q_cond_false, Bool.not_true, Bool.not_false, decide_true, decide_false, List.cons_append, List.nil_append, hv0', hr0]
  unfold argR
  have e45 : (⟨#[45]⟩ : ByteArray) = ba [45] := rfl
  by_cases h0 : wd ws 0 = [45]
  · have hd : decide (ba (wd ws 0) = (⟨#[45]⟩ : ByteArray)) = true := decide_eq_true (by rw [h0]; rfl)
    obtain ⟨r2, o2, hv2, hr2⟩ := at' lN 2 (by omega)
    have hv2' : vidx 1 v 2 = some (r2, o2) := hv2
    try simp only [q_bind_some, castInt_int, q_castBool, q_castStr, q_castPtr, q_castFn, q_castAgg, q_castTuple, q_uncons, q_isNil, q_sl, q_nils, q_emp, q_ptr, q_nilp, q_fn, q_cond_true, q_cond_false, Bool.not_true, Bool.not_false, decide_true, decide_false, List.cons_append, List.nil_append, hd, hv2', hr2]
    refine W.call (decimal_ends' (hR.nm.le lN) (hws 2 (by omega))) ?_
    rintro _ σ1 ⟨l1, b, rfl⟩
    obtain ⟨r1, o1, hv1, hr1⟩ := at' (lN.trans l1) 1 (by omega)
    have hv1' : vidx 1 v 1 = some (r1, o1) := hv1
    try simp only [q_bind_some, castInt_int, q_castBool, q_castStr, q_castPtr, q_castFn, q_castAgg, q_castTuple, q_uncons, q_isNil, q_sl, q_nils, q_emp, q_ptr, q_nilp, q_fn, q_cond_true, q_cond_false, Bool.not_true, Bool.not_false, decide_true, decide_false, List.cons_append, List.nil_append, hv1', hr1]
    refine W.run (typeOf_runs ((lN.trans l1).row _ _ hR.ty) _) ?_
    try simp only [q_bind_some, castInt_int, q_castBool, q_castStr, q_castPtr, q_castFn, q_castAgg, q_castTuple, q_uncons, q_isNil, q_sl, q_nils, q_emp, q_ptr, q_nilp, q_fn, q_cond_true, q_cond_false, Bool.not_true, Bool.not_false, decide_true, decide_false, List.cons_append, List.nil_append]
    rw [if_pos h0]
    exact W.ret ⟨_, _, rfl, (Ow.start σ).up l1⟩
  · have hd : decide (ba (wd ws 0) = (⟨#[45]⟩ : ByteArray)) = false := decide_eq_false (fun hc => h0 (ba_inj.1 (hc.trans e45)))
    try simp only [q_bind_some, castInt_int, q_castBool, q_castStr, q_castPtr, q_castFn, q_castAgg, q_castTuple, q_uncons, q_isNil, q_sl, q_nils, q_emp, q_ptr, q_nilp, q_fn, q_cond_true, q_cond_false, Bool.not_true, Bool.not_false, decide_true, decide_false, List.cons_append, List.nil_append, hd]
    refine W.call (readTypes_ends (lN.row _ _ hR.ty) (MaxUp lN hR.mx) (ba (wd ws 0)) (hws 0 (by omega))) ?_
    rintro av σ1 ⟨R, hO⟩
    have l1 := lN.trans hO.le
    obtain ⟨r2, o2, hv2, hr2⟩ := at' l1 2 (by omega)
    have hv2' : vidx 1 v 2 = some (r2, o2) := hv2
    try simp only [q_bind_some, castInt_int, q_castBool, q_castStr, q_castPtr, q_castFn, q_castAgg, q_castTuple, q_uncons, q_isNil, q_sl, q_nils, q_emp, q_ptr, q_nilp, q_fn, q_cond_true, q_cond_false, Bool.not_true, Bool.not_false, decide_true, decide_false, List.cons_append, List.nil_append, hv2', hr2]
    refine W.call (decimal_ends' (hR.nm.le l1) (hws 2 (by omega))) ?_
    rintro _ σ2 ⟨l2, b, rfl⟩
    obtain ⟨r1, o1, hv1, hr1⟩ := at' (l1.trans l2) 1 (by omega)
    have hv1' : vidx 1 v 1 = some (r1, o1) := hv1
    try simp only [q_bind_some, castInt_int, q_castBool, q_castStr, q_castPtr, q_castFn, q_castAgg, q_castTuple, q_uncons, q_isNil, q_sl, q_nils, q_emp, q_ptr, q_nilp, q_fn, q_cond_true, q_cond_false, Bool.not_true, Bool.not_false, decide_true, decide_false, List.cons_append, List.nil_append, hv1', hr1]
    refine W.run (typeOf_runs ((l1.trans l2).row _ _ hR.ty) _) ?_
    try simp only [q_bind_some, castInt_int, q_castBool, q_castStr, q_castPtr, q_castFn, q_castAgg, q_castTuple, q_uncons, q_isNil, q_sl, q_nils, q_emp, q_ptr, q_nilp, q_fn, q_cond_true, q_cond_false, Bool.not_true, Bool.not_false, decide_true, decide_false, List.cons_append, List.nil_append]
    rw [if_neg h0]
    exact W.ret ⟨av, R, rfl, (hO.up l2).down lN⟩
end Go.F

/- The heads and lines of objects' texts, of both. -/
set_option linter.unusedVariables false
set_option linter.unusedSimpArgs false
namespace Go.F
open Go.HM Go.Proofs
theorem tyL_len' {l : List Int} (h : l.length ≤ 4) : (tyL l).length ≤ 20 := by
  have h1 := tyL_len l l.length (Nat.le_refl _)
  rw [List.take_length] at h1
  omega
theorem tword_ba (n : Int) : tword n = ba (tword n).data.toList ∧ (tword n).data.toList.length ≤ 4 := ⟨ba_self _, by rw [ba_list]; exact tword_size n⟩
theorem headText_gives {σ : Heap} (ht : TypeW σ) (hn : σ[g_uint64pow10]? = some (some ⟨Lib.pow10Tab.map fun z => .int .u64 z, 1, true, 0⟩)) {v : V} {l : List Int} (hf : l.length ≤ 4) (h : RepS 1 IntRep σ v l) (t s : Int) (h0 : 0 ≤ s) (h1 : s ≤ 1000) :
    Gives G n_impl_headText [v, .int .i64 t, .int .i64 s] σ (.str (ba (headL l t s))) := by
  refine Gives.of (W.to (fun k _ => impl_headText.eq k _ _ _ _) ?_)
  refine W.give (typeList_gives ht hf h) fun σ1 l1 => ?_
  have hi := Lib.itoa_length_le s (by omega) (by omega)
  obtain ⟨k1, k2⟩ := tword_ba t
  have k3 := tyL_len' hf
  unfold headL argL
  generalize (tword t).data.toList = tw at k1 k2
  try simp (maxSteps := 2000000) (disch := (simp only [List.length_append, List.length_cons, List.length_nil]; omega)) only [q_bind_some, castInt_int, q_castBool, q_castStr, q_castPtr, q_castFn, q_castAgg, q_castTuple, q_uncons, q_isNil, q_sl, q_nils, q_emp, q_ptr, q_nilp, q_fn, q_cond_true, q_cond_false, Bool.not_true, Bool.not_false, decide_true, decide_false, List.cons_append, List.nil_append, mk_ba, ba2, fitB, ba_inj]
  refine W.ite (fun he => ?_) fun he => ?_
  · rw [if_pos he]
    try simp (maxSteps := 2000000) (disch := (simp only [List.length_append, List.length_cons, List.length_nil]; omega)) only [q_bind_some, castInt_int, q_castBool, q_castStr, q_castPtr, q_castFn, q_castAgg, q_castTuple, q_uncons, q_isNil, q_sl, q_nils, q_emp, q_ptr, q_nilp, q_fn, q_cond_true, q_cond_false, Bool.not_true, Bool.not_false, decide_true, decide_false, List.cons_append, List.nil_append, mk_ba, ba2, fitB]
    refine W.run (implTreeType_runs t σ1 (l1.row _ _ ht)) ?_
    try simp (maxSteps := 2000000) (disch := (simp only [List.length_append, List.length_cons, List.length_nil]; omega)) only [q_bind_some, castInt_int, q_castBool, q_castStr, q_castPtr, q_castFn, q_castAgg, q_castTuple, q_uncons, q_isNil, q_sl, q_nils, q_emp, q_ptr, q_nilp, q_fn, q_cond_true, q_cond_false, Bool.not_true, Bool.not_false, decide_true, decide_false, List.cons_append, List.nil_append, mk_ba, ba2, fitB, k1]
    refine W.run (itoa_runs (l1.row _ _ hn) (by omega) (by omega)) ?_
    try simp (maxSteps := 2000000) (disch := (simp only [List.length_append, List.length_cons, List.length_nil]; omega)) only [q_bind_some, castInt_int, q_castBool, q_castStr, q_castPtr, q_castFn, q_castAgg, q_castTuple, q_uncons, q_isNil, q_sl, q_nils, q_emp, q_ptr, q_nilp, q_fn, q_cond_true, q_cond_false, Bool.not_true, Bool.not_false, decide_true, decide_false, List.cons_append, List.nil_append, mk_ba, ba2, fitB]
    exact W.ret ⟨rfl, l1⟩
  · rw [if_neg he]
    try simp (maxSteps := 2000000) (disch := (simp only [List.length_append, List.length_cons, List.length_nil]; omega)) only [q_bind_some, castInt_int, q_castBool, q_castStr, q_castPtr, q_castFn, q_castAgg, q_castTuple, q_uncons, q_isNil, q_sl, q_nils, q_emp, q_ptr, q_nilp, q_fn, q_cond_true, q_cond_false, Bool.not_true, Bool.not_false, decide_true, decide_false, List.cons_append, List.nil_append, mk_ba, ba2, fitB]
    refine W.run (implTreeType_runs t σ1 (l1.row _ _ ht)) ?_
    try simp (maxSteps := 2000000) (disch := (simp only [List.length_append, List.length_cons, List.length_nil]; omega)) only [q_bind_some, castInt_int, q_castBool, q_castStr, q_castPtr, q_castFn, q_castAgg, q_castTuple, q_uncons, q_isNil, q_sl, q_nils, q_emp, q_ptr, q_nilp, q_fn, q_cond_true, q_cond_false, Bool.not_true, Bool.not_false, decide_true, decide_false, List.cons_append, List.nil_append, mk_ba, ba2, fitB, k1]
    refine W.run (itoa_runs (l1.row _ _ hn) (by omega) (by omega)) ?_
    try simp (maxSteps := 2000000) (disch := (simp only [List.length_append, List.length_cons, List.length_nil]; omega)) only [q_bind_some, castInt_int, q_castBool, q_castStr, q_castPtr, q_castFn, q_castAgg, q_castTuple, q_uncons, q_isNil, q_sl, q_nils, q_emp, q_ptr, q_nilp, q_fn, q_cond_true, q_cond_false, Bool.not_true, Bool.not_false, decide_true, decide_false, List.cons_append, List.nil_append, mk_ba, ba2, fitB]
    exact W.ret ⟨rfl, l1⟩
end Go.F

/- The lines of instructions, by the program. -/
set_option linter.unusedVariables false
set_option linter.unusedSimpArgs false
namespace Go.F
open Go.HM Go.Proofs
theorem opw_ba (n : Int) : opw n = ba (opw n).data.toList ∧ (opw n).data.toList.length ≤ 6 := ⟨ba_self _, by rw [ba_list]; exact opw_size n⟩
abbrev TabW (σ : Heap) : Prop := σ[g_uint64pow10]? = some (some ⟨Lib.pow10Tab.map fun z => .int .u64 z, 1, true, 0⟩)
theorem codeText_gives {σ : Heap} (ho : OpW σ) (hn : TabW σ) {v : V} {l : List CodeIns} (hf : l.length ≤ 1048576) (hI : ∀ x, x ∈ l → InsOk x) (h : RepS 2 (CodeIns.Rep σ) σ v l) : Gives G n_impl_codeText [v] σ (.str (ba (codeL l))) := by
  refine Gives.of (W.to (fun k _ => impl_codeText.eq k _ _) ?_)
  have hlen := fun i hi => code_len hI i hi
  have h0 : (⟨#[]⟩ : ByteArray) = ba (catL insL l 0) := by rw [catL_zero]; rfl
  have hno : ∀ row, σ[σ.length]? ≠ some (some row) := fun row hc => by rw [List.getElem?_eq_none (Nat.le_refl _)] at hc; cases hc
  refine W.len h ?_
  refine W.loop (S := Nat × Heap) (fun s => s.1 ≤ l.length ∧ Bld (σ.length + 1) s.2 σ.length (ba (catL insL l s.1)) ∧ Lh σ s.2 ∧ σ.length + 1 ≤ s.2.length)
    (fun s => [.v (.ptr σ.length 0), .v v, .v (.int .i64 (l.length : Int)), .v (.int .i64 (s.1 : Int))]) (fun s => s.2) (fun s => l.length - s.1)
    (fun ⟨i, σi⟩ ⟨hi, hB, hle, hlen'⟩ => ?_) (0, hnewT σ (hbT + 1) 2 [.nilp, .nils]) ⟨Nat.zero_le _, by show Bld _ _ _ (ba (catL insL l 0)); rw [← h0]; exact Bld.new σ, Lh.append _ _, by simp [hnewT]⟩
  simp only at hi hB hle hlen' ⊢
  have hl1 := hlen i hi
  have hbs := ba_size (catL insL l i)
  refine W.to (fun k _ => by rw [impl_codeText.L0_step]) ?_
  refine B.ite (fun hlt => ?_) fun hlt => ?_
  rotate_left
  · obtain rfl : i = l.length := by omega
    try simp only [q_bind_some, castInt_int, q_castBool, q_castStr, q_castPtr, q_castFn, q_castAgg, q_castTuple, q_uncons, q_isNil, q_sl, q_nils, q_emp, q_ptr, q_nilp, q_fn, q_cond_true, q_cond_false, Bool.not_true, Bool.not_false, decide_true, decide_false, List.cons_append, List.nil_append, impl_codeText.A0_x0]
    obtain ⟨σ2, c2, K2⟩ := builderText_runs hB (by omega)
    refine W.run c2 ?_
    try simp only [q_bind_some, castInt_int, q_castBool, q_castStr, q_castPtr, q_castFn, q_castAgg, q_castTuple, q_uncons, q_isNil, q_sl, q_nils, q_emp, q_ptr, q_nilp, q_fn, q_cond_true, q_cond_false, Bool.not_true, Bool.not_false, decide_true, decide_false, List.cons_append, List.nil_append]
    exact W.ret ⟨rfl, K2.lh hle (by omega) hno⟩
  have hil : i < l.length := by omega
  have hx : l[i]? = some l[i] := List.getElem?_eq_getElem hil
  generalize l[i] = x at hx
  have hnext := wrap_next hil (by omega)
  have hsx := hI x (List.mem_of_getElem? hx)
  have hb := ins_b hsx
  have hit := Lib.itoa_length_le x.a (by omega) (by omega)
  have hstep := catL_next (f := insL) hx
  obtain ⟨r, o, hv, cs, hr, hP⟩ := h.at' hx
  have hr' := hle.rdc hr
  cases hP with
  | mk =>
  have hw : IntKind.wrap .i64 (x.op - 1) = x.op - 1 := wrap_id (by omega) (by omega)
  have hc : (0 ≤ x.op - 1 ∧ x.op - 1 < ((10 : Nat) : Int)) = True := by simp; omega
  have e1 : rdc σi 0 (0 + (x.op - 1).toNat * 1) 1 = some [.str (opw x.op)] := by
    rw [Nat.zero_add, Nat.mul_one]
    exact row_at (hle.row _ _ ho) (opw_some hb.2.2.1 hb.2.2.2)
  have ep := prot_ro (hle.row _ _ ho)
  obtain ⟨k1, k2⟩ := opw_ba x.op
  have hins : insL x = (opw x.op).data.toList ++ [32] ++ Lib.itoa x.a ++ [10] := rfl
  generalize (opw x.op).data.toList = tw at k1 k2 hins
  rw [hins] at hstep
  try simp (maxSteps := 2000000) (disch := (simp only [List.length_append, List.length_cons, List.length_nil]; omega)) only [q_bind_some, castInt_int, q_castBool, q_castStr, q_castPtr, q_castFn, q_castAgg, q_castTuple, q_uncons, q_isNil, q_sl, q_nils, q_emp, q_ptr, q_nilp, q_fn, q_cond_true, q_cond_false, Bool.not_true, Bool.not_false, decide_true, decide_false, List.cons_append, List.nil_append, mk_ba, ba2, fitB, hv, hr', hw, hc, if_true, e1, k1, ep]
  refine B.run (itoa_runs (hle.row _ _ hn) (by omega) (by omega)) ?_
  try simp (maxSteps := 2000000) (disch := (simp only [List.length_append, List.length_cons, List.length_nil]; omega)) only [q_bind_some, castInt_int, q_castBool, q_castStr, q_castPtr, q_castFn, q_castAgg, q_castTuple, q_uncons, q_isNil, q_sl, q_nils, q_emp, q_ptr, q_nilp, q_fn, q_cond_true, q_cond_false, Bool.not_true, Bool.not_false, decide_true, decide_false, List.cons_append, List.nil_append, mk_ba, ba2, fitB, unprot_same (hle.row _ _ ho) (hle.row _ _ ho), ep]
  obtain ⟨σ3, c3, B3, K3⟩ := writeString_runs (F := σ.length + 1) hlen' hB (ba (tw ++ [32] ++ Lib.itoa x.a ++ [10])) (by rw [hbs, ba_size]; simp only [List.length_append, List.length_cons, List.length_nil]; omega)
  refine B.run c3 ?_
  have l3 : Lh σ σ3 := K3.lh hle (by omega) hno
  try simp (maxSteps := 2000000) (disch := (simp only [List.length_append, List.length_cons, List.length_nil]; omega)) only [q_bind_some, castInt_int, q_castBool, q_castStr, q_castPtr, q_castFn, q_castAgg, q_castTuple, q_uncons, q_isNil, q_sl, q_nils, q_emp, q_ptr, q_nilp, q_fn, q_cond_true, q_cond_false, Bool.not_true, Bool.not_false, decide_true, decide_false, List.cons_append, List.nil_append, mk_ba, ba2, fitB, hnext, unprot_same (hle.row _ _ ho) (l3.row _ _ ho)]
  rw [ba2, ← hstep] at B3
  exact W.again (i + 1, σ3) ⟨by show i + 1 ≤ l.length; omega, B3, l3, Nat.le_trans hlen' K3.1⟩ (by simp only; omega) rfl rfl
end Go.F

/- ObjText of the reference, and of the program. -/
set_option linter.unusedVariables false
set_option linter.unusedSimpArgs false
namespace Go.F
open Go.HM Go.Proofs
theorem ins_ba {x : CodeIns} (h : InsOk x) : ∃ tw, opw x.op = ba tw ∧ tw.length ≤ 6 ∧ insL x = tw ++ [32] ++ Lib.itoa x.a ++ [10] := ⟨_, (opw_ba x.op).1, (opw_ba x.op).2, rfl⟩
end Go.F

/- ObjRead of the program. -/
set_option linter.unusedVariables false
set_option linter.unusedSimpArgs false
namespace Go.F
open Go.HM Go.Proofs
theorem ReadV.prots {σ : Heap} (h : ReadV σ) (rs : List Nat) : ReadV (prot rs σ) :=
  ⟨prots_ro h.ty rfl rs, prots_ro h.op rfl rs, let ⟨m, e⟩ := h.mx; ⟨m, prots_ro e rfl rs⟩, ⟨prots_ro h.nm.tab rfl rs, let ⟨tp, x, e⟩ := h.nm.es; ⟨tp, x, prots_ro e rfl rs⟩, let ⟨tp, x, e⟩ := h.nm.er; ⟨tp, x, prots_ro e rfl rs⟩⟩⟩
theorem dec_ba (l m : List UInt8) : decide (ba l = ba m) = decide (l = m) := by
  by_cases h : l = m
  · rw [decide_eq_true h, decide_eq_true (ba_inj.2 h)]
  · rw [decide_eq_false h, decide_eq_false (fun hc => h (ba_inj.1 hc))]
end Go.F

/- Images in rows of one's own, their marks. -/
set_option linter.unusedVariables false
set_option linter.unusedSimpArgs false
namespace Go.F
open Go.HM Go.Proofs
/-- A function, its code from its row's beginning on. -/
def RLFunA (σ : Heap) (cs : List V) (x : LinkFun) (R : List Nat) : Prop := ∃ (va : V) (Ra : List Nat) (vc : V) (Rc : List Nat), cs = [.str x.mod, .str x.name, va, .int .i64 x.type, .int .i64 x.slots, vc] ∧ RepR 1 (RInt σ) σ va x.args Ra ∧ RepR 2 (RCodeIns σ) σ vc x.code Rc ∧ At0 vc ∧ R = Ra ++ Rc
theorem RLFunA.fn {σ : Heap} (cs : List V) (x : LinkFun) (R : List Nat) (h : RLFunA σ cs x R) : RLinkFun σ cs x R := by
  obtain ⟨va, Ra, vc, Rc, h1, h2, h3, h4, h5⟩ := h
  exact ⟨va, Ra, vc, Rc, h1, h2, h3, h5⟩
theorem ownLFunA : OwnQ RLFunA where
  keep := fun cs x R h hk => by
    obtain ⟨va, Ra, vc, Rc, h1, h2, h3, h4, rfl⟩ := h
    exact ⟨va, Ra, vc, Rc, h1, h2.keep (fun j hj => hk j (List.mem_append_left _ hj)) (fun cs x R h k => RInt.keep cs x R h k), h3.keep (fun j hj => hk j (List.mem_append_right _ hj)) (fun cs x R h k => RCodeIns.keep cs x R h k), h4, rfl⟩
  lt := fun cs x R h j hj => RLinkFun.lt cs x R (h.fn cs x R) j hj
  le := fun hl cs x R h => by
    obtain ⟨va, Ra, vc, Rc, h1, h2, h3, h4, rfl⟩ := h
    exact ⟨va, Ra, vc, Rc, h1, h2.le hl (RInt.le hl), h3.le hl (RCodeIns.le hl), h4, rfl⟩
theorem ownInt : OwnQ RInt := ⟨fun cs x R h hk => RInt.keep cs x R h hk, fun cs x R h => RInt.lt cs x R h, fun hl cs x R h => RInt.le hl cs x R h⟩
theorem ownLFun : OwnQ RLinkFun := ⟨fun cs x R h hk => RLinkFun.keep cs x R h hk, fun cs x R h => RLinkFun.lt cs x R h, fun hl cs x R h => RLinkFun.le hl cs x R h⟩
/-- An object, while it grows. -/
abbrev Ji (σ : Heap) (o : LinkImage) (vr vf : V) (σi : Heap) (Rr Rf : List Nat) : Prop := J2 1 6 RInt RLFunA σ o.mains o.funs vr vf σi Rr Rf
/-- An instruction behind those of a function. -/
theorem Ji.ins {σ σi : Heap} {o : LinkImage} {vr vf : V} {Rr Rf : List Nat} (h : Ji σ o vr vf σi Rr Rf) {i : Nat} {f : LinkFun} (hf : o.funs[i]? = some f) (x : CodeIns) (hl : f.code.length ≤ 2097152) :
    ∃ r o' vc vc' σ', vidx 6 vf (i : Int) = some (r, o') ∧ rdc σi r (o' + 5) 1 = some [vc] ∧ vappend 2 16 σi vc 1 [.int .i64 x.op, .int .i64 x.a] = some (vc', σ') ∧ isSl vc' = true ∧
      ∃ σ'' Rr' Rf', wrc σ' r (o' + 5) [vc'] = some σ'' ∧ J2 1 6 RInt RLFunA σ o.mains (o.funs.set i { f with code := f.code ++ [x] }) vr vf σ'' Rr' Rf' := by
  have e46 : (2 : Nat) ^ 46 = 70368744177664 := by decide
  obtain ⟨r, o', cs, Rx, k1, k2, k3, ⟨va, Ra, vc, Rc, rfl, g2, g3, g4, rfl⟩, k5, k6⟩ := h.swap.edit1 ownLFunA ownInt hf
  obtain ⟨na, nc, dac⟩ := nodup_sub (c := []) k5
  have ltA := g2.lt fun cs x R h => RInt.lt cs x R h
  have ltC := g3.lt fun cs x R h => RCodeIns.lt cs x R h
  obtain ⟨vc', σ', Rc', a1, a2, a3, a4, a5, a6, a7⟩ := g3.app (bytes := 16) (Q := RCodeIns) g4 (x := x) (cs := [.int .i64 x.op, .int .i64 x.a]) (Rx := []) ⟨rfl, rfl⟩ rfl (fun cs x R h k => RCodeIns.keep cs x R h k) (fun cs x R h => RCodeIns.lt cs x R h) (by simpa using nc) (by omega) (by omega)
  have e5 := rdc_sub k2 5 1 (by omega)
  refine ⟨r, o', vc, vc', σ', k1, e5, a1, a2.isSl, ?_⟩
  have hin : ∀ j, j ∈ Rc' → j ∈ Rc ∨ σi.length ≤ j := fun j hj => by
    rcases a5 j hj with hj | hj | hj
    · exact .inr (by omega)
    · exact .inl hj
    · cases hj
  have dRa : ∀ j, j ∈ Ra → j ∉ Rc' := fun j hj hc => by
    rcases hin j hc with hc | hc
    · exact dac j hj hc
    · have := ltA j hj; omega
  obtain ⟨σ'', Rf', b1, b2⟩ := k6 σ' { f with code := f.code ++ [x] } (Ra ++ Rc') 5 [vc'] (by simp) (by omega) (fun j hj hn => a7 j hj fun hc => hn (List.mem_append_right _ hc)) (fun σ2 hk => by
      refine ⟨va, Ra, vc', Rc', rfl, g2.keep (fun j hj => ?_) (fun cs x R h k => RInt.keep cs x R h k), a2.keep (fun j hj => hk j (List.mem_append_right _ hj)) (fun cs x R h k => RCodeIns.keep cs x R h k), a3, rfl⟩
      rw [hk j (List.mem_append_left _ hj), a7 j (ltA j hj) fun hc => dac j hj hc]) (nodup_app na a4 fun a ha b hb hab => dRa a ha (hab ▸ hb)) (fun j hj => by
      rcases List.mem_append.1 hj with hj | hj
      · exact .inl (List.mem_append_left _ hj)
      · rcases hin j hj with hj | hj
        · exact .inl (List.mem_append_right _ hj)
        · exact .inr hj)
  exact ⟨σ'', Rr, Rf', b1, b2.swap⟩
/-- An object in rows of its own. -/
def ImgW (σ : Heap) (o : LinkImage) (vr vf : V) (σ' : Heap) (R : List Nat) : Prop := ∃ Rr Rf, J2 1 6 RInt RLinkFun σ o.mains o.funs vr vf σ' Rr Rf ∧ R = Rr ++ Rf
theorem Ji.obj {σ σi : Heap} {o : LinkImage} {vr vf : V} {Rr Rf : List Nat} (h : Ji σ o vr vf σi Rr Rf) : ImgW σ o vr vf σi (Rr ++ Rf) :=
  ⟨Rr, Rf, ⟨h.f, h.f0, h.g.le (Lh.refl _) (fun cs x R h => RLFunA.fn cs x R h), h.g0, h.nd, h.lo, h.le⟩, rfl⟩
theorem ImgW.rep {σ σ' : Heap} {o : LinkImage} {vr vf : V} {R : List Nat} (h : ImgW σ o vr vf σ' R) : LinkImage.Rep σ' [vf, vr] o := by
  obtain ⟨Rr, Rf, h, rfl⟩ := h
  exact .mk (h.g.rep fun cs x R _ h => RLinkFun.rep cs x R h) (h.f.rep fun cs x R _ h => RInt.rep cs x R h)
theorem ImgW.up {σ σi σ' : Heap} {o : LinkImage} {vr vf : V} {R : List Nat} (h : ImgW σ o vr vf σi R) (hl : Lh σi σ') : ImgW σ o vr vf σ' R := by
  obtain ⟨Rr, Rf, h, rfl⟩ := h
  exact ⟨Rr, Rf, h.up ownInt ownLFun hl, rfl⟩
theorem ImgW.down {σ0 σ σ' : Heap} {o : LinkImage} {vr vf : V} {R : List Nat} (h : ImgW σ o vr vf σ' R) (h0 : Lh σ0 σ) : ImgW σ0 o vr vf σ' R := by
  obtain ⟨Rr, Rf, h, rfl⟩ := h
  exact ⟨Rr, Rf, h.down h0, rfl⟩
theorem ImgW.le {σ σ' : Heap} {o : LinkImage} {vr vf : V} {R : List Nat} (h : ImgW σ o vr vf σ' R) : Lh σ σ' := by
  obtain ⟨Rr, Rf, h, rfl⟩ := h
  exact h.le
theorem ImgW.lo {σ σ' : Heap} {o : LinkImage} {vr vf : V} {R : List Nat} (h : ImgW σ o vr vf σ' R) : ∀ j, j ∈ R → σ.length ≤ j := by
  obtain ⟨Rr, Rf, h, rfl⟩ := h
  exact h.lo
theorem ImgW.none (σ : Heap) : ImgW σ ⟨[], []⟩ .nils .nils σ [] := ⟨[], [], J2.start σ, rfl⟩
/-- The marks of an object, and what holds them. -/
theorem img_marks {σ σi : Heap} {o : LinkImage} {vr vf : V} {R : List Nat} (h : ImgW σ o vr vf σi R) (hb : o.total ≤ 1048576) :
    ∃ L : List Leaf, Runs G n_laws_markLinkImage [.agg [vf, vr], .int .i64 1] σi (.int .i64 ((1 + L.length : Nat) : Int)) (wrs σi 1 L) ∧ L.length ≤ 33554432 ∧ (∀ j, j ∉ R → (wrs σi 1 L)[j]? = σi[j]?) ∧
      ∀ σ', Lh (wrs σi 1 L) σ' → Runs G n_laws_heldLinkImage [.agg [vf, vr], .int .i64 1] σ' (.int .i64 ((1 + L.length : Nat) : Int)) σ' := by
  obtain ⟨R8, R7, h, rfl⟩ := h
  replace h := h.swap
  rw [LinkImage.total_eq] at hb
  obtain ⟨n1, n2, n3⟩ := nodup_sub (c := []) h.nd
  obtain ⟨l7, v7, o7, b7⟩ := h.f.lv (P := PLinkFun σi) (c := fun y => 8 + 8 * LinkFun.wt y) n1 (fun r o cs x R hw hr hq hn hrn => RLinkFun.lv r o cs x R hw hr hq hn hrn)
  rw [totS_lin] at b7
  have t7 := totS_mono (f := LinkFun.wt) (g := LinkFun.total) LinkFun.wt_le o.funs
  obtain ⟨l8, v8, o8, b8⟩ := h.g.lv (P := PInt σi) (c := fun _ => 8) n2 (fun r o cs x R hw hr hq hn hrn => RInt.lv r o cs x R hw hr hq hn hrn)
  rw [totS_eight] at b8
  have hcells : ∀ k r o, (k, r, o) ∈ l7.flatten ++ l8.flatten → cellAt σi r o ≠ none := fun k r o hm => by
    rcases List.mem_append.1 hm with hm | hm
    · exact v7.cells (fun r o ls h => PLinkFun.cells h) k r o hm
    · exact v8.cells (fun r o ls h => PInt.cells h) k r o hm
  have hnd : ((l7.flatten ++ l8.flatten).map fun l => l.2).Nodup := by
    rw [List.map_append, List.nodup_append]
    refine ⟨o7.1, o8.1, fun a ha b hb hab => ?_⟩
    subst hab
    obtain ⟨x, hx, e1⟩ := List.mem_map.1 ha
    obtain ⟨y, hy, e2⟩ := List.mem_map.1 hb
    have h1 := o7.2 x hx
    have h2 := o8.2 y hy
    rw [e1] at h1
    rw [e2] at h2
    exact n3 _ h1 h2
  have hheld := held_wrs (l7.flatten ++ l8.flatten) (σ := σi) (n := 1) hcells hnd
  obtain ⟨m7, s7⟩ := markLinkFunS_lv (σ0 := σi) (σ := σi) (n := 1) (A := []) (Shp.refl _) v7 (Nat.le_refl _) (by simp only [List.length_nil]; omega)
  obtain ⟨m8, s8⟩ := markIntS_lv (σ0 := σi) (σ := σi) (n := 1) s7 v8 (Nat.le_refl _) (by simp only [List.length_append, List.length_nil]; omega)
  simp only [List.nil_append] at m7 m8 s7 s8
  refine ⟨l7.flatten ++ l8.flatten, ?_, by rw [List.length_append]; omega, fun j hj => wrs_out _ fun l hl he => ?_, fun σ' hl => ?_⟩
  · refine Runs.of (W.to (fun k _ => laws_markLinkImage.eq k _ _ _ _) ?_)
    refine W.run m7 ?_
    try simp only [q_bind_some, castInt_int, q_castBool, q_castStr, q_castPtr, q_castFn, q_castAgg, q_castTuple, q_uncons, q_isNil, q_sl, q_nils, q_emp, q_ptr, q_nilp, q_fn, q_cond_true, q_cond_false, Bool.not_true, Bool.not_false, decide_true, decide_false, List.cons_append, List.nil_append]
    refine W.run m8 ?_
    try simp only [q_bind_some, castInt_int, q_castBool, q_castStr, q_castPtr, q_castFn, q_castAgg, q_castTuple, q_uncons, q_isNil, q_sl, q_nils, q_emp, q_ptr, q_nilp, q_fn, q_cond_true, q_cond_false, Bool.not_true, Bool.not_false, decide_true, decide_false, List.cons_append, List.nil_append]
    exact W.ret ⟨rfl, rfl⟩
  · rcases List.mem_append.1 hl with hl | hl
    · exact hj (List.mem_append_right _ (he ▸ o7.2 l hl))
    · exact hj (List.mem_append_left _ (he ▸ o8.2 l hl))
  · obtain ⟨u7, u8⟩ := (hheld.le hl).app
    have hs := s8.le hl
    have c7 := heldLinkFunS_lv hs v7 u7 (Nat.le_refl _) (by omega)
    have c8 := heldIntS_lv hs v8 u8 (by omega) (by omega)
    refine Runs.of (W.to (fun k _ => laws_heldLinkImage.eq k _ _ _ _) ?_)
    refine W.run c7 ?_
    have p1 : ¬ (((1 + l7.flatten.length : Nat) : Int) < 0) := by omega
    try simp only [q_bind_some, castInt_int, q_castBool, q_castStr, q_castPtr, q_castFn, q_castAgg, q_castTuple, q_uncons, q_isNil, q_sl, q_nils, q_emp, q_ptr, q_nilp, q_fn, q_cond_true, q_cond_false, Bool.not_true, Bool.not_false, decide_true, decide_false, List.cons_append, List.nil_append, p1]
    refine W.run c8 ?_
    have p2 : ¬ (((1 + l7.flatten.length + l8.flatten.length : Nat) : Int) < 0) := by omega
    try simp only [q_bind_some, castInt_int, q_castBool, q_castStr, q_castPtr, q_castFn, q_castAgg, q_castTuple, q_uncons, q_isNil, q_sl, q_nils, q_emp, q_ptr, q_nilp, q_fn, q_cond_true, q_cond_false, Bool.not_true, Bool.not_false, decide_true, decide_false, List.cons_append, List.nil_append, p2]
    exact W.ret ⟨by rw [List.length_append, Nat.add_assoc], rfl⟩
end Go.F

/- Images read: plain. What an image's text is, and what is read of it. -/
set_option linter.unusedVariables false
set_option linter.unusedSimpArgs false
namespace Go.F
open Go.HM Go.Proofs
/-- A function of an image that is right. -/
def LFunOk (f : LinkFun) : Prop := IsName f.mod ∧ HeadIs f.name f.args f.type f.slots ∧ f.code.length ≤ 460 ∧ ∀ x, x ∈ f.code → InsOk x
noncomputable instance (f : LinkFun) : Decidable (LFunOk f) := Classical.propDecidable _
def lcodes (l : List LinkFun) : Nat := totS (fun f => f.code.length) l
def ImgIs (m : LinkImage) : Prop := m.funs.length ≤ 72 ∧ m.mains.length ≤ 8 ∧ lcodes m.funs ≤ 3680 ∧ (∀ f, f ∈ m.funs → LFunOk f) ∧ ∀ n, n ∈ m.mains → 0 ≤ n ∧ n ≤ (m.funs.length : Int) - 1
noncomputable instance (m : LinkImage) : Decidable (ImgIs m) := Classical.propDecidable _
def lfunL (f : LinkFun) : List UInt8 := [102, 117, 110, 32] ++ f.mod.data.toList ++ [46] ++ f.name.data.toList ++ [32] ++ headL f.args f.type f.slots ++ [10]
def lwholeL (f : LinkFun) : List UInt8 := lfunL f ++ codeL f.code
def mainL (n : Int) : List UInt8 := [109, 97, 105, 110, 32] ++ Lib.itoa n ++ [10]
def imgL (m : LinkImage) : List UInt8 := [105, 109, 97, 103, 101, 10] ++ catL lwholeL m.funs m.funs.length ++ catL mainL m.mains m.mains.length
/-! What is read. -/
def mainB : List UInt8 := [109, 97, 105, 110]
def addLIns (l : List LinkFun) (x : CodeIns) : List LinkFun := match l[l.length - 1]? with
  | some f => l.set (l.length - 1) { f with code := f.code ++ [x] }
  | none => l
theorem addLIns_last (F : List LinkFun) (f : LinkFun) (x : CodeIns) : addLIns (F ++ [f]) x = F ++ [{ f with code := f.code ++ [x] }] := by
  unfold addLIns
  have : (F ++ [f]).length - 1 = F.length := by simp
  rw [this, List.getElem?_append_right (Nat.le_refl _)]
  simp
def lstepP (m : LinkImage) (ws : List (List UInt8)) : LinkImage :=
  if wd ws 0 = mainB ∧ ws.length = 2 then ⟨m.funs, m.mains ++ [numR (wd ws 1)]⟩
  else if wd ws 0 = funW ∧ ws.length = 5 then ⟨m.funs ++ [⟨ba (cutAt 46 (wd ws 1)).1, ba (cutAt 46 (wd ws 1)).2, argR (wd ws 2), typeNo (ba (wd ws 3)), numR (wd ws 4), []⟩], m.mains⟩
  else if ws.length = 2 ∧ 0 < m.funs.length then ⟨addLIns m.funs ⟨opNo (ba (wd ws 0)), numR (wd ws 1)⟩, m.mains⟩
  else m
/-- The two names, by the reference. -/
def dotQ (w : List UInt8) : List UInt8 × List UInt8 := if 0 ≤ Lib.indexByte w 46 then (w.take (Lib.indexByte w 46).toNat, w.drop ((Lib.indexByte w 46).toNat + 1)) else ([], [])
noncomputable def lstepQ (m : LinkImage) (ws : List (List UInt8)) : LinkImage :=
  if ws.length = 5 ∧ wd ws 0 = funW then ⟨m.funs ++ [⟨ba (dotQ (wd ws 1)).1, ba (dotQ (wd ws 1)).2, argR (wd ws 2), typeNo (ba (wd ws 3)), (num (wd ws 4)).1, []⟩], m.mains⟩
  else if ws.length = 2 ∧ wd ws 0 = mainB then ⟨m.funs, m.mains ++ [(num (wd ws 1)).1]⟩
  else if ws.length = 2 ∧ 0 < m.funs.length then ⟨addLIns m.funs (insQ ws), m.mains⟩
  else m
def imgP (t : List UInt8) : LinkImage := (splitL 10 (trimL 10 t)).foldl (fun o l => lstepP o (wordsP l)) ⟨[], []⟩
noncomputable def imgQ (t : List UInt8) : LinkImage := (((splitL 10 t).take ((splitL 10 t).length - 1)).drop 1).foldl (fun o l => lstepQ o (wordsQ l)) ⟨[], []⟩
/-! The lines of an image. -/
def lfunO (f : LinkFun) : List UInt8 := funW ++ 32 :: ((f.mod.data.toList ++ 46 :: f.name.data.toList) ++ 32 :: (argL f.args ++ 32 :: ((tword f.type).data.toList ++ 32 :: Lib.itoa f.slots)))
def lwholeO (f : LinkFun) : List (List UInt8) := lfunO f :: f.code.map insO
def mainO (n : Int) : List UInt8 := mainB ++ 32 :: Lib.itoa n
def linesI (m : LinkImage) : List (List UInt8) := [105, 109, 97, 103, 101] :: ((m.funs.map lwholeO).flatten ++ m.mains.map mainO)
theorem lfunL_O (f : LinkFun) : lfunL f = lfunO f ++ [10] := by simp [lfunL, lfunO, funW, headL]
theorem mainL_O (n : Int) : mainL n = mainO n ++ [10] := by simp [mainL, mainO, mainB]
theorem lwholeL_O (f : LinkFun) : lwholeL f = lns (lwholeO f) := by
  unfold lwholeL lwholeO codeL
  rw [lns_cons, lfunL_O, cat_lns insL_O]
theorem imgL_O (m : LinkImage) : imgL m = lns (linesI m) := by
  unfold imgL linesI
  rw [lns_cons, lns_app, cat_lns mainL_O, cat_lnss lwholeL_O]
  simp
theorem lfunO_no {f : LinkFun} (h : LFunOk f) : (10 : UInt8) ∉ lfunO f := by
  have h0 := name_low (c := 10) (.inl h.1) (by decide)
  have h1 := name_low (c := 10) h.2.1.1 (by decide)
  have h2 := argL_low (c := 10) (by decide) (by decide) (by decide) f.args
  have h3 := word_low f.type (c := 10) (by decide)
  have h4 := itoa_no (c := 10) (by decide) (by decide) f.slots
  unfold lfunO funW
  simp [h0, h1, h2, h3, h4]
theorem mainO_no (n : Int) : (10 : UInt8) ∉ mainO n := by
  have h2 := itoa_no (c := 10) (by decide) (by decide) n
  unfold mainO mainB
  simp [h2]
theorem linesI_no {m : LinkImage} (h : ImgIs m) : ∀ x, x ∈ linesI m → (10 : UInt8) ∉ x := fun x hx => by
  unfold linesI at hx
  rcases List.mem_cons.1 hx with rfl | hx
  · decide
  rcases List.mem_append.1 hx with hx | hx
  · obtain ⟨ls, hls, hx⟩ := List.mem_flatten.1 hx
    obtain ⟨f, hf, rfl⟩ := List.mem_map.1 hls
    rcases List.mem_cons.1 hx with rfl | hx
    · exact lfunO_no (h.2.2.2.1 f hf)
    · obtain ⟨y, _, rfl⟩ := List.mem_map.1 hx
      exact insO_no y
  · obtain ⟨n, hn, rfl⟩ := List.mem_map.1 hx
    exact mainO_no n
theorem lfunO_ws {f : LinkFun} (h : LFunOk f) : splitL 32 (lfunO f) = [funW, f.mod.data.toList ++ 46 :: f.name.data.toList, argL f.args, (tword f.type).data.toList, Lib.itoa f.slots] := by
  have h0 := name_low (c := 32) (.inl h.1) (by decide)
  have h1 := name_low (c := 32) h.2.1.1 (by decide)
  unfold lfunO
  rw [split_at (by decide), split_at (by simp [h0, h1]), split_at (argL_low (by decide) (by decide) (by decide) _), split_at (word_low _ (by decide)), split_plain (itoa_no (by decide) (by decide) _)]
theorem mainO_ws (n : Int) : splitL 32 (mainO n) = [mainB, Lib.itoa n] := by
  unfold mainO
  rw [split_at (by decide), split_plain (itoa_no (by decide) (by decide) _)]
theorem lstepP_fun {f : LinkFun} (h : LFunOk f) (o : LinkImage) : lstepP o (wordsP (lfunO f)) = ⟨o.funs ++ [{ f with code := [] }], o.mains⟩ := by
  unfold wordsP
  rw [lfunO_ws h]
  unfold lstepP
  have e0 : wd [funW, f.mod.data.toList ++ 46 :: f.name.data.toList, argL f.args, (tword f.type).data.toList, Lib.itoa f.slots] 0 = funW := rfl
  have e1 : wd [funW, f.mod.data.toList ++ 46 :: f.name.data.toList, argL f.args, (tword f.type).data.toList, Lib.itoa f.slots] 1 = f.mod.data.toList ++ 46 :: f.name.data.toList := rfl
  have e2 : wd [funW, f.mod.data.toList ++ 46 :: f.name.data.toList, argL f.args, (tword f.type).data.toList, Lib.itoa f.slots] 2 = argL f.args := rfl
  have e3 : wd [funW, f.mod.data.toList ++ 46 :: f.name.data.toList, argL f.args, (tword f.type).data.toList, Lib.itoa f.slots] 3 = (tword f.type).data.toList := rfl
  have e4 : wd [funW, f.mod.data.toList ++ 46 :: f.name.data.toList, argL f.args, (tword f.type).data.toList, Lib.itoa f.slots] 4 = Lib.itoa f.slots := rfl
  have hH := h.2.1
  rw [if_neg (fun hc => absurd (e0.symm.trans hc.1) (by decide)), if_pos ⟨e0, rfl⟩, e1, e2, e3, e4, cutAt_at (name_low (.inl h.1) (by decide))]
  simp only
  rw [← ba_self, ← ba_self, ← ba_self, argR_L hH.2.1, typeNo_word hH.2.2.1, numR_itoa (by have := hH.2.2.2; omega) (by have := hH.2.2.2; omega)]
theorem lstepP_main {n : Int} (h0 : 0 ≤ n) (h1 : n ≤ 100) (o : LinkImage) : lstepP o (wordsP (mainO n)) = ⟨o.funs, o.mains ++ [n]⟩ := by
  unfold wordsP
  rw [mainO_ws]
  unfold lstepP
  have e0 : wd [mainB, Lib.itoa n] 0 = mainB := rfl
  have e1 : wd [mainB, Lib.itoa n] 1 = Lib.itoa n := rfl
  rw [if_pos ⟨e0, rfl⟩, e1, numR_itoa (by omega) (by omega)]
theorem opw_not' {n : Int} (h1 : 1 ≤ n) (h2 : n ≤ 10) : (opw n).data.toList ≠ mainB := by
  have key : ∀ s, s ∈ opws → s.data.toList ≠ mainB := by unfold opws mainB; decide
  exact key _ (opw_in h1 h2)
theorem lstepP_ins {x : CodeIns} (h : InsOk x) (o : LinkImage) (F : List LinkFun) (f : LinkFun) (ho : o.funs = F ++ [f]) : lstepP o (wordsP (insO x)) = ⟨F ++ [{ f with code := f.code ++ [x] }], o.mains⟩ := by
  obtain ⟨b1, b2, b3, b4⟩ := ins_b h
  unfold wordsP
  rw [insO_ws]
  unfold lstepP
  have e0 : wd [(opw x.op).data.toList, Lib.itoa x.a] 0 = (opw x.op).data.toList := rfl
  have e1 : wd [(opw x.op).data.toList, Lib.itoa x.a] 1 = Lib.itoa x.a := rfl
  obtain ⟨n1, n2, _⟩ := opw_not b3 b4
  have n3 := opw_not' b3 b4
  rw [if_neg (by rw [e0]; exact fun hc => n3 hc.1), if_neg (by rw [e0]; exact fun hc => n2 hc.1), if_pos ⟨rfl, by rw [ho]; simp⟩, e0, e1, ho, ← ba_self, opNo_w b3 b4, numR_itoa b1 b2, addLIns_last]
theorem ifold_back {st : LinkImage → List UInt8 → LinkImage} {o : LinkImage} (h : ImgIs o) (h1 : ∀ n, 0 ≤ n → n ≤ 100 → ∀ o, st o (mainO n) = ⟨o.funs, o.mains ++ [n]⟩) (h2 : ∀ f, LFunOk f → ∀ o, st o (lfunO f) = ⟨o.funs ++ [{ f with code := [] }], o.mains⟩)
    (h3 : ∀ x, InsOk x → ∀ (o : LinkImage) (F : List LinkFun) (f : LinkFun), o.funs = F ++ [f] → st o (insO x) = ⟨F ++ [{ f with code := f.code ++ [x] }], o.mains⟩) : ((o.funs.map lwholeO).flatten ++ o.mains.map mainO).foldl st ⟨[], []⟩ = o := by
  have k1 : ∀ (l : List Int), (∀ n, n ∈ l → 0 ≤ n ∧ n ≤ 100) → ∀ o : LinkImage, (l.map mainO).foldl st o = ⟨o.funs, o.mains ++ l⟩ := fun l => by
    induction l with
    | nil => intro _ o; simp
    | cons r l ih =>
      intro hl o
      rw [List.map_cons, List.foldl_cons, h1 r (hl r (by simp)).1 (hl r (by simp)).2, ih fun x hx => hl x (by simp [hx])]
      simp
  have k2 : ∀ (l : List CodeIns), (∀ x, x ∈ l → InsOk x) → ∀ (R : List Int) (F : List LinkFun) (f : LinkFun), (l.map insO).foldl st ⟨F ++ [f], R⟩ = ⟨F ++ [{ f with code := f.code ++ l }], R⟩ := fun l => by
    induction l with
    | nil => intro _ R F f; simp
    | cons x l ih =>
      intro hl R F f
      rw [List.map_cons, List.foldl_cons, h3 x (hl x (by simp)) _ F f rfl, ih fun y hy => hl y (by simp [hy])]
      simp
  have k3 : ∀ (l : List LinkFun), (∀ f, f ∈ l → LFunOk f) → ∀ (R : List Int) (F : List LinkFun), ((l.map lwholeO).flatten).foldl st ⟨F, R⟩ = ⟨F ++ l, R⟩ := fun l => by
    induction l with
    | nil => intro _ R F; simp
    | cons f l ih =>
      intro hl R F
      rw [List.map_cons, List.flatten_cons, List.foldl_append]
      have : (lwholeO f).foldl st ⟨F, R⟩ = ⟨F ++ [f], R⟩ := by
        unfold lwholeO
        rw [List.foldl_cons, h2 f (hl f (by simp))]
        simp only
        rw [k2 f.code (hl f (by simp)).2.2.2]
        simp
      rw [this, ih fun y hy => hl y (by simp [hy])]
      simp
  rw [List.foldl_append, k3 o.funs h.2.2.2.1]
  simp only [List.nil_append]
  rw [k1 o.mains fun n hn => ⟨(h.2.2.2.2 n hn).1, by have := h.2.2.2.2 n hn; have := h.1; omega⟩]
  simp
theorem imgP_back {o : LinkImage} (h : ImgIs o) : imgP (imgL o) = o := by
  unfold imgP
  rw [imgL_O, trim_lns _ (by simp [linesI]) (linesI_no h)]
  unfold linesI
  rw [List.foldl_cons]
  have : lstepP ⟨[], []⟩ (wordsP [105, 109, 97, 103, 101]) = ⟨[], []⟩ := by
    unfold wordsP
    rw [split_plain (by decide)]
    rfl
  rw [this]
  exact ifold_back h (fun n h0 h1 o => lstepP_main h0 h1 o) (fun f hf o => lstepP_fun hf o) fun x hx o F f ho => lstepP_ins hx o F f ho
theorem dotQ_at {a : List UInt8} (h : (46 : UInt8) ∉ a) (b : List UInt8) : dotQ (a ++ 46 :: b) = (a, b) := by
  unfold dotQ
  have h3 := idx_at h b
  rw [h3, if_pos (by omega), Int.toNat_natCast, List.take_left]
  have h4 : (a ++ 46 :: b).drop (a.length + 1) = b := by
    rw [show a.length + 1 = (a ++ [46]).length by simp, show a ++ 46 :: b = (a ++ [46]) ++ b by simp]
    exact List.drop_left
  rw [h4]
theorem lstepQ_fun {f : LinkFun} (h : LFunOk f) (o : LinkImage) : lstepQ o (wordsQ (lfunO f)) = ⟨o.funs ++ [{ f with code := [] }], o.mains⟩ := by
  have hH := h.2.1
  unfold wordsQ
  rw [lfunO_ws h, filt_id (by
    intro x hx
    simp only [List.mem_cons, List.not_mem_nil, or_false] at hx
    rcases hx with rfl | rfl | rfl | rfl | rfl
    · decide
    · simp
    · exact argL_ne _
    · exact word_ne hH.2.2.1
    · exact itoa_ne _)]
  unfold lstepQ
  have e0 : wd [funW, f.mod.data.toList ++ 46 :: f.name.data.toList, argL f.args, (tword f.type).data.toList, Lib.itoa f.slots] 0 = funW := rfl
  have e1 : wd [funW, f.mod.data.toList ++ 46 :: f.name.data.toList, argL f.args, (tword f.type).data.toList, Lib.itoa f.slots] 1 = f.mod.data.toList ++ 46 :: f.name.data.toList := rfl
  have e2 : wd [funW, f.mod.data.toList ++ 46 :: f.name.data.toList, argL f.args, (tword f.type).data.toList, Lib.itoa f.slots] 2 = argL f.args := rfl
  have e3 : wd [funW, f.mod.data.toList ++ 46 :: f.name.data.toList, argL f.args, (tword f.type).data.toList, Lib.itoa f.slots] 3 = (tword f.type).data.toList := rfl
  have e4 : wd [funW, f.mod.data.toList ++ 46 :: f.name.data.toList, argL f.args, (tword f.type).data.toList, Lib.itoa f.slots] 4 = Lib.itoa f.slots := rfl
  rw [if_pos ⟨rfl, e0⟩, e1, e2, e3, e4, dotQ_at (name_low (.inl h.1) (by decide))]
  simp only
  rw [← ba_self, ← ba_self, ← ba_self, argR_L hH.2.1, typeNo_word hH.2.2.1, num_itoa (by have := hH.2.2.2; omega) (by have := hH.2.2.2; omega)]
theorem lstepQ_main {n : Int} (h0 : 0 ≤ n) (h1 : n ≤ 100) (o : LinkImage) : lstepQ o (wordsQ (mainO n)) = ⟨o.funs, o.mains ++ [n]⟩ := by
  unfold wordsQ
  rw [mainO_ws, filt_id (by
    intro x hx
    simp only [List.mem_cons, List.not_mem_nil, or_false] at hx
    rcases hx with rfl | rfl
    · decide
    · exact itoa_ne _)]
  unfold lstepQ
  have e0 : wd [mainB, Lib.itoa n] 0 = mainB := rfl
  have e1 : wd [mainB, Lib.itoa n] 1 = Lib.itoa n := rfl
  rw [if_neg (fun hc => absurd hc.1 (show ¬ (2 : Nat) = 5 by decide)), if_pos ⟨rfl, e0⟩, e1, num_itoa (by omega) (by omega)]
theorem lstepQ_ins {x : CodeIns} (h : InsOk x) (o : LinkImage) (F : List LinkFun) (f : LinkFun) (ho : o.funs = F ++ [f]) : lstepQ o (wordsQ (insO x)) = ⟨F ++ [{ f with code := f.code ++ [x] }], o.mains⟩ := by
  obtain ⟨b1, b2, b3, b4⟩ := ins_b h
  obtain ⟨n1, n2, n3⟩ := opw_not b3 b4
  have n4 := opw_not' b3 b4
  unfold wordsQ
  rw [insO_ws, filt_id (by
    intro y hy
    simp only [List.mem_cons, List.not_mem_nil, or_false] at hy
    rcases hy with rfl | rfl
    · exact n3
    · exact itoa_ne _)]
  unfold lstepQ insQ
  have e0 : wd [(opw x.op).data.toList, Lib.itoa x.a] 0 = (opw x.op).data.toList := rfl
  have e1 : wd [(opw x.op).data.toList, Lib.itoa x.a] 1 = Lib.itoa x.a := rfl
  rw [if_neg (by rw [e0]; exact fun hc => n2 hc.2), if_neg (by rw [e0]; exact fun hc => n4 hc.2), if_pos ⟨rfl, by rw [ho]; simp⟩, e0, e1, ho, ← ba_self, if_pos (opw_in b3 b4), opNo_w b3 b4, num_itoa b1 b2, addLIns_last]
theorem imgQ_back {o : LinkImage} (h : ImgIs o) : imgQ (imgL o) = o := by
  unfold imgQ
  rw [imgL_O, split_lns _ (linesI_no h)]
  have e : ((linesI o ++ [[]]).take ((linesI o ++ [[]]).length - 1)).drop 1 = (o.funs.map lwholeO).flatten ++ o.mains.map mainO := by
    have : (linesI o ++ [[]]).length - 1 = (linesI o).length := by simp
    rw [this, List.take_left]
    rfl
  rw [e]
  exact ifold_back h (fun n h0 h1 o => lstepQ_main h0 h1 o) (fun f hf o => lstepQ_fun hf o) fun x hx o F f ho => lstepQ_ins hx o F f ho
def RdI (t : List UInt8) (o : LinkImage) : Prop := ImgIs o ∧ imgL o = t
theorem rdI_P {t : List UInt8} {o : LinkImage} (h : RdI t o) : imgP t = o := by rw [← h.2]; exact imgP_back h.1
theorem rdI_Q {t : List UInt8} {o : LinkImage} (h : RdI t o) : imgQ t = o := by rw [← h.2]; exact imgQ_back h.1
/-! How large it may be. -/
def LFunB (f : LinkFun) : Prop := (∀ n, n ∈ f.args → 0 ≤ n ∧ n ≤ 3) ∧ (0 ≤ f.type ∧ f.type ≤ 3) ∧ (-9223372036854775808 ≤ f.slots ∧ f.slots ≤ 9223372036854775807) ∧ ∀ x, x ∈ f.code → (0 ≤ x.op ∧ x.op ≤ 10) ∧ (-9223372036854775808 ≤ x.a ∧ x.a ≤ 9223372036854775807)
def ImgB (o : LinkImage) (n : Nat) : Prop := (∀ f, f ∈ o.funs → LFunB f) ∧ (∀ n, n ∈ o.mains → -9223372036854775808 ≤ n ∧ n ≤ 9223372036854775807) ∧ o.total ≤ n
theorem img_fit {o : LinkImage} {n : Nat} (h : ImgB o n) (hn : n ≤ 1048576) : o.Fit := by
  obtain ⟨h1, h2, ht⟩ := h
  rw [LinkImage.total_eq] at ht
  refine .mk (by omega) (fun f hf => ?_) (by omega) h2
  have := tot_mem (f := LinkFun.total) hf
  rw [LinkFun.total_eq] at this
  obtain ⟨a, b, c, d⟩ := h1 f hf
  refine .mk (by omega) (by omega) (by omega) (fun x hx => ?_) ?_ c (by omega) fun x hx => ?_
  · have := a x hx; omega
  · omega
  · have := d x hx
    exact .mk (by omega) this.2
theorem addLIns_len (l : List LinkFun) (x : CodeIns) : (addLIns l x).length = l.length := by
  unfold addLIns
  split <;> simp
theorem addLIns_tot (l : List LinkFun) (x : CodeIns) : totS LinkFun.total (addLIns l x) ≤ totS LinkFun.total l + 1 := by
  unfold addLIns
  split
  · rename_i f hf
    have := totS_set (f := LinkFun.total) hf { f with code := f.code ++ [x] }
    have e : LinkFun.total { f with code := f.code ++ [x] } = f.total + 1 := by
      rw [LinkFun.total_eq, LinkFun.total_eq]
      simp only [List.length_append, List.length_cons, List.length_nil, totS_append]
      simp only [totS, CodeIns.total_eq]
      omega
    omega
  · omega
theorem addLIns_B {l : List LinkFun} {x : CodeIns} (h : ∀ f, f ∈ l → LFunB f) (hx : (0 ≤ x.op ∧ x.op ≤ 10) ∧ (-9223372036854775808 ≤ x.a ∧ x.a ≤ 9223372036854775807)) : ∀ f, f ∈ addLIns l x → LFunB f := fun f hf => by
  unfold addLIns at hf
  split at hf
  · rename_i g hg
    rcases List.mem_or_eq_of_mem_set hf with hf | rfl
    · exact h f hf
    · obtain ⟨a, b, c, d⟩ := h g (List.mem_of_getElem? hg)
      refine ⟨a, b, c, fun y hy => ?_⟩
      rcases List.mem_append.1 hy with hy | hy
      · exact d y hy
      · simp only [List.mem_singleton] at hy
        rw [hy]
        exact hx
  · exact h f hf
theorem lstep_main {o : LinkImage} {n m : Nat} (h : ImgB o n) (k : Int) (hk : -9223372036854775808 ≤ k ∧ k ≤ 9223372036854775807) (hr : 1 ≤ m) : ImgB ⟨o.funs, o.mains ++ [k]⟩ (n + m) := by
  refine ⟨h.1, fun j hj => ?_, ?_⟩
  · rcases List.mem_append.1 hj with hj | hj
    · exact h.2.1 j hj
    · simp only [List.mem_singleton] at hj
      rw [hj]
      exact hk
  have := h.2.2
  rw [LinkImage.total_eq] at this ⊢
  simp only [List.length_append, List.length_cons, List.length_nil, totS_append]
  simp only [totS]
  omega
theorem lstep_fun {o : LinkImage} {n m : Nat} (h : ImgB o n) (f : LinkFun) (hf : LFunB f) (hc : f.code = []) (hr : f.mod.size + f.name.size + f.args.length + 1 ≤ m) : ImgB ⟨o.funs ++ [f], o.mains⟩ (n + m) := by
  refine ⟨fun g hg => ?_, h.2.1, ?_⟩
  · rcases List.mem_append.1 hg with hg | hg
    · exact h.1 g hg
    · simp only [List.mem_singleton] at hg
      rw [hg]
      exact hf
  have := h.2.2
  rw [LinkImage.total_eq] at this ⊢
  have e : f.total = f.mod.size + f.name.size + f.args.length := by
    rw [LinkFun.total_eq, hc, tot_const]
    simp [totS]
  simp only [List.length_append, List.length_cons, List.length_nil, totS_append]
  simp only [totS, e]
  omega
theorem lstep_ins {o : LinkImage} {n m : Nat} (h : ImgB o n) (x : CodeIns) (hx : (0 ≤ x.op ∧ x.op ≤ 10) ∧ (-9223372036854775808 ≤ x.a ∧ x.a ≤ 9223372036854775807)) (hr : 1 ≤ m) : ImgB ⟨addLIns o.funs x, o.mains⟩ (n + m) := by
  refine ⟨addLIns_B h.1 hx, h.2.1, ?_⟩
  have := h.2.2
  have h2 := addLIns_tot o.funs x
  rw [LinkImage.total_eq] at this ⊢
  simp only [addLIns_len]
  omega
theorem ws5 {ws : List (List UInt8)} (h : ws.length = 5) : (wd ws 1).length + (wd ws 2).length ≤ totS List.length ws := by
  match ws, h with
  | [a, b, c, d, e], _ => simp only [wd, totS]; simp; omega
theorem lstepP_B {o : LinkImage} {n : Nat} (h : ImgB o n) (ws : List (List UInt8)) : ImgB (lstepP o ws) (n + (totS List.length ws + 2)) := by
  unfold lstepP
  split
  · exact lstep_main h _ (numR_b _) (by omega)
  split
  · rename_i h2
    refine lstep_fun h _ ⟨argR_b _, typeNo_b _, numR_b _, fun x hx => (List.not_mem_nil hx).elim⟩ rfl ?_
    have := cut_tot 46 (wd ws 1)
    have := argR_len (wd ws 2)
    have := ws5 h2.2
    simp only [ba_size]
    omega
  split
  · exact lstep_ins h _ ⟨opNo_b _, numR_b _⟩ (by omega)
  · exact ⟨h.1, h.2.1, by have := h.2.2; omega⟩
theorem dotQ_len (w : List UInt8) : (dotQ w).1.length + (dotQ w).2.length ≤ w.length := by
  unfold dotQ
  split
  · simp only [List.length_take, List.length_drop]
    omega
  · simp
theorem lstepQ_B {o : LinkImage} {n : Nat} (h : ImgB o n) (ws : List (List UInt8)) : ImgB (lstepQ o ws) (n + (totS List.length ws + 2)) := by
  unfold lstepQ
  split
  · rename_i h2
    refine lstep_fun h _ ⟨argR_b _, typeNo_b _, num_b _, fun x hx => (List.not_mem_nil hx).elim⟩ rfl ?_
    have := dotQ_len (wd ws 1)
    have := argR_len (wd ws 2)
    have := ws5 h2.1
    simp only [ba_size]
    omega
  split
  · exact lstep_main h _ (num_b _) (by omega)
  split
  · refine lstep_ins h _ ?_ (by omega)
    unfold insQ
    split
    · exact ⟨opNo_b _, num_b _⟩
    · simp
  · exact ⟨h.1, h.2.1, by have := h.2.2; omega⟩
theorem ifold_B {st : LinkImage → List UInt8 → LinkImage} (hs : ∀ o n l, ImgB o n → ImgB (st o l) (n + (l.length + 2))) : ∀ (ls : List (List UInt8)) (o : LinkImage) (n : Nat), ImgB o n → ImgB (ls.foldl st o) (n + (totS List.length ls + 2 * ls.length))
  | [], o, n, h => by simpa [totS] using h
  | l :: ls, o, n, h => by
    have := ifold_B hs ls (st o l) _ (hs o n l h)
    rw [List.foldl_cons]
    refine ⟨this.1, this.2.1, Nat.le_trans this.2.2 ?_⟩
    simp only [totS, List.length_cons]
    omega
theorem ImgB.mono {o : LinkImage} {n m : Nat} (h : ImgB o n) (hm : n ≤ m) : ImgB o m := ⟨h.1, h.2.1, Nat.le_trans h.2.2 hm⟩
theorem izero_B : ImgB ⟨[], []⟩ 0 := ⟨fun f hf => (List.not_mem_nil hf).elim, fun f hf => (List.not_mem_nil hf).elim, Nat.le_refl _⟩
theorem lstepPl_B (o : LinkImage) (n : Nat) (l : List UInt8) (h : ImgB o n) : ImgB (lstepP o (wordsP l)) (n + (l.length + 2)) := (lstepP_B h (wordsP l)).mono (by have := wordsP_tot l; omega)
theorem lstepQl_B (o : LinkImage) (n : Nat) (l : List UInt8) (h : ImgB o n) : ImgB (lstepQ o (wordsQ l)) (n + (l.length + 2)) := (lstepQ_B h (wordsQ l)).mono (by have := wordsQ_tot l; omega)
theorem imgP_B (t : List UInt8) : ImgB (imgP t) (3 * t.length + 2) := by
  have h := ifold_B lstepPl_B (splitL 10 (trimL 10 t)) _ _ izero_B
  refine h.mono ?_
  have h1 := split_tot 10 (trimL 10 t)
  have h2 := split_len 10 (trimL 10 t)
  have h3 := trim_le 10 t
  omega
theorem imgQ_B (t : List UInt8) : ImgB (imgQ t) (3 * t.length + 2) := by
  have h := ifold_B lstepQl_B (((splitL 10 t).take ((splitL 10 t).length - 1)).drop 1) _ _ izero_B
  refine h.mono ?_
  have h1 := split_tot 10 t
  have h2 := split_len 10 t
  have h3 := take_tot List.length (splitL 10 t) ((splitL 10 t).length - 1)
  have h4 := drop_tot List.length ((splitL 10 t).take ((splitL 10 t).length - 1)) 1
  have h5 : (((splitL 10 t).take ((splitL 10 t).length - 1)).drop 1).length ≤ (splitL 10 t).length := by simp; omega
  omega
end Go.F

/- Images that are right, of both. -/
set_option linter.unusedVariables false
set_option linter.unusedSimpArgs false
namespace Go.F
open Go.HM Go.Proofs
theorem lcodes_next {l : List LinkFun} {i : Nat} {x : LinkFun} (h : l[i]? = some x) : lcodes (l.take (i + 1)) = lcodes (l.take i) + x.code.length := by
  unfold lcodes
  rw [take_next' h, totS_append]
  simp [totS]
theorem lcodes_take_le (l : List LinkFun) (i : Nat) : lcodes (l.take i) ≤ lcodes l := take_tot _ l i
theorem lcodes_le (l : List LinkFun) : lcodes l ≤ totS LinkFun.total l := totS_mono (fun x => by rw [LinkFun.total_eq]; omega) l
theorem lfun_fit {f : LinkFun} (h : f.Fit) : f.mod.size ≤ 9223372036854775807 ∧ f.name.size ≤ 9223372036854775807 := by
  cases h with
  | mk a b => exact ⟨a, b⟩
theorem imageOk1_runs {σ : Heap} {x : CodeIns} {cs : List V} (h : CodeIns.Rep σ cs x) : Runs G n_impl_imageOk_1 [.agg cs] σ (.bool (!decide (InsOk x))) σ := by
  have c := insOk_runs h
  cases h with
  | mk =>
  refine Runs.of (W.to (fun k _ => impl_imageOk_1.eq k _ _ _) ?_)
  refine W.run c ?_
  try simp only [q_bind_some, castInt_int, q_castBool, q_castStr, q_castPtr, q_castFn, q_castAgg, q_castTuple, q_uncons, q_isNil, q_sl, q_nils, q_emp, q_ptr, q_nilp, q_fn, q_cond_true, q_cond_false, Bool.not_true, Bool.not_false, decide_true, decide_false, List.cons_append, List.nil_append]
  exact W.ret ⟨rfl, rfl⟩
theorem implImageOk_gives {σ : Heap} {o : LinkImage} (hF : o.Fit) (ht : o.total ≤ 1048576) {cs : List V} (h : LinkImage.Rep σ cs o) : Gives G n_impl_imageOk [.agg cs] σ (.bool (decide (ImgIs o))) := by
  rw [LinkImage.total_eq] at ht
  have hcl := lcodes_le o.funs
  cases hF with
  | mk f0 f1 f2 f3 =>
  cases h with
  | mk h0 h1 =>
  rename_i b0 b1
  have lN : Lh σ (hnew σ 2 [b0, b1]) := Lh.new _ _ _
  have r0 : rdc (hnew σ 2 [b0, b1]) σ.length (0 + 0) 1 = some [b0] := by simp [rdc, hnew]
  have r1 : rdc (hnew σ 2 [b0, b1]) σ.length (0 + 1) 1 = some [b1] := by simp [rdc, hnew]
  refine Gives.of (W.to (fun k _ => impl_imageOk.eq k _ _ _) ?_)
  generalize hσ : hnew σ 2 [b0, b1] = σ0 at lN r0 r1
  try simp only [q_bind_some, castInt_int, q_castBool, q_castStr, q_castPtr, q_castFn, q_castAgg, q_castTuple, q_uncons, q_isNil, q_sl, q_nils, q_emp, q_ptr, q_nilp, q_fn, q_cond_true, q_cond_false, Bool.not_true, Bool.not_false, decide_true, decide_false, List.cons_append, List.nil_append, r0]
  refine W.len h0 ?_
  refine W.loop (S := Nat × Heap) (fun s => s.1 ≤ o.funs.length ∧ Lh σ0 s.2 ∧ ∀ f, f ∈ o.funs.take s.1 → LFunOk f)
    (fun s => [.v (.ptr σ.length 0), .v (.int .i64 (lcodes (o.funs.take s.1) : Nat)), .v b0, .v (.int .i64 (o.funs.length : Int)), .v (.int .i64 (s.1 : Int))]) (fun s => s.2) (fun s => o.funs.length - s.1) (fun ⟨i, σi⟩ ⟨hi, hle, hok⟩ => ?_)
    (0, σ0) ⟨Nat.zero_le _, Lh.refl _, fun f hf => by simp at hf⟩
  simp only at hi hle hok ⊢
  have hle' := lN.trans hle
  refine W.to (fun k _ => by rw [impl_imageOk.L0_step]) ?_
  try simp only [q_bind_some, Option.bind_assoc, castInt_int, q_castBool, q_castStr, q_castPtr, q_castFn, q_castAgg, q_castTuple, q_uncons, q_isNil, q_sl, q_nils, q_emp, q_ptr, q_nilp, q_fn, q_cond_true, q_cond_false, Bool.not_true, Bool.not_false, decide_true, decide_false, castInt_bind, castBool_bind, castStr_bind, castPtr_bind, castFn_bind, castAgg_bind, castTuple_bind, uncons_bind, isNil_bind, one_bind, cond_bind, ite_bind_, List.cons_append, List.nil_append]
  refine W.ite (fun hlt => ?_) fun hlt => ?_
  · refine W.at h0 hle' (by omega) fun r o' cs x hx hr hP => ?_
    have hm := List.mem_of_getElem? hx
    obtain ⟨hfit, hfit2⟩ := lfun_fit (f1 x hm)
    have hnext := lcodes_next hx
    have hcl2 := lcodes_take_le o.funs (i + 1)
    have hxt := totS_mem LinkFun.total hm
    rw [LinkFun.total_eq x] at hxt
    cases hP with
    | mk q0 q1 =>
    try simp only [q_bind_some, Option.bind_assoc, castInt_int, q_castBool, q_castStr, q_castPtr, q_castFn, q_castAgg, q_castTuple, q_uncons, q_isNil, q_sl, q_nils, q_emp, q_ptr, q_nilp, q_fn, q_cond_true, q_cond_false, Bool.not_true, Bool.not_false, decide_true, decide_false, castInt_bind, castBool_bind, castStr_bind, castPtr_bind, castFn_bind, castAgg_bind, castTuple_bind, uncons_bind, isNil_bind, one_bind, cond_bind, ite_bind_, List.cons_append, List.nil_append, hr]
    refine W.len q1 ?_
    refine W.give (implLexName_gives σi x.mod hfit) fun σ1 l1 => ?_
    try simp only [q_bind_some, Option.bind_assoc, castInt_int, q_castBool, q_castStr, q_castPtr, q_castFn, q_castAgg, q_castTuple, q_uncons, q_isNil, q_sl, q_nils, q_emp, q_ptr, q_nilp, q_fn, q_cond_true, q_cond_false, Bool.not_true, Bool.not_false, decide_true, decide_false, castInt_bind, castBool_bind, castStr_bind, castPtr_bind, castFn_bind, castAgg_bind, castTuple_bind, uncons_bind, isNil_bind, one_bind, cond_bind, ite_bind_, List.cons_append, List.nil_append]
    have l01 := hle'.trans l1
    by_cases hM : IsName x.mod
    rotate_left
    · try simp only [q_bind_some, Option.bind_assoc, castInt_int, q_castBool, q_castStr, q_castPtr, q_castFn, q_castAgg, q_castTuple, q_uncons, q_isNil, q_sl, q_nils, q_emp, q_ptr, q_nilp, q_fn, q_cond_true, q_cond_false, Bool.not_true, Bool.not_false, decide_true, decide_false, castInt_bind, castBool_bind, castStr_bind, castPtr_bind, castFn_bind, castAgg_bind, castTuple_bind, uncons_bind, isNil_bind, one_bind, cond_bind, ite_bind_, List.cons_append, List.nil_append, decide_eq_false hM, impl_imageOk.A0_ret]
      exact W.ret ⟨by rw [decide_eq_false (fun h : ImgIs o => hM (h.2.2.2.1 x hm).1)], l01⟩
    try simp only [q_bind_some, Option.bind_assoc, castInt_int, q_castBool, q_castStr, q_castPtr, q_castFn, q_castAgg, q_castTuple, q_uncons, q_isNil, q_sl, q_nils, q_emp, q_ptr, q_nilp, q_fn, q_cond_true, q_cond_false, Bool.not_true, Bool.not_false, decide_true, decide_false, castInt_bind, castBool_bind, castStr_bind, castPtr_bind, castFn_bind, castAgg_bind, castTuple_bind, uncons_bind, isNil_bind, one_bind, cond_bind, ite_bind_, List.cons_append, List.nil_append, decide_eq_true hM]
    refine W.give (headOk_gives x.name hfit2 (q0.le l01) x.type x.slots) fun σ2 l2 => ?_
    try simp only [q_bind_some, Option.bind_assoc, castInt_int, q_castBool, q_castStr, q_castPtr, q_castFn, q_castAgg, q_castTuple, q_uncons, q_isNil, q_sl, q_nils, q_emp, q_ptr, q_nilp, q_fn, q_cond_true, q_cond_false, Bool.not_true, Bool.not_false, decide_true, decide_false, castInt_bind, castBool_bind, castStr_bind, castPtr_bind, castFn_bind, castAgg_bind, castTuple_bind, uncons_bind, isNil_bind, one_bind, cond_bind, ite_bind_, List.cons_append, List.nil_append]
    have l02 := l01.trans l2
    by_cases hH : HeadIs x.name x.args x.type x.slots
    rotate_left
    · try simp only [q_bind_some, Option.bind_assoc, castInt_int, q_castBool, q_castStr, q_castPtr, q_castFn, q_castAgg, q_castTuple, q_uncons, q_isNil, q_sl, q_nils, q_emp, q_ptr, q_nilp, q_fn, q_cond_true, q_cond_false, Bool.not_true, Bool.not_false, decide_true, decide_false, castInt_bind, castBool_bind, castStr_bind, castPtr_bind, castFn_bind, castAgg_bind, castTuple_bind, uncons_bind, isNil_bind, one_bind, cond_bind, ite_bind_, List.cons_append, List.nil_append, hH, impl_imageOk.A0_ret]
      exact W.ret ⟨by rw [decide_eq_false (fun h : ImgIs o => hH (h.2.2.2.1 x hm).2.1)], l02⟩
    try simp only [q_bind_some, Option.bind_assoc, castInt_int, q_castBool, q_castStr, q_castPtr, q_castFn, q_castAgg, q_castTuple, q_uncons, q_isNil, q_sl, q_nils, q_emp, q_ptr, q_nilp, q_fn, q_cond_true, q_cond_false, Bool.not_true, Bool.not_false, decide_true, decide_false, castInt_bind, castBool_bind, castStr_bind, castPtr_bind, castFn_bind, castAgg_bind, castTuple_bind, uncons_bind, isNil_bind, one_bind, cond_bind, ite_bind_, List.cons_append, List.nil_append, hH]
    refine W.len q1 (W.ite (fun k4 => ?_) fun k4 => ?_)
    · try simp only [q_bind_some, Option.bind_assoc, castInt_int, q_castBool, q_castStr, q_castPtr, q_castFn, q_castAgg, q_castTuple, q_uncons, q_isNil, q_sl, q_nils, q_emp, q_ptr, q_nilp, q_fn, q_cond_true, q_cond_false, Bool.not_true, Bool.not_false, decide_true, decide_false, castInt_bind, castBool_bind, castStr_bind, castPtr_bind, castFn_bind, castAgg_bind, castTuple_bind, uncons_bind, isNil_bind, one_bind, cond_bind, ite_bind_, List.cons_append, List.nil_append, impl_imageOk.A0_ret]
      exact W.ret ⟨by rw [decide_eq_false (fun h : ImgIs o => by have := (h.2.2.2.1 x hm).2.2.1; omega)], l02⟩
    refine W.give (slices_ContainsFunc_impl_CodeIns_impl_CodeIns_gives (by omega) (q1.mono l02 fun cs y _ hc => CodeIns.Rep.le l02 hc) n_impl_imageOk_1 [] (fun x => !decide (InsOk x)) fun y hy σ' cs hl hP => ⟨σ', Lh.refl _, imageOk1_runs hP⟩) fun σ3 l3 => ?_
    try simp only [q_bind_some, Option.bind_assoc, castInt_int, q_castBool, q_castStr, q_castPtr, q_castFn, q_castAgg, q_castTuple, q_uncons, q_isNil, q_sl, q_nils, q_emp, q_ptr, q_nilp, q_fn, q_cond_true, q_cond_false, Bool.not_true, Bool.not_false, decide_true, decide_false, castInt_bind, castBool_bind, castStr_bind, castPtr_bind, castFn_bind, castAgg_bind, castTuple_bind, uncons_bind, isNil_bind, one_bind, cond_bind, ite_bind_, List.cons_append, List.nil_append, any_not InsOk x.code]
    have l03 := l02.trans l3
    by_cases hC : ∀ y, y ∈ x.code → InsOk y
    rotate_left
    · try simp only [q_bind_some, Option.bind_assoc, castInt_int, q_castBool, q_castStr, q_castPtr, q_castFn, q_castAgg, q_castTuple, q_uncons, q_isNil, q_sl, q_nils, q_emp, q_ptr, q_nilp, q_fn, q_cond_true, q_cond_false, Bool.not_true, Bool.not_false, decide_true, decide_false, castInt_bind, castBool_bind, castStr_bind, castPtr_bind, castFn_bind, castAgg_bind, castTuple_bind, uncons_bind, isNil_bind, one_bind, cond_bind, ite_bind_, List.cons_append, List.nil_append, hC, impl_imageOk.A0_ret]
      exact W.ret ⟨by rw [decide_eq_false (fun h : ImgIs o => hC (h.2.2.2.1 x hm).2.2.2)], l03⟩
    have hw : IntKind.wrap .i64 (((lcodes (o.funs.take i) : Nat) : Int) + (x.code.length : Int)) = ((lcodes (o.funs.take (i + 1)) : Nat) : Int) := by
      rw [hnext, wrap_id (by omega) (by omega)]; omega
    try simp only [q_bind_some, Option.bind_assoc, castInt_int, q_castBool, q_castStr, q_castPtr, q_castFn, q_castAgg, q_castTuple, q_uncons, q_isNil, q_sl, q_nils, q_emp, q_ptr, q_nilp, q_fn, q_cond_true, q_cond_false, Bool.not_true, Bool.not_false, decide_true, decide_false, castInt_bind, castBool_bind, castStr_bind, castPtr_bind, castFn_bind, castAgg_bind, castTuple_bind, uncons_bind, isNil_bind, one_bind, cond_bind, ite_bind_, List.cons_append, List.nil_append, decide_eq_true hC, hw, wrap_next (show i < o.funs.length by omega) (by omega)]
    refine W.again (i + 1, σ3) ⟨by show i + 1 ≤ o.funs.length; omega, ((hle.trans l1).trans l2).trans l3, fun y hy => ?_⟩ (by simp only; omega) rfl rfl
    simp only at hy
    rw [take_next' hx] at hy
    rcases List.mem_append.1 hy with h | h
    · exact hok y h
    · simp at h; rw [h]; exact ⟨hM, hH, by omega, hC⟩
  · rw [List.take_of_length_le (by omega)] at hok ⊢
    have e0 := hle.rdc r0
    have e1 := hle.rdc r1
    try simp only [q_bind_some, Option.bind_assoc, castInt_int, q_castBool, q_castStr, q_castPtr, q_castFn, q_castAgg, q_castTuple, q_uncons, q_isNil, q_sl, q_nils, q_emp, q_ptr, q_nilp, q_fn, q_cond_true, q_cond_false, Bool.not_true, Bool.not_false, decide_true, decide_false, castInt_bind, castBool_bind, castStr_bind, castPtr_bind, castFn_bind, castAgg_bind, castTuple_bind, uncons_bind, isNil_bind, one_bind, cond_bind, ite_bind_, List.cons_append, List.nil_append, impl_imageOk.A0_x0, e0]
    refine W.len h0 (W.ite (fun k1 => ?_) fun k1 => ?_)
    rotate_left
    · exact W.ret ⟨by rw [decide_eq_false (fun h : ImgIs o => k1 (by have := h.1; omega))], hle'⟩
    try simp only [q_bind_some, Option.bind_assoc, castInt_int, q_castBool, q_castStr, q_castPtr, q_castFn, q_castAgg, q_castTuple, q_uncons, q_isNil, q_sl, q_nils, q_emp, q_ptr, q_nilp, q_fn, q_cond_true, q_cond_false, Bool.not_true, Bool.not_false, decide_true, decide_false, castInt_bind, castBool_bind, castStr_bind, castPtr_bind, castFn_bind, castAgg_bind, castTuple_bind, uncons_bind, isNil_bind, one_bind, cond_bind, ite_bind_, List.cons_append, List.nil_append, e1]
    refine W.len h1 (W.ite (fun k2 => ?_) fun k2 => ?_)
    rotate_left
    · exact W.ret ⟨by rw [decide_eq_false (fun h : ImgIs o => k2 (by have := h.2.1; omega))], hle'⟩
    refine W.ite (fun k3 => ?_) fun k3 => ?_
    rotate_left
    · exact W.ret ⟨by rw [decide_eq_false (fun h : ImgIs o => k3 (by have := h.2.2.1; omega))], hle'⟩
    try simp only [q_bind_some, Option.bind_assoc, castInt_int, q_castBool, q_castStr, q_castPtr, q_castFn, q_castAgg, q_castTuple, q_uncons, q_isNil, q_sl, q_nils, q_emp, q_ptr, q_nilp, q_fn, q_cond_true, q_cond_false, Bool.not_true, Bool.not_false, decide_true, decide_false, castInt_bind, castBool_bind, castStr_bind, castPtr_bind, castFn_bind, castAgg_bind, castTuple_bind, uncons_bind, isNil_bind, one_bind, cond_bind, ite_bind_, List.cons_append, List.nil_append, e1]
    refine W.give (slices_ContainsFunc_int_int_gives (by omega) (h1.le hle') n_impl_imageOk_2 [.ptr σ.length 0] (fun n => !decide (0 ≤ n ∧ n ≤ (o.funs.length : Int) - 1)) fun n hn σ' hl => ?_) fun σ2 l2 => ?_
    · refine Gives.of (W.to (fun k _ => impl_imageOk_2.eq k _ _ _) ?_)
      have e2 := hl.rdc e0
      try simp only [q_bind_some, castInt_int, q_castBool, q_castStr, q_castPtr, q_castFn, q_castAgg, q_castTuple, q_uncons, q_isNil, q_sl, q_nils, q_emp, q_ptr, q_nilp, q_fn, q_cond_true, q_cond_false, Bool.not_true, Bool.not_false, decide_true, decide_false, List.cons_append, List.nil_append, e2]
      refine W.len h0 ?_
      have hp : Runs G n_impl_isPlace [.int .i64 n, .int .i64 (o.funs.length : Int)] σ' (.bool (decide (0 ≤ n ∧ n ≤ (o.funs.length : Int) - 1))) σ' := by
        refine Runs.of (W.to (fun k _ => impl_isPlace.eq k _ _ _) ?_)
        rw [wrap_id (n := (o.funs.length : Int) - 1) (by omega) (by omega)]
        refine W.run (inRange_runs _ _ _) ?_
        try simp only [q_bind_some, castInt_int, q_castBool, q_castStr, q_castPtr, q_castFn, q_castAgg, q_castTuple, q_uncons, q_isNil, q_sl, q_nils, q_emp, q_ptr, q_nilp, q_fn, q_cond_true, q_cond_false, Bool.not_true, Bool.not_false, decide_true, decide_false, List.cons_append, List.nil_append]
        exact W.ret ⟨rfl, rfl⟩
      refine W.run hp ?_
      try simp only [q_bind_some, castInt_int, q_castBool, q_castStr, q_castPtr, q_castFn, q_castAgg, q_castTuple, q_uncons, q_isNil, q_sl, q_nils, q_emp, q_ptr, q_nilp, q_fn, q_cond_true, q_cond_false, Bool.not_true, Bool.not_false, decide_true, decide_false, List.cons_append, List.nil_append]
      exact W.ret ⟨rfl, Lh.refl _⟩
    try simp only [q_bind_some, Option.bind_assoc, castInt_int, q_castBool, q_castStr, q_castPtr, q_castFn, q_castAgg, q_castTuple, q_uncons, q_isNil, q_sl, q_nils, q_emp, q_ptr, q_nilp, q_fn, q_cond_true, q_cond_false, Bool.not_true, Bool.not_false, decide_true, decide_false, castInt_bind, castBool_bind, castStr_bind, castPtr_bind, castFn_bind, castAgg_bind, castTuple_bind, uncons_bind, isNil_bind, one_bind, cond_bind, ite_bind_, List.cons_append, List.nil_append, any_not (fun n : Int => 0 ≤ n ∧ n ≤ (o.funs.length : Int) - 1) o.mains, Bool.not_not]
    exact W.ret ⟨dec_iff (show ImgIs o ↔ ∀ n, n ∈ o.mains → 0 ≤ n ∧ n ≤ (o.funs.length : Int) - 1 from ⟨fun h => h.2.2.2.2, fun h => ⟨by omega, by omega, by omega, hok, h⟩⟩), hle'.trans l2⟩
/-- A function of an image, as one of an object. -/
def asCode (f : LinkFun) : CodeFun := ⟨f.name, false, f.args, f.type, f.slots, f.code⟩
theorem specL9Ok_gives {σ : Heap} {o : LinkImage} (hF : o.Fit) (ht : o.total ≤ 1048576) {cs : List V} (h : LinkImage.Rep σ cs o) : Gives G n_spec_l9Ok [.agg cs] σ (.bool (decide (ImgIs o))) := by
  rw [LinkImage.total_eq] at ht
  have hcl := lcodes_le o.funs
  cases hF with
  | mk f0 f1 f2 f3 =>
  cases h with
  | mk h0 h1 =>
  rename_i b0 b1
  have no : ∀ {ι : Type} {σ' : Heap} {Next : Cmp ι → Prop}, ¬ ImgIs o → Lh σ σ' → W (fun w σ' => w = .bool (decide (ImgIs o)) ∧ Lh σ σ') Next (fun _ _ => some (.bool false, σ')) := fun h l => W.ret ⟨by rw [decide_eq_false h], l⟩
  refine Gives.of (W.to (fun k _ => spec_l9Ok.eq k _ _ _) ?_)
  refine W.len h0 (W.ite (fun k1 => no (fun h => by have := h.1; omega) (Lh.refl _)) fun k1 => ?_)
  refine W.len h1 (W.ite (fun k2 => no (fun h => by have := h.2.1; omega) (Lh.refl _)) fun k2 => ?_)
  refine W.loop (S := Nat × Heap) (fun s => s.1 ≤ o.funs.length ∧ Lh σ s.2 ∧ (∀ f, f ∈ o.funs.take s.1 → LFunOk f) ∧ lcodes (o.funs.take s.1) ≤ 3680)
    (fun s => [.box [b0, b1], .v (.int .i64 (lcodes (o.funs.take s.1) : Nat)), .v (.int .i64 (s.1 : Int))]) (fun s => s.2) (fun s => o.funs.length - s.1) (fun ⟨j, σj⟩ ⟨hj, hlj, hokj, hsum⟩ => ?_)
    (0, σ) ⟨Nat.zero_le _, Lh.refl _, fun f hf => by simp at hf, by simp [lcodes, totS]⟩
  simp only at hj hlj hokj hsum ⊢
  refine W.to (fun k _ => by rw [spec_l9Ok.L0_step]) ?_
  try simp only [q_bind_some, Option.bind_assoc, castInt_int, q_castBool, q_castStr, q_castPtr, q_castFn, q_castAgg, q_castTuple, q_uncons, q_isNil, q_sl, q_nils, q_emp, q_ptr, q_nilp, q_fn, q_cond_true, q_cond_false, Bool.not_true, Bool.not_false, decide_true, decide_false, castInt_bind, castBool_bind, castStr_bind, castPtr_bind, castFn_bind, castAgg_bind, castTuple_bind, uncons_bind, isNil_bind, one_bind, cond_bind, ite_bind_, List.cons_append, List.nil_append]
  refine W.len h0 (W.ite (fun hlt => ?_) fun hlt => ?_)
  · obtain ⟨r, o', hv, cs, hr, hP⟩ := h0.at (show j < o.funs.length by omega)
    have hx : o.funs[j]? = some o.funs[j] := List.getElem?_eq_getElem _
    have hm := List.mem_of_getElem? hx
    generalize o.funs[j] = x at hP hx hm
    obtain ⟨hfit, hfit2⟩ := lfun_fit (f1 x hm)
    have hnext := lcodes_next hx
    have hcl2 := lcodes_take_le o.funs (j + 1)
    have hxt := totS_mem LinkFun.total hm
    rw [LinkFun.total_eq x] at hxt
    cases hP with
    | mk q0 q1 =>
    rename_i d0 d1
    have hw : IntKind.wrap .i64 (((lcodes (o.funs.take j) : Nat) : Int) + (x.code.length : Int)) = ((lcodes (o.funs.take (j + 1)) : Nat) : Int) := by
      rw [hnext, wrap_id (by omega) (by omega)]; omega
    try simp only [q_bind_some, Option.bind_assoc, castInt_int, q_castBool, q_castStr, q_castPtr, q_castFn, q_castAgg, q_castTuple, q_uncons, q_isNil, q_sl, q_nils, q_emp, q_ptr, q_nilp, q_fn, q_cond_true, q_cond_false, Bool.not_true, Bool.not_false, decide_true, decide_false, castInt_bind, castBool_bind, castStr_bind, castPtr_bind, castFn_bind, castAgg_bind, castTuple_bind, uncons_bind, isNil_bind, one_bind, cond_bind, ite_bind_, List.cons_append, List.nil_append, hv, hlj.rdc hr]
    refine W.len q1 ?_
    try simp only [q_bind_some, Option.bind_assoc, castInt_int, q_castBool, q_castStr, q_castPtr, q_castFn, q_castAgg, q_castTuple, q_uncons, q_isNil, q_sl, q_nils, q_emp, q_ptr, q_nilp, q_fn, q_cond_true, q_cond_false, Bool.not_true, Bool.not_false, decide_true, decide_false, castInt_bind, castBool_bind, castStr_bind, castPtr_bind, castFn_bind, castAgg_bind, castTuple_bind, uncons_bind, isNil_bind, one_bind, cond_bind, ite_bind_, List.cons_append, List.nil_append, hw]
    refine W.ite (fun k3 => ?_) fun k3 => ?_
    · try simp only [q_bind_some, Option.bind_assoc, castInt_int, q_castBool, q_castStr, q_castPtr, q_castFn, q_castAgg, q_castTuple, q_uncons, q_isNil, q_sl, q_nils, q_emp, q_ptr, q_nilp, q_fn, q_cond_true, q_cond_false, Bool.not_true, Bool.not_false, decide_true, decide_false, castInt_bind, castBool_bind, castStr_bind, castPtr_bind, castFn_bind, castAgg_bind, castTuple_bind, uncons_bind, isNil_bind, one_bind, cond_bind, ite_bind_, List.cons_append, List.nil_append, spec_l9Ok.A0_ret]
      exact no (fun h => by have := h.2.2.1; omega) hlj
    refine W.give (specLexName_gives σj x.mod hfit) fun σ1 l1 => ?_
    try simp only [q_bind_some, Option.bind_assoc, castInt_int, q_castBool, q_castStr, q_castPtr, q_castFn, q_castAgg, q_castTuple, q_uncons, q_isNil, q_sl, q_nils, q_emp, q_ptr, q_nilp, q_fn, q_cond_true, q_cond_false, Bool.not_true, Bool.not_false, decide_true, decide_false, castInt_bind, castBool_bind, castStr_bind, castPtr_bind, castFn_bind, castAgg_bind, castTuple_bind, uncons_bind, isNil_bind, one_bind, cond_bind, ite_bind_, List.cons_append, List.nil_append]
    have l01 := hlj.trans l1
    by_cases hM : IsName x.mod
    rotate_left
    · try simp only [q_bind_some, Option.bind_assoc, castInt_int, q_castBool, q_castStr, q_castPtr, q_castFn, q_castAgg, q_castTuple, q_uncons, q_isNil, q_sl, q_nils, q_emp, q_ptr, q_nilp, q_fn, q_cond_true, q_cond_false, Bool.not_true, Bool.not_false, decide_true, decide_false, castInt_bind, castBool_bind, castStr_bind, castPtr_bind, castFn_bind, castAgg_bind, castTuple_bind, uncons_bind, isNil_bind, one_bind, cond_bind, ite_bind_, List.cons_append, List.nil_append, decide_eq_false hM, spec_l9Ok.A0_ret]
      exact no (fun h => hM (h.2.2.2.1 x hm).1) l01
    try simp only [q_bind_some, Option.bind_assoc, castInt_int, q_castBool, q_castStr, q_castPtr, q_castFn, q_castAgg, q_castTuple, q_uncons, q_isNil, q_sl, q_nils, q_emp, q_ptr, q_nilp, q_fn, q_cond_true, q_cond_false, Bool.not_true, Bool.not_false, decide_true, decide_false, castInt_bind, castBool_bind, castStr_bind, castPtr_bind, castFn_bind, castAgg_bind, castTuple_bind, uncons_bind, isNil_bind, one_bind, cond_bind, ite_bind_, List.cons_append, List.nil_append, decide_eq_true hM]
    have cf := l8Fun_gives (f := asCode x) hfit2 (by show x.args.length ≤ 1048576; omega) (by show x.code.length ≤ 1048576; omega) (CodeFun.Rep.mk (e := asCode x) (q0.le l01) (q1.mono l01 fun cs y _ hc => CodeIns.Rep.le l01 hc))
    have cf' : Gives G n_spec_l8Fun [.agg [.str x.name, .bool false, d0, .int .i64 x.type, .int .i64 x.slots, d1]] σ1 (.bool (decide (CFunOk (asCode x) ∧ (asCode x).code.length ≤ 460))) := cf
    try simp only [q_bind_some, Option.bind_assoc, castInt_int, q_castBool, q_castStr, q_castPtr, q_castFn, q_castAgg, q_castTuple, q_uncons, q_isNil, q_sl, q_nils, q_emp, q_ptr, q_nilp, q_fn, q_cond_true, q_cond_false, Bool.not_true, Bool.not_false, decide_true, decide_false, castInt_bind, castBool_bind, castStr_bind, castPtr_bind, castFn_bind, castAgg_bind, castTuple_bind, uncons_bind, isNil_bind, one_bind, cond_bind, ite_bind_, List.cons_append, List.nil_append, one_of q0.flat, one_of q1.flat]
    refine W.give cf' fun σ2 l2 => ?_
    have l02 := l01.trans l2
    try simp only [q_bind_some, Option.bind_assoc, castInt_int, q_castBool, q_castStr, q_castPtr, q_castFn, q_castAgg, q_castTuple, q_uncons, q_isNil, q_sl, q_nils, q_emp, q_ptr, q_nilp, q_fn, q_cond_true, q_cond_false, Bool.not_true, Bool.not_false, decide_true, decide_false, castInt_bind, castBool_bind, castStr_bind, castPtr_bind, castFn_bind, castAgg_bind, castTuple_bind, uncons_bind, isNil_bind, one_bind, cond_bind, ite_bind_, List.cons_append, List.nil_append]
    by_cases hC : CFunOk (asCode x) ∧ (asCode x).code.length ≤ 460
    rotate_left
    · try simp only [q_bind_some, Option.bind_assoc, castInt_int, q_castBool, q_castStr, q_castPtr, q_castFn, q_castAgg, q_castTuple, q_uncons, q_isNil, q_sl, q_nils, q_emp, q_ptr, q_nilp, q_fn, q_cond_true, q_cond_false, Bool.not_true, Bool.not_false, decide_true, decide_false, castInt_bind, castBool_bind, castStr_bind, castPtr_bind, castFn_bind, castAgg_bind, castTuple_bind, uncons_bind, isNil_bind, one_bind, cond_bind, ite_bind_, List.cons_append, List.nil_append, hC, spec_l9Ok.A0_ret]
      exact no (fun h => hC ⟨⟨(h.2.2.2.1 x hm).2.1, (h.2.2.2.1 x hm).2.2.2⟩, (h.2.2.2.1 x hm).2.2.1⟩) l02
    try simp only [q_bind_some, Option.bind_assoc, castInt_int, q_castBool, q_castStr, q_castPtr, q_castFn, q_castAgg, q_castTuple, q_uncons, q_isNil, q_sl, q_nils, q_emp, q_ptr, q_nilp, q_fn, q_cond_true, q_cond_false, Bool.not_true, Bool.not_false, decide_true, decide_false, castInt_bind, castBool_bind, castStr_bind, castPtr_bind, castFn_bind, castAgg_bind, castTuple_bind, uncons_bind, isNil_bind, one_bind, cond_bind, ite_bind_, List.cons_append, List.nil_append, hC, and_self, hw, wrap_next (show j < o.funs.length by omega) (by omega)]
    refine W.again (j + 1, σ2) ⟨by show j + 1 ≤ o.funs.length; omega, l02, fun y hy => ?_, by show lcodes (o.funs.take (j + 1)) ≤ 3680; omega⟩ (by simp only; omega) rfl rfl
    simp only at hy
    rw [take_next' hx] at hy
    rcases List.mem_append.1 hy with h | h
    · exact hokj y h
    · simp at h; rw [h]; exact ⟨hM, hC.1.1, hC.2, hC.1.2⟩
  · rw [List.take_of_length_le (by omega)] at hokj hsum
    try simp only [q_bind_some, Option.bind_assoc, castInt_int, q_castBool, q_castStr, q_castPtr, q_castFn, q_castAgg, q_castTuple, q_uncons, q_isNil, q_sl, q_nils, q_emp, q_ptr, q_nilp, q_fn, q_cond_true, q_cond_false, Bool.not_true, Bool.not_false, decide_true, decide_false, castInt_bind, castBool_bind, castStr_bind, castPtr_bind, castFn_bind, castAgg_bind, castTuple_bind, uncons_bind, isNil_bind, one_bind, cond_bind, ite_bind_, List.cons_append, List.nil_append, spec_l9Ok.A0_x0]
    refine W.loop (S := Nat) (fun i => i ≤ o.mains.length ∧ ∀ n, n ∈ o.mains.take i → 0 ≤ n ∧ n ≤ (o.funs.length : Int) - 1) (fun i => [.box [b0, b1], .v (.int .i64 (i : Int))]) (fun _ => σj) (fun i => o.mains.length - i) (fun i ⟨hi, hok⟩ => ?_) 0 ⟨Nat.zero_le _, fun n hn => by simp at hn⟩
    refine W.to (fun k _ => by rw [spec_l9Ok.L1_step]) ?_
    try simp only [q_bind_some, Option.bind_assoc, castInt_int, q_castBool, q_castStr, q_castPtr, q_castFn, q_castAgg, q_castTuple, q_uncons, q_isNil, q_sl, q_nils, q_emp, q_ptr, q_nilp, q_fn, q_cond_true, q_cond_false, Bool.not_true, Bool.not_false, decide_true, decide_false, castInt_bind, castBool_bind, castStr_bind, castPtr_bind, castFn_bind, castAgg_bind, castTuple_bind, uncons_bind, isNil_bind, one_bind, cond_bind, ite_bind_, List.cons_append, List.nil_append]
    refine W.len h1 (W.ite (fun hlt => ?_) fun hlt => ?_)
    · obtain ⟨r, o', hv, cs, hr, hP⟩ := h1.at (show i < o.mains.length by omega)
      have hx : o.mains[i]? = some o.mains[i] := List.getElem?_eq_getElem _
      have hm := List.mem_of_getElem? hx
      generalize o.mains[i] = n at hP hx hm
      unfold IntRep at hP
      subst hP
      try simp only [q_bind_some, Option.bind_assoc, castInt_int, q_castBool, q_castStr, q_castPtr, q_castFn, q_castAgg, q_castTuple, q_uncons, q_isNil, q_sl, q_nils, q_emp, q_ptr, q_nilp, q_fn, q_cond_true, q_cond_false, Bool.not_true, Bool.not_false, decide_true, decide_false, castInt_bind, castBool_bind, castStr_bind, castPtr_bind, castFn_bind, castAgg_bind, castTuple_bind, uncons_bind, isNil_bind, one_bind, cond_bind, ite_bind_, List.cons_append, List.nil_append, hv, hlj.rdc hr]
      refine W.ite (fun k4 => ?_) fun k4 => ?_
      · try simp only [q_bind_some, Option.bind_assoc, castInt_int, q_castBool, q_castStr, q_castPtr, q_castFn, q_castAgg, q_castTuple, q_uncons, q_isNil, q_sl, q_nils, q_emp, q_ptr, q_nilp, q_fn, q_cond_true, q_cond_false, Bool.not_true, Bool.not_false, decide_true, decide_false, castInt_bind, castBool_bind, castStr_bind, castPtr_bind, castFn_bind, castAgg_bind, castTuple_bind, uncons_bind, isNil_bind, one_bind, cond_bind, ite_bind_, List.cons_append, List.nil_append, spec_l9Ok.A1_ret]
        exact no (fun h => by have := h.2.2.2.2 n hm; omega) hlj
      refine W.len h0 (W.ite (fun k5 => ?_) fun k5 => ?_)
      · try simp only [q_bind_some, Option.bind_assoc, castInt_int, q_castBool, q_castStr, q_castPtr, q_castFn, q_castAgg, q_castTuple, q_uncons, q_isNil, q_sl, q_nils, q_emp, q_ptr, q_nilp, q_fn, q_cond_true, q_cond_false, Bool.not_true, Bool.not_false, decide_true, decide_false, castInt_bind, castBool_bind, castStr_bind, castPtr_bind, castFn_bind, castAgg_bind, castTuple_bind, uncons_bind, isNil_bind, one_bind, cond_bind, ite_bind_, List.cons_append, List.nil_append, spec_l9Ok.A1_ret]
        exact no (fun h => by have := h.2.2.2.2 n hm; omega) hlj
      try simp only [q_bind_some, Option.bind_assoc, castInt_int, q_castBool, q_castStr, q_castPtr, q_castFn, q_castAgg, q_castTuple, q_uncons, q_isNil, q_sl, q_nils, q_emp, q_ptr, q_nilp, q_fn, q_cond_true, q_cond_false, Bool.not_true, Bool.not_false, decide_true, decide_false, castInt_bind, castBool_bind, castStr_bind, castPtr_bind, castFn_bind, castAgg_bind, castTuple_bind, uncons_bind, isNil_bind, one_bind, cond_bind, ite_bind_, List.cons_append, List.nil_append, wrap_next (show i < o.mains.length by omega) (by omega)]
      refine W.again (i + 1) ⟨by omega, fun y hy => ?_⟩ (by omega) rfl rfl
      rw [take_next' hx] at hy
      rcases List.mem_append.1 hy with h | h
      · exact hok y h
      · simp at h; rw [h]; omega
    · rw [List.take_of_length_le (by omega)] at hok
      try simp only [q_bind_some, Option.bind_assoc, castInt_int, q_castBool, q_castStr, q_castPtr, q_castFn, q_castAgg, q_castTuple, q_uncons, q_isNil, q_sl, q_nils, q_emp, q_ptr, q_nilp, q_fn, q_cond_true, q_cond_false, Bool.not_true, Bool.not_false, decide_true, decide_false, castInt_bind, castBool_bind, castStr_bind, castPtr_bind, castFn_bind, castAgg_bind, castTuple_bind, uncons_bind, isNil_bind, one_bind, cond_bind, ite_bind_, List.cons_append, List.nil_append, spec_l9Ok.A1_x2]
      exact W.ret ⟨by rw [decide_eq_true (show ImgIs o from ⟨by omega, by omega, hsum, hokj, hok⟩)], hlj⟩
end Go.F

/- LinkText of both. -/
set_option linter.unusedVariables false
set_option linter.unusedSimpArgs false
namespace Go.F
open Go.HM Go.Proofs
def ih : List UInt8 := [105, 109, 97, 103, 101, 10]
theorem imgL_eq (o : LinkImage) : imgL o = ih ++ catL lwholeL o.funs o.funs.length ++ catL mainL o.mains o.mains.length := rfl
theorem lfun_ba {f : LinkFun} (h : LFunOk f) : ∃ md nm, f.mod = ba md ∧ f.name = ba nm ∧ md.length ≤ 8 ∧ nm.length ≤ 8 ∧ lfunL f = [102, 117, 110, 32] ++ md ++ [46] ++ nm ++ [32] ++ headL f.args f.type f.slots ++ [10] := by
  refine ⟨f.mod.data.toList, f.name.data.toList, ba_self _, ba_self _, ?_, ?_, rfl⟩
  · have := h.1.2.1.2
    rw [ba_list]; exact this
  · have h' : CFunOk (asCode f) := ⟨h.2.1, h.2.2.2⟩
    exact name_len h'
theorem lhead_len {f : LinkFun} (h : LFunOk f) : (headL f.args f.type f.slots).length ≤ 60 := head_len (f := asCode f) ⟨h.2.1, h.2.2.2⟩
theorem lwhole_len {f : LinkFun} (h : LFunOk f) : (lwholeL f).length ≤ 100 + 32 * f.code.length := by
  obtain ⟨md, nm, _, _, h1, h2, h3⟩ := lfun_ba h
  have h4 := lhead_len h
  have h5 := code_len h.2.2.2 _ (Nat.le_refl _)
  unfold lwholeL codeL
  rw [h3]
  simp only [List.length_append, List.length_cons, List.length_nil]
  omega
theorem lfuns_le {o : LinkImage} (h : ImgIs o) (i : Nat) (hi : i ≤ o.funs.length) : (catL lwholeL o.funs i).length ≤ 124960 := by
  have h1 := catL_len (f := lwholeL) (g := fun f => 100 + 32 * f.code.length) (l := o.funs) (fun f hf => lwhole_len (h.2.2.2.1 f hf)) i hi
  rw [tot_lin] at h1
  have h2 := lcodes_take_le o.funs i
  have h3 : (o.funs.take i).length ≤ 72 := by rw [List.length_take]; have := h.1; omega
  have h4 := h.2.2.1
  unfold lcodes at h2 h4
  omega
theorem main_len {n : Int} (h0 : 0 ≤ n) (h1 : n ≤ 100) : (mainL n).length ≤ 30 := by
  have := Lib.itoa_length_le n (by omega) (by omega)
  unfold mainL
  simp only [List.length_append, List.length_cons, List.length_nil]
  omega
theorem mains_le {o : LinkImage} (h : ImgIs o) (i : Nat) (hi : i ≤ o.mains.length) : (catL mainL o.mains i).length ≤ 240 := by
  have h1 := catL_len (f := mainL) (g := fun _ => 30) (l := o.mains) (fun n hn => main_len (h.2.2.2.2 n hn).1 (by have := h.2.2.2.2 n hn; have := h.1; omega)) i hi
  rw [tot_const] at h1
  have h3 : (o.mains.take i).length ≤ 8 := by rw [List.length_take]; have := h.2.1; omega
  omega
theorem lfun_in {f : LinkFun} {o : LinkImage} (h : ImgIs o) (hm : f ∈ o.funs) : f.code.length ≤ 460 := (h.2.2.2.1 f hm).2.2.1
set_option maxHeartbeats 1000000 in
theorem specLinkText_gives {σ : Heap} {o : LinkImage} (hF : o.Fit) (ht : o.total ≤ 1048576) {cs : List V} (h : LinkImage.Rep σ cs o) : Gives G n_spec_LinkText [.agg cs] σ (.str (if ImgIs o then ba (imgL o) else ⟨#[]⟩)) := by
  have c1 := specL9Ok_gives hF ht h
  cases h with
  | mk h0 h1 =>
  rename_i b0 b1
  refine Gives.of (W.to (fun k _ => spec_LinkText.eq k _ _ _) ?_)
  refine W.give c1 fun σ1 l1 => ?_
  by_cases hok : ImgIs o
  rotate_left
  · try simp only [q_bind_some, castInt_int, q_castBool, q_castStr, q_castPtr, q_castFn, q_castAgg, q_castTuple, q_uncons, q_isNil, q_sl, q_nils, q_emp, q_ptr, q_nilp, q_fn, q_cond_true, q_cond_false, Bool.not_true, Bool.not_false, decide_true, decide_false, List.cons_append, List.nil_append, decide_eq_false hok]
    exact W.ret ⟨by rw [if_neg hok], l1⟩
  try simp only [q_bind_some, castInt_int, q_castBool, q_castStr, q_castPtr, q_castFn, q_castAgg, q_castTuple, q_uncons, q_isNil, q_sl, q_nils, q_emp, q_ptr, q_nilp, q_fn, q_cond_true, q_cond_false, Bool.not_true, Bool.not_false, decide_true, decide_false, List.cons_append, List.nil_append, decide_eq_true hok]
  rw [if_pos hok]
  have h72 := hok.1
  have h8 := hok.2.1
  have hih : ih.length = 6 := rfl
  have hWl := fun i hi => lfuns_le hok i hi
  have hMl := fun i hi => mains_le hok i hi
  have h00 : (⟨#[105, 109, 97, 103, 101, 10]⟩ : ByteArray) = ba (ih ++ catL lwholeL o.funs 0) := by rw [catL_zero]; rfl
  rw [h00]
  refine W.loop (S := Nat × Heap) (fun s => s.1 ≤ o.funs.length ∧ Lh σ s.2) (fun s => [.box [b0, b1], .v (.str (ba (ih ++ catL lwholeL o.funs s.1))), .v (.int .i64 (s.1 : Int))]) (fun s => s.2) (fun s => o.funs.length - s.1) (fun ⟨i, σi⟩ ⟨hi, hle⟩ => ?_) (0, σ1) ⟨Nat.zero_le _, l1⟩
  simp only at hi hle ⊢
  refine W.to (fun k _ => by rw [spec_LinkText.L0_step]) ?_
  refine B.len h0 (B.ite (fun hlt => ?_) fun hlt => ?_)
  rotate_left
  · obtain rfl : i = o.funs.length := by omega
    try simp only [q_bind_some, castInt_int, q_castBool, q_castStr, q_castPtr, q_castFn, q_castAgg, q_castTuple, q_uncons, q_isNil, q_sl, q_nils, q_emp, q_ptr, q_nilp, q_fn, q_cond_true, q_cond_false, Bool.not_true, Bool.not_false, decide_true, decide_false, List.cons_append, List.nil_append, spec_LinkText.A0_x0]
    rw [imgL_eq]
    have hFF := hWl o.funs.length (Nat.le_refl _)
    generalize catL lwholeL o.funs o.funs.length = FL at hFF
    have h01 : ba (ih ++ FL) = ba (ih ++ FL ++ catL mainL o.mains 0) := by rw [catL_zero, List.append_nil]
    rw [h01]
    refine W.loop (S := Nat × Heap) (fun s => s.1 ≤ o.mains.length ∧ Lh σ s.2) (fun s => [.box [b0, b1], .v (.str (ba (ih ++ FL ++ catL mainL o.mains s.1))), .v (.int .i64 (s.1 : Int))]) (fun s => s.2) (fun s => o.mains.length - s.1) (fun ⟨j, σj⟩ ⟨hj, hlj⟩ => ?_) (0, σi) ⟨Nat.zero_le _, hle⟩
    simp only at hj hlj ⊢
    refine W.to (fun k _ => by rw [spec_LinkText.L2_step]) ?_
    refine B.len h1 (B.ite (fun hlt => ?_) fun hlt => ?_)
    · have hjl : j < o.mains.length := by omega
      have hx : o.mains[j]? = some o.mains[j] := List.getElem?_eq_getElem hjl
      generalize o.mains[j] = n at hx
      have hn := hok.2.2.2.2 n (List.mem_of_getElem? hx)
      have hml := hMl j hj
      have hit := Lib.itoa_length_le n (by omega) (by omega)
      have hstep := catL_next (f := mainL) hx
      have hm : mainL n = [109, 97, 105, 110, 32] ++ Lib.itoa n ++ [10] := rfl
      rw [hm] at hstep
      obtain ⟨r, p, hv, cs, hr, hP⟩ := h1.at' hx
      have hr' := hlj.rdc hr
      unfold IntRep at hP
      subst hP
      try simp (maxSteps := 2000000) (disch := (simp only [List.length_append, List.length_cons, List.length_nil]; omega)) only [q_bind_some, castInt_int, q_castBool, q_castStr, q_castPtr, q_castFn, q_castAgg, q_castTuple, q_uncons, q_isNil, q_sl, q_nils, q_emp, q_ptr, q_nilp, q_fn, q_cond_true, q_cond_false, Bool.not_true, Bool.not_false, decide_true, decide_false, List.cons_append, List.nil_append, mk_ba, ba2, fitB, hv, hr']
      refine B.give (l23Dec_gives _ (by omega) (by omega)) fun σ2 l2 => ?_
      try simp (maxSteps := 2000000) (disch := (simp only [List.length_append, List.length_cons, List.length_nil]; omega)) only [q_bind_some, castInt_int, q_castBool, q_castStr, q_castPtr, q_castFn, q_castAgg, q_castTuple, q_uncons, q_isNil, q_sl, q_nils, q_emp, q_ptr, q_nilp, q_fn, q_cond_true, q_cond_false, Bool.not_true, Bool.not_false, decide_true, decide_false, List.cons_append, List.nil_append, mk_ba, ba2, fitB, wrap_next hjl (by omega)]
      exact W.again (j + 1, σ2) ⟨by show j + 1 ≤ o.mains.length; omega, hlj.trans l2⟩ (by simp only; omega) (by simp only [hstep, List.append_assoc, List.cons_append, List.nil_append]) rfl
    · obtain rfl : j = o.mains.length := by omega
      try simp only [q_bind_some, castInt_int, q_castBool, q_castStr, q_castPtr, q_castFn, q_castAgg, q_castTuple, q_uncons, q_isNil, q_sl, q_nils, q_emp, q_ptr, q_nilp, q_fn, q_cond_true, q_cond_false, Bool.not_true, Bool.not_false, decide_true, decide_false, List.cons_append, List.nil_append, spec_LinkText.A2_x4]
      exact W.ret ⟨rfl, hlj⟩
  have hil : i < o.funs.length := by omega
  have hx : o.funs[i]? = some o.funs[i] := List.getElem?_eq_getElem hil
  generalize o.funs[i] = f at hx
  have hm := List.mem_of_getElem? hx
  have hfo := hok.2.2.2.1 f hm
  have hcl := lfun_in hok hm
  have hins := fun z hz => code_len hfo.2.2.2 z hz
  have hstep := catL_next (f := lwholeL) hx
  have hl := hWl i hi
  obtain ⟨md, nm, g1, g2, g3, g4, g5⟩ := lfun_ba hfo
  have hhd := lhead_len hfo
  obtain ⟨r, p, hv, cs, hr, hP⟩ := h0.at' hx
  cases hP with
  | mk t0 t1 =>
  rename_i c0 c1
  have hr' := hle.rdc hr
  have hs := hfo.2.1.2.2.2
  have hi21 := Lib.itoa_length_le f.slots (by omega) (by omega)
  obtain ⟨k1, k2⟩ := tword_ba f.type
  have k3 := tyL_len' hfo.2.1.2.1.1
  have hFl : (lfunL f).length ≤ 100 := by
    rw [g5]
    simp only [List.length_append, List.length_cons, List.length_nil]
    omega
  try simp only [q_bind_some, castInt_int, q_castBool, q_castStr, q_castPtr, q_castFn, q_castAgg, q_castTuple, q_uncons, q_isNil, q_sl, q_nils, q_emp, q_ptr, q_nilp, q_fn, q_cond_true, q_cond_false, Bool.not_true, Bool.not_false, decide_true, decide_false, List.cons_append, List.nil_append, hv, hr']
  refine B.give (l3Types_gives (by have := hfo.2.1.2.1.1; omega) (t0.mono hle fun _ _ _ h => h)) fun σ2 l2 => ?_
  have l02 := hle.trans l2
  have inner : ∀ {σ2 : Heap}, Lh σ σ2 → W (ι := Nat × Unit) (fun w σ' => w = .str (ba (imgL o)) ∧ Lh σ σ') (Nxt (fun _ => False) spec_LinkText.L0 (fun k (_ : Unit) => spec_LinkText.A0 k) (fun s => s.1 ≤ o.funs.length ∧ Lh σ s.2) (fun s : Nat × Heap => [.box [b0, b1], .v (.str (ba (ih ++ catL lwholeL o.funs s.1))), .v (.int .i64 (s.1 : Int))]) (fun s => s.2) (fun s => o.funs.length - s.1) (o.funs.length - i))
      (fun k jm => ((spec_LinkText.L1 k k [.box [b0, b1], .v (.str (ba (ih ++ catL lwholeL o.funs i ++ lfunL f))), .v (.int .i64 (i : Int)), .box [.str f.mod, .str f.name, c0, .int .i64 f.type, .int .i64 f.slots, c1], .v (.int .i64 0)] σ2).bind (spec_LinkText.A1 k jm.1)).bind (spec_LinkText.A0 k)) := by
    intro σ2 l02
    rw [show ih ++ catL lwholeL o.funs i ++ lfunL f = ih ++ catL lwholeL o.funs i ++ lfunL f ++ catL insL f.code 0 by rw [catL_zero, List.append_nil]]
    refine B.assoc ?_
    refine W.loop (S := Nat × Heap) (fun s => s.1 ≤ f.code.length ∧ Lh σ s.2) (fun s => [.box [b0, b1], .v (.str (ba (ih ++ catL lwholeL o.funs i ++ lfunL f ++ catL insL f.code s.1))), .v (.int .i64 (i : Int)), .box [.str f.mod, .str f.name, c0, .int .i64 f.type, .int .i64 f.slots, c1], .v (.int .i64 (s.1 : Int))]) (fun s => s.2) (fun s => f.code.length - s.1) (fun ⟨z, σz⟩ ⟨hz, hlz⟩ => ?_) (0, σ2) ⟨Nat.zero_le _, l02⟩
    simp only at hz hlz ⊢
    refine W.to (fun k _ => by rw [spec_LinkText.L1_step]) ?_
    have hlc := hins z hz
    refine B.len t1 (B.ite (fun hlt2 => ?_) fun hlt2 => ?_)
    · have hzl : z < f.code.length := by omega
      have hy : f.code[z]? = some f.code[z] := List.getElem?_eq_getElem hzl
      generalize f.code[z] = y at hy
      have hyo := hfo.2.2.2 y (List.mem_of_getElem? hy)
      obtain ⟨tw, j1, j2, j3⟩ := ins_ba hyo
      have hb := ins_b hyo
      have hit := Lib.itoa_length_le y.a (by omega) (by omega)
      have hs2 := catL_next (f := insL) hy
      rw [j3] at hs2
      obtain ⟨r3, p3, hv3, cs3, hr3, hP3⟩ := t1.at' hy
      have hr3' := hlz.rdc hr3
      cases hP3 with
      | mk =>
      have e0 : rdc σz r3 (p3 + 0) 1 = some [.int .i64 y.op] := rdc_sub hr3' 0 1 (by omega)
      have e1 : rdc σz r3 (p3 + 1) 1 = some [.int .i64 y.a] := rdc_sub hr3' 1 1 (by omega)
      try simp only [q_bind_some, castInt_int, q_castBool, q_castStr, q_castPtr, q_castFn, q_castAgg, q_castTuple, q_uncons, q_isNil, q_sl, q_nils, q_emp, q_ptr, q_nilp, q_fn, q_cond_true, q_cond_false, Bool.not_true, Bool.not_false, decide_true, decide_false, List.cons_append, List.nil_append, hv3, e0, e1]
      refine B.give (l8Word_gives _ _) fun σ3 l3 => ?_
      have l3' := Lh.unprots (rs := [r3]) l3
      try simp (maxSteps := 2000000) (disch := (simp only [List.length_append, List.length_cons, List.length_nil]; omega)) only [q_bind_some, castInt_int, q_castBool, q_castStr, q_castPtr, q_castFn, q_castAgg, q_castTuple, q_uncons, q_isNil, q_sl, q_nils, q_emp, q_ptr, q_nilp, q_fn, q_cond_true, q_cond_false, Bool.not_true, Bool.not_false, decide_true, decide_false, List.cons_append, List.nil_append, mk_ba, ba2, fitB, j1]
      refine B.give (l23Dec_gives _ (by omega) (by omega)) fun σ4 l4 => ?_
      try simp (maxSteps := 2000000) (disch := (simp only [List.length_append, List.length_cons, List.length_nil]; omega)) only [q_bind_some, castInt_int, q_castBool, q_castStr, q_castPtr, q_castFn, q_castAgg, q_castTuple, q_uncons, q_isNil, q_sl, q_nils, q_emp, q_ptr, q_nilp, q_fn, q_cond_true, q_cond_false, Bool.not_true, Bool.not_false, decide_true, decide_false, List.cons_append, List.nil_append, mk_ba, ba2, fitB, wrap_next hzl (by omega)]
      exact W.again (z + 1, σ4) ⟨by show z + 1 ≤ f.code.length; omega, (hlz.trans l3').trans l4⟩ (by simp only; omega) (by simp only [hs2, List.append_assoc, List.cons_append, List.nil_append]) rfl
    · obtain rfl : z = f.code.length := by omega
      try simp only [q_bind_some, castInt_int, q_castBool, q_castStr, q_castPtr, q_castFn, q_castAgg, q_castTuple, q_uncons, q_isNil, q_sl, q_nils, q_emp, q_ptr, q_nilp, q_fn, q_cond_true, q_cond_false, Bool.not_true, Bool.not_false, decide_true, decide_false, List.cons_append, List.nil_append, spec_LinkText.A1_x2, wrap_next hil (by omega)]
      have hw : lwholeL f = lfunL f ++ catL insL f.code f.code.length := rfl
      exact W.out' _ (W.again (i + 1, σz) ⟨by show i + 1 ≤ o.funs.length; omega, hlz⟩ (by simp only; omega) (by simp only [hstep, hw, List.append_assoc]) rfl) fun k j m => rfl
  have hH : headL f.args f.type f.slots = argL f.args ++ [32] ++ (tword f.type).data.toList ++ [32] ++ Lib.itoa f.slots := rfl
  rw [hH] at g5
  unfold argL at g5
  generalize (tword f.type).data.toList = tw at k1 k2 g5
  try simp (maxSteps := 2000000) (disch := (simp only [List.length_append, List.length_cons, List.length_nil]; omega)) only [q_bind_some, castInt_int, q_castBool, q_castStr, q_castPtr, q_castFn, q_castAgg, q_castTuple, q_uncons, q_isNil, q_sl, q_nils, q_emp, q_ptr, q_nilp, q_fn, q_cond_true, q_cond_false, Bool.not_true, Bool.not_false, decide_true, decide_false, List.cons_append, List.nil_append, mk_ba, ba2, fitB, ba_inj, g1, g2]
  refine B.ite (fun he => ?_) fun he => ?_
  · have he' : tyL f.args = [] := by first | exact he | exact ba_inj.1 he
    rw [if_pos he'] at g5
    try simp (maxSteps := 2000000) (disch := (simp only [List.length_append, List.length_cons, List.length_nil]; omega)) only [q_bind_some, castInt_int, q_castBool, q_castStr, q_castPtr, q_castFn, q_castAgg, q_castTuple, q_uncons, q_isNil, q_sl, q_nils, q_emp, q_ptr, q_nilp, q_fn, q_cond_true, q_cond_false, Bool.not_true, Bool.not_false, decide_true, decide_false, List.cons_append, List.nil_append, mk_ba, ba2, fitB]
    refine B.give (specTreeType_gives _ _) fun σ3 l3 => ?_
    try simp (maxSteps := 2000000) (disch := (simp only [List.length_append, List.length_cons, List.length_nil]; omega)) only [q_bind_some, castInt_int, q_castBool, q_castStr, q_castPtr, q_castFn, q_castAgg, q_castTuple, q_uncons, q_isNil, q_sl, q_nils, q_emp, q_ptr, q_nilp, q_fn, q_cond_true, q_cond_false, Bool.not_true, Bool.not_false, decide_true, decide_false, List.cons_append, List.nil_append, mk_ba, ba2, fitB, k1]
    refine B.give (l23Dec_gives _ (by omega) (by omega)) fun σ4 l4 => ?_
    try simp (maxSteps := 2000000) (disch := (simp only [List.length_append, List.length_cons, List.length_nil]; omega)) only [q_bind_some, castInt_int, q_castBool, q_castStr, q_castPtr, q_castFn, q_castAgg, q_castTuple, q_uncons, q_isNil, q_sl, q_nils, q_emp, q_ptr, q_nilp, q_fn, q_cond_true, q_cond_false, Bool.not_true, Bool.not_false, decide_true, decide_false, List.cons_append, List.nil_append, mk_ba, ba2, fitB]
    have := inner ((l02.trans l3).trans l4)
    rw [g5, g1, g2] at this
    simp only [List.append_assoc, List.cons_append, List.nil_append] at this ⊢
    exact this
  · have he' : ¬ tyL f.args = [] := by first | exact he | exact fun hc => he (ba_inj.2 hc)
    rw [if_neg he'] at g5
    try simp (maxSteps := 2000000) (disch := (simp only [List.length_append, List.length_cons, List.length_nil]; omega)) only [q_bind_some, castInt_int, q_castBool, q_castStr, q_castPtr, q_castFn, q_castAgg, q_castTuple, q_uncons, q_isNil, q_sl, q_nils, q_emp, q_ptr, q_nilp, q_fn, q_cond_true, q_cond_false, Bool.not_true, Bool.not_false, decide_true, decide_false, List.cons_append, List.nil_append, mk_ba, ba2, fitB]
    refine B.give (specTreeType_gives _ _) fun σ3 l3 => ?_
    try simp (maxSteps := 2000000) (disch := (simp only [List.length_append, List.length_cons, List.length_nil]; omega)) only [q_bind_some, castInt_int, q_castBool, q_castStr, q_castPtr, q_castFn, q_castAgg, q_castTuple, q_uncons, q_isNil, q_sl, q_nils, q_emp, q_ptr, q_nilp, q_fn, q_cond_true, q_cond_false, Bool.not_true, Bool.not_false, decide_true, decide_false, List.cons_append, List.nil_append, mk_ba, ba2, fitB, k1]
    refine B.give (l23Dec_gives _ (by omega) (by omega)) fun σ4 l4 => ?_
    try simp (maxSteps := 2000000) (disch := (simp only [List.length_append, List.length_cons, List.length_nil]; omega)) only [q_bind_some, castInt_int, q_castBool, q_castStr, q_castPtr, q_castFn, q_castAgg, q_castTuple, q_uncons, q_isNil, q_sl, q_nils, q_emp, q_ptr, q_nilp, q_fn, q_cond_true, q_cond_false, Bool.not_true, Bool.not_false, decide_true, decide_false, List.cons_append, List.nil_append, mk_ba, ba2, fitB]
    have := inner ((l02.trans l3).trans l4)
    rw [g5, g1, g2] at this
    simp only [List.append_assoc, List.cons_append, List.nil_append] at this ⊢
    exact this
set_option maxHeartbeats 1000000 in
theorem implLinkText_gives {σ : Heap} (htw : TypeW σ) (how : OpW σ) (hnw : TabW σ) {o : LinkImage} (hF : o.Fit) (ht : o.total ≤ 1048576) {cs : List V} (h : LinkImage.Rep σ cs o) : Gives G n_impl_LinkText [.agg cs] σ (.str (if ImgIs o then ba (imgL o) else ⟨#[]⟩)) := by
  have c1 := implImageOk_gives hF ht h
  cases h with
  | mk h0 h1 =>
  rename_i b0 b1
  refine Gives.of (W.to (fun k _ => impl_LinkText.eq k _ _ _) ?_)
  refine W.give c1 fun σ1 l1 => ?_
  by_cases hok : ImgIs o
  rotate_left
  · try simp only [q_bind_some, castInt_int, q_castBool, q_castStr, q_castPtr, q_castFn, q_castAgg, q_castTuple, q_uncons, q_isNil, q_sl, q_nils, q_emp, q_ptr, q_nilp, q_fn, q_cond_true, q_cond_false, Bool.not_true, Bool.not_false, decide_true, decide_false, List.cons_append, List.nil_append, decide_eq_false hok]
    exact W.ret ⟨by rw [if_neg hok], l1⟩
  try simp only [q_bind_some, castInt_int, q_castBool, q_castStr, q_castPtr, q_castFn, q_castAgg, q_castTuple, q_uncons, q_isNil, q_sl, q_nils, q_emp, q_ptr, q_nilp, q_fn, q_cond_true, q_cond_false, Bool.not_true, Bool.not_false, decide_true, decide_false, List.cons_append, List.nil_append, decide_eq_true hok]
  rw [if_pos hok]
  have h72 := hok.1
  have h8 := hok.2.1
  have hih : ih.length = 6 := rfl
  have hWl := fun i hi => lfuns_le hok i hi
  have hMl := fun i hi => mains_le hok i hi
  have hno : ∀ row, σ1[σ1.length]? ≠ some (some row) := fun row hc => by rw [List.getElem?_eq_none (Nat.le_refl _)] at hc; cases hc
  obtain ⟨σ2, c2, B2, K2⟩ := writeString_runs (F := σ1.length + 1) (by simp [hnewT]) (Bld.new σ1) (ba ih) (by rw [ba_size, hih]; decide)
  have hl2 : Lh σ1 σ2 := K2.lh (Lh.append _ _) (by omega) hno
  have hn2 : σ1.length + 1 ≤ σ2.length := Nat.le_trans (by simp [hnewT]) K2.1
  have h00 : (⟨#[105, 109, 97, 103, 101, 10]⟩ : ByteArray) = ba ih := rfl
  have h01 : (⟨#[]⟩ : ByteArray) ++ ba ih = ba (ih ++ catL lwholeL o.funs 0) := by rw [catL_zero]; rfl
  rw [h01] at B2
  rw [h00]
  refine W.run c2 ?_
  try simp only [q_bind_some, castInt_int, q_castBool, q_castStr, q_castPtr, q_castFn, q_castAgg, q_castTuple, q_uncons, q_isNil, q_sl, q_nils, q_emp, q_ptr, q_nilp, q_fn, q_cond_true, q_cond_false, Bool.not_true, Bool.not_false, decide_true, decide_false, List.cons_append, List.nil_append]
  refine W.len h0 ?_
  refine W.loop (S := Nat × Heap) (fun s => s.1 ≤ o.funs.length ∧ Bld (σ1.length + 1) s.2 σ1.length (ba (ih ++ catL lwholeL o.funs s.1)) ∧ Lh σ1 s.2 ∧ σ1.length + 1 ≤ s.2.length)
    (fun s => [.box [b0, b1], .v (.ptr σ1.length 0), .v b0, .v (.int .i64 (o.funs.length : Int)), .v (.int .i64 (s.1 : Int))]) (fun s => s.2) (fun s => o.funs.length - s.1)
    (fun ⟨i, σi⟩ ⟨hi, hB, hle, hlen'⟩ => ?_) (0, σ2) ⟨Nat.zero_le _, B2, hl2, hn2⟩
  simp only at hi hB hle hlen' ⊢
  have hl := hWl i hi
  refine W.to (fun k _ => by rw [impl_LinkText.L0_step]) ?_
  refine B.ite (fun hlt => ?_) fun hlt => ?_
  · have hil : i < o.funs.length := by omega
    have hx : o.funs[i]? = some o.funs[i] := List.getElem?_eq_getElem hil
    generalize o.funs[i] = f at hx
    have hm := List.mem_of_getElem? hx
    have hfo := hok.2.2.2.1 f hm
    have hcl := lfun_in hok hm
    have hcb : (codeL f.code).length ≤ 14720 := by
      have := code_len hfo.2.2.2 _ (Nat.le_refl _)
      unfold codeL
      omega
    have hhd := lhead_len hfo
    have hstep := catL_next (f := lwholeL) hx
    have hlh := l1.trans hle
    obtain ⟨md, nm, g1, g2, g3, g4, g5⟩ := lfun_ba hfo
    have hw : lwholeL f = lfunL f ++ codeL f.code := rfl
    obtain ⟨r, p, hv, cs, hr, hP⟩ := h0.at' hx
    have hP' := LinkFun.Rep.le hlh hP
    have hr' := hlh.rdc hr
    cases hP' with
    | mk t0 t1 =>
    rename_i c0 c1
    have d1 := headText_gives (hlh.row _ _ htw) (hlh.row _ _ hnw) hfo.2.1.2.1.1 t0 f.type f.slots hfo.2.1.2.2.2.1 hfo.2.1.2.2.2.2
    try simp (maxSteps := 2000000) (disch := (simp only [List.length_append, List.length_cons, List.length_nil]; omega)) only [q_bind_some, castInt_int, q_castBool, q_castStr, q_castPtr, q_castFn, q_castAgg, q_castTuple, q_uncons, q_isNil, q_sl, q_nils, q_emp, q_ptr, q_nilp, q_fn, q_cond_true, q_cond_false, Bool.not_true, Bool.not_false, decide_true, decide_false, List.cons_append, List.nil_append, mk_ba, ba2, fitB, hv, hr', g1, g2]
    refine B.give d1 fun σ3 l3 => ?_
    try simp (maxSteps := 2000000) (disch := (simp only [List.length_append, List.length_cons, List.length_nil]; omega)) only [q_bind_some, castInt_int, q_castBool, q_castStr, q_castPtr, q_castFn, q_castAgg, q_castTuple, q_uncons, q_isNil, q_sl, q_nils, q_emp, q_ptr, q_nilp, q_fn, q_cond_true, q_cond_false, Bool.not_true, Bool.not_false, decide_true, decide_false, List.cons_append, List.nil_append, mk_ba, ba2, fitB]
    refine B.give (codeText_gives ((hlh.trans l3).row _ _ how) ((hlh.trans l3).row _ _ hnw) (by omega) hfo.2.2.2 (t1.mono l3 fun _ _ _ h => CodeIns.Rep.le l3 h)) fun σ4 l4 => ?_
    try simp (maxSteps := 2000000) (disch := (simp only [List.length_append, List.length_cons, List.length_nil]; omega)) only [q_bind_some, castInt_int, q_castBool, q_castStr, q_castPtr, q_castFn, q_castAgg, q_castTuple, q_uncons, q_isNil, q_sl, q_nils, q_emp, q_ptr, q_nilp, q_fn, q_cond_true, q_cond_false, Bool.not_true, Bool.not_false, decide_true, decide_false, List.cons_append, List.nil_append, mk_ba, ba2, fitB]
    have l34 := l3.trans l4
    have hn4 : σ1.length + 1 ≤ σ4.length := Nat.le_trans hlen' l34.len
    obtain ⟨σ5, c5, B5, K5⟩ := writeString_runs (F := σ1.length + 1) hn4 (hB.keep l34) (ba ([102, 117, 110, 32] ++ md ++ [46] ++ nm ++ [32] ++ headL f.args f.type f.slots ++ [10] ++ codeL f.code)) (by rw [ba_size, ba_size]; simp only [List.length_append, List.length_cons, List.length_nil]; omega)
    refine B.run c5 ?_
    try simp (maxSteps := 2000000) (disch := (simp only [List.length_append, List.length_cons, List.length_nil]; omega)) only [q_bind_some, castInt_int, q_castBool, q_castStr, q_castPtr, q_castFn, q_castAgg, q_castTuple, q_uncons, q_isNil, q_sl, q_nils, q_emp, q_ptr, q_nilp, q_fn, q_cond_true, q_cond_false, Bool.not_true, Bool.not_false, decide_true, decide_false, List.cons_append, List.nil_append, mk_ba, ba2, fitB, wrap_next hil (by omega)]
    rw [ba2, show ih ++ catL lwholeL o.funs i ++ ([102, 117, 110, 32] ++ md ++ [46] ++ nm ++ [32] ++ headL f.args f.type f.slots ++ [10] ++ codeL f.code) = ih ++ catL lwholeL o.funs (i + 1) by rw [hstep, hw, g5]; simp only [List.append_assoc]] at B5
    exact W.again (i + 1, σ5) ⟨by show i + 1 ≤ o.funs.length; omega, B5, K5.lh (hle.trans l34) (by omega) hno, Nat.le_trans hn4 K5.1⟩ (by simp only; omega) rfl rfl
  obtain rfl : i = o.funs.length := by omega
  try simp only [q_bind_some, castInt_int, q_castBool, q_castStr, q_castPtr, q_castFn, q_castAgg, q_castTuple, q_uncons, q_isNil, q_sl, q_nils, q_emp, q_ptr, q_nilp, q_fn, q_cond_true, q_cond_false, Bool.not_true, Bool.not_false, decide_true, decide_false, List.cons_append, List.nil_append, impl_LinkText.A0_x0]
  have hFF := hWl o.funs.length (Nat.le_refl _)
  rw [imgL_eq]
  generalize catL lwholeL o.funs o.funs.length = FL at hFF hB
  refine W.len h1 ?_
  refine W.loop (S := Nat × Heap) (fun s => s.1 ≤ o.mains.length ∧ Bld (σ1.length + 1) s.2 σ1.length (ba (ih ++ FL ++ catL mainL o.mains s.1)) ∧ Lh σ1 s.2 ∧ σ1.length + 1 ≤ s.2.length)
    (fun s => [.v (.ptr σ1.length 0), .v b1, .v (.int .i64 (o.mains.length : Int)), .v (.int .i64 (s.1 : Int))]) (fun s => s.2) (fun s => o.mains.length - s.1)
    (fun ⟨i, σi⟩ ⟨hi, hB, hle, hlen'⟩ => ?_) (0, σi) ⟨Nat.zero_le _, by rw [catL_zero, List.append_nil]; exact hB, hle, hlen'⟩
  simp only at hi hB hle hlen' ⊢
  have hml := hMl i hi
  refine W.to (fun k _ => by rw [impl_LinkText.L1_step]) ?_
  refine B.ite (fun hlt => ?_) fun hlt => ?_
  · have hil : i < o.mains.length := by omega
    have hx : o.mains[i]? = some o.mains[i] := List.getElem?_eq_getElem hil
    generalize o.mains[i] = n at hx
    have hn := hok.2.2.2.2 n (List.mem_of_getElem? hx)
    have hit := Lib.itoa_length_le n (by omega) (by omega)
    have hstep := catL_next (f := mainL) hx
    have hm : mainL n = [109, 97, 105, 110, 32] ++ Lib.itoa n ++ [10] := rfl
    rw [hm] at hstep
    obtain ⟨r, p, hv, cs, hr, hP⟩ := h1.at' hx
    have hr' := (l1.trans hle).rdc hr
    unfold IntRep at hP
    subst hP
    try simp (maxSteps := 2000000) (disch := (simp only [List.length_append, List.length_cons, List.length_nil]; omega)) only [q_bind_some, castInt_int, q_castBool, q_castStr, q_castPtr, q_castFn, q_castAgg, q_castTuple, q_uncons, q_isNil, q_sl, q_nils, q_emp, q_ptr, q_nilp, q_fn, q_cond_true, q_cond_false, Bool.not_true, Bool.not_false, decide_true, decide_false, List.cons_append, List.nil_append, mk_ba, ba2, fitB, hv, hr']
    refine B.run (itoa_runs ((l1.trans hle).row _ _ hnw) (by omega) (by omega)) ?_
    try simp (maxSteps := 2000000) (disch := (simp only [List.length_append, List.length_cons, List.length_nil]; omega)) only [q_bind_some, castInt_int, q_castBool, q_castStr, q_castPtr, q_castFn, q_castAgg, q_castTuple, q_uncons, q_isNil, q_sl, q_nils, q_emp, q_ptr, q_nilp, q_fn, q_cond_true, q_cond_false, Bool.not_true, Bool.not_false, decide_true, decide_false, List.cons_append, List.nil_append, mk_ba, ba2, fitB]
    obtain ⟨σ3, c3, B3, K3⟩ := writeString_runs (F := σ1.length + 1) hlen' hB (ba ([109, 97, 105, 110, 32] ++ Lib.itoa n ++ [10])) (by rw [ba_size, ba_size]; simp only [List.length_append, List.length_cons, List.length_nil]; omega)
    refine B.run c3 ?_
    try simp (maxSteps := 2000000) (disch := (simp only [List.length_append, List.length_cons, List.length_nil]; omega)) only [q_bind_some, castInt_int, q_castBool, q_castStr, q_castPtr, q_castFn, q_castAgg, q_castTuple, q_uncons, q_isNil, q_sl, q_nils, q_emp, q_ptr, q_nilp, q_fn, q_cond_true, q_cond_false, Bool.not_true, Bool.not_false, decide_true, decide_false, List.cons_append, List.nil_append, mk_ba, ba2, fitB, wrap_next hil (by omega)]
    rw [ba2, show ih ++ FL ++ catL mainL o.mains i ++ ([109, 97, 105, 110, 32] ++ Lib.itoa n ++ [10]) = ih ++ FL ++ catL mainL o.mains (i + 1) by rw [hstep]; simp only [List.append_assoc]] at B3
    exact W.again (i + 1, σ3) ⟨by show i + 1 ≤ o.mains.length; omega, B3, K3.lh hle (by omega) hno, Nat.le_trans hlen' K3.1⟩ (by simp only; omega) rfl rfl
  obtain rfl : i = o.mains.length := by omega
  try simp only [q_bind_some, castInt_int, q_castBool, q_castStr, q_castPtr, q_castFn, q_castAgg, q_castTuple, q_uncons, q_isNil, q_sl, q_nils, q_emp, q_ptr, q_nilp, q_fn, q_cond_true, q_cond_false, Bool.not_true, Bool.not_false, decide_true, decide_false, List.cons_append, List.nil_append, impl_LinkText.A1_x2]
  obtain ⟨σ4, c4, K4⟩ := builderText_runs hB (by rw [ba_size]; simp only [List.length_append]; omega)
  refine W.run c4 ?_
  try simp only [q_bind_some, castInt_int, q_castBool, q_castStr, q_castPtr, q_castFn, q_castAgg, q_castTuple, q_uncons, q_isNil, q_sl, q_nils, q_emp, q_ptr, q_nilp, q_fn, q_cond_true, q_cond_false, Bool.not_true, Bool.not_false, decide_true, decide_false, List.cons_append, List.nil_append]
  exact W.ret ⟨rfl, l1.trans (K4.lh hle (by omega) hno)⟩
end Go.F
