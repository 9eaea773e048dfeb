/- The places of marks, and what marks and looks at them. -/
import Derived.Test.YtghkdjfgbaoplaaMkT
import Derived.Test.YtghkdjfgbaoplaaC
set_option linter.unusedVariables false
set_option linter.unusedSimpArgs false
namespace Go.B
open Go.HM Go.Proofs
def PInt (σ : Heap) (r o : Nat) (ls : List Leaf) : Prop := Fl σ .i r o ∧ ls = [(.i, r, o)]
theorem PInt.shp {σ σ' : Heap} (s : Shp σ σ') {r o : Nat} {ls : List Leaf} (h : PInt σ r o ls) : PInt σ' r o ls := ⟨h.1.shp s, h.2⟩
theorem PInt.cells {σ : Heap} {r o : Nat} {ls : List Leaf} (h : PInt σ r o ls) : ∀ k r' o', (k, r', o') ∈ ls → cellAt σ r' o' ≠ none := fun k r' o' hm => by
  obtain ⟨h1, rfl⟩ := h
  simp at hm
  obtain ⟨rfl, rfl, rfl⟩ := hm
  exact h1.cell
theorem PInt.pos {σ : Heap} {r o : Nat} {ls : List Leaf} (h : PInt σ r o ls) : 1 ≤ ls.length := by rw [h.2]; simp
theorem markIntS_lv {σ0 σ : Heap} {n : Nat} {A : List Leaf} {v : V} {lss : List (List Leaf)} (s : Shp σ0 (wrs σ n A)) (h : LvS 1 (PInt σ0) σ0 v lss) (h1 : 1 ≤ n) (h2 : n + A.length + lss.flatten.length ≤ 1099511627776) : Runs G n_laws_markIntS [v, .int .i64 ((n + A.length : Nat) : Int)] (wrs σ n A) (.int .i64 ((n + (A ++ lss.flatten).length : Nat) : Int)) (wrs σ n (A ++ lss.flatten)) ∧ Shp σ0 (wrs σ n (A ++ lss.flatten)) := by
  suffices hE : HM.Ends G n_laws_markIntS [v, .int .i64 ((n + A.length : Nat) : Int)] (wrs σ n A) (fun w σ' => w = .int .i64 ((n + (A ++ lss.flatten).length : Nat) : Int) ∧ σ' = wrs σ n (A ++ lss.flatten) ∧ Shp σ0 σ') by
    obtain ⟨w, σ', ⟨rfl, rfl, hs⟩, hr⟩ := hE
    exact ⟨hr, hs⟩
  have hlen : lss.length ≤ 4611686018427387904 := h.len_le (by omega) fun r o ls h => by
      have := PInt.pos h
      omega
  refine HM.Ends.mk (W.to (fun k _ => laws_markIntS.eq k _ _ _) ?_)
  generalize hG : (fun (w : V) (σ' : Heap) => w = .int .i64 ((n + (A ++ lss.flatten).length : Nat) : Int) ∧ σ' = wrs σ n (A ++ lss.flatten) ∧ Shp σ0 σ') = Good
  rw [← List.append_nil A]
  refine W.loop (S := Nat) (fun i => i ≤ lss.length ∧ Shp σ0 (wrs σ n (A ++ (lss.take i).flatten))) (fun i => [.v v, .v (.int .i64 ((n + (A ++ (lss.take i).flatten).length : Nat) : Int)), .v (.int .i64 (i : Int))]) (fun i => wrs σ n (A ++ (lss.take i).flatten)) (fun i => lss.length - i) (fun i ⟨hi', sB⟩ => ?_)
    0 ⟨Nat.zero_le _, by simpa using s⟩
  refine W.to (fun k _ => by rw [laws_markIntS.L0_step]) ?_
  refine B.bind h.vlen (B.ite (fun hlt => ?_) fun hlt => ?_)
  rotate_left
  · rw [List.take_of_length_le (by omega)] at sB ⊢
    try simp only [q_bind_some, castInt_int, q_castBool, q_castStr, q_castPtr, q_castFn, q_castAgg, q_castTuple, q_uncons, q_isNil, q_sl, q_nils, q_emp, q_ptr, q_nilp, q_fn, q_cond_true, q_cond_false, Bool.not_true, Bool.not_false, decide_true, decide_false, List.cons_append, List.nil_append, laws_markIntS.A0_x0]
    subst hG
    exact W.ret ⟨rfl, rfl, sB⟩
  have hil : i < lss.length := by omega
  have hx : lss[i]? = some lss[i] := List.getElem?_eq_getElem hil
  have hnext := flat_next hx
  have hle := flat_le hx
  generalize lss[i] = ls at hx hnext hle
  have hw0 := wrap_next hil hlen
  have hnx : A ++ (lss.take (i + 1)).flatten = (A ++ (lss.take i).flatten) ++ ls := by rw [hnext, List.append_assoc]
  have hBl : (A ++ (lss.take i).flatten).length = A.length + (lss.take i).flatten.length := List.length_append
  generalize A ++ (lss.take i).flatten = B0 at sB hnx hBl ⊢
  obtain ⟨r, o, hv, hP⟩ := h.at hx
  obtain ⟨f0, rfl⟩ := hP
  simp only [List.length_append, List.length_cons, List.length_nil] at hle
  have e0 : (B0 ++ [(MK.i, r, o)]).length = B0.length + 1 := List.length_append
  obtain ⟨p0, s0⟩ := put_i sB f0
  have x0 := nx (n := n) (A := B0) (MK.i, r, o) (by omega)
  try simp only [q_bind_some, castInt_int, q_castBool, q_castStr, q_castPtr, q_castFn, q_castAgg, q_castTuple, q_uncons, q_isNil, q_sl, q_nils, q_emp, q_ptr, q_nilp, q_fn, q_cond_true, q_cond_false, Bool.not_true, Bool.not_false, decide_true, decide_false, List.cons_append, List.nil_append, hv, p0, x0]
  generalize hb0 : B0 ++ [(MK.i, r, o)] = B1 at *
  have hfin : A ++ (lss.take (i + 1)).flatten = B1 := by
      rw [hnx, ← hb0]
      try simp only [List.append_assoc]
  refine W.again (i + 1) ⟨by omega, by rw [hfin]; exact s0⟩ (by omega) (by rw [hfin, hw0]) (by rw [hfin])
theorem heldIntS_lv {σ0 σ : Heap} {n : Nat} {v : V} {lss : List (List Leaf)} (s : Shp σ0 σ) (h : LvS 1 (PInt σ0) σ0 v lss) (hm : HeldAt σ n lss.flatten) (h1 : 1 ≤ n) (h2 : n + lss.flatten.length ≤ 1099511627776) : Runs G n_laws_heldIntS [v, .int .i64 (n : Int)] σ (.int .i64 ((n + lss.flatten.length : Nat) : Int)) σ := by
  have hlen : lss.length ≤ 4611686018427387904 := h.len_le (by omega) fun r o ls h => by
      have := PInt.pos h
      omega
  refine Runs.of (W.to (fun k _ => laws_heldIntS.eq k _ _ _) ?_)
  refine W.loop (S := Nat) (fun i => i ≤ lss.length) (fun i => [.v v, .v (.int .i64 ((n + (lss.take i).flatten.length : Nat) : Int)), .v (.int .i64 (i : Int))]) (fun i => σ) (fun i => lss.length - i) (fun i hi' => ?_) 0 (Nat.zero_le _)
  refine W.to (fun k _ => by rw [laws_heldIntS.L0_step]) ?_
  refine B.bind h.vlen (B.ite (fun hlt => ?_) fun hlt => ?_)
  rotate_left
  · rw [List.take_of_length_le (by omega)]
    try simp only [q_bind_some, castInt_int, q_castBool, q_castStr, q_castPtr, q_castFn, q_castAgg, q_castTuple, q_uncons, q_isNil, q_sl, q_nils, q_emp, q_ptr, q_nilp, q_fn, q_cond_true, q_cond_false, Bool.not_true, Bool.not_false, decide_true, decide_false, List.cons_append, List.nil_append, laws_heldIntS.A0_x0]
    exact W.ret ⟨rfl, rfl⟩
  have hil : i < lss.length := by omega
  have hx : lss[i]? = some lss[i] := List.getElem?_eq_getElem hil
  have hnext := flat_next hx
  have hle := flat_le hx
  obtain ⟨rest, hcut⟩ := flat_cut hx
  generalize lss[i] = ls at hx hnext hle hcut
  have hw0 := wrap_next hil hlen
  have hh := (hcut ▸ hm : HeldAt σ n ((lss.take i).flatten ++ (ls ++ rest))).app.2.app.1
  obtain ⟨r, o, hv, hP⟩ := h.at hx
  obtain ⟨f0, rfl⟩ := hP
  simp only [List.length_append, List.length_cons, List.length_nil] at hle hnext
  have hm0 : n + (lss.take i).flatten.length = n + (lss.take i).flatten.length := rfl
  generalize hq0 : n + (lss.take i).flatten.length = m0 at hh ⊢
  have z0 : n ≤ m0 := by omega
  have t0 := hh
  have r0 := rdc_cell t0.one
  have r0 : rdc σ r (o) 1 = some [.int .i64 (m0 : Int)] := r0
  try simp only [q_bind_some, castInt_int, q_castBool, q_castStr, q_castPtr, q_castFn, q_castAgg, q_castTuple, q_uncons, q_isNil, q_sl, q_nils, q_emp, q_ptr, q_nilp, q_fn, q_cond_true, q_cond_false, Bool.not_true, Bool.not_false, decide_true, decide_false, List.cons_append, List.nil_append, hv, r0]
  try simp only [q_bind_some, castInt_int, q_castBool, q_castStr, q_castPtr, q_castFn, q_castAgg, q_castTuple, q_uncons, q_isNil, q_sl, q_nils, q_emp, q_ptr, q_nilp, q_fn, q_cond_true, q_cond_false, Bool.not_true, Bool.not_false, decide_true, decide_false, List.cons_append, List.nil_append, decide_eq_true (rfl : (m0 : Int) = (m0 : Int))]
  generalize hq1 : m0 + 1 = m1 at *
  have w0 : IntKind.wrap .i64 ((m0 : Int) + 1) = (m1 : Int) := by rw [wrap_id (by omega) (by omega)]; omega
  try try simp only [q_bind_some, castInt_int, q_castBool, q_castStr, q_castPtr, q_castFn, q_castAgg, q_castTuple, q_uncons, q_isNil, q_sl, q_nils, q_emp, q_ptr, q_nilp, q_fn, q_cond_true, q_cond_false, Bool.not_true, Bool.not_false, decide_true, decide_false, List.cons_append, List.nil_append, w0]
  have hfin : n + (lss.take (i + 1)).flatten.length = m1 := by rw [hnext]; simp only [List.length_append, List.length_cons, List.length_nil]; omega
  exact W.again (i + 1) (show i + 1 ≤ lss.length by omega) (by omega) (by rw [hfin, hw0]) rfl
def PCodeIns (σ : Heap) (r o : Nat) (ls : List Leaf) : Prop := Fl σ .i r (o + 0) ∧ Fl σ .i r (o + 1) ∧ ls = [(.i, r, o + 0)] ++ ([(.i, r, o + 1)])
theorem PCodeIns.shp {σ σ' : Heap} (s : Shp σ σ') {r o : Nat} {ls : List Leaf} (h : PCodeIns σ r o ls) : PCodeIns σ' r o ls := by
  obtain ⟨h0, h1, rfl⟩ := h
  exact ⟨h0.shp s, h1.shp s, rfl⟩
theorem PCodeIns.cells {σ : Heap} {r o : Nat} {ls : List Leaf} (h : PCodeIns σ r o ls) : ∀ k r' o', (k, r', o') ∈ ls → cellAt σ r' o' ≠ none := fun k r' o' hm => by
      obtain ⟨h0, h1, rfl⟩ := h
      rcases List.mem_append.1 hm with hm | hm
      · exact (fun k r' o' hm => by
          simp at hm
          obtain ⟨rfl, rfl, rfl⟩ := hm
          exact h0.cell) k r' o' hm
      exact (fun k r' o' hm => by
        simp at hm
        obtain ⟨rfl, rfl, rfl⟩ := hm
        exact h1.cell) k r' o' hm
theorem PCodeIns.pos {σ : Heap} {r o : Nat} {ls : List Leaf} (h : PCodeIns σ r o ls) : 1 ≤ ls.length := by
  obtain ⟨f0, f1, rfl⟩ := h
  simp
theorem markCodeInsS_lv {σ0 σ : Heap} {n : Nat} {A : List Leaf} {v : V} {lss : List (List Leaf)} (s : Shp σ0 (wrs σ n A)) (h : LvS 2 (PCodeIns σ0) σ0 v lss) (h1 : 1 ≤ n) (h2 : n + A.length + lss.flatten.length ≤ 1099511627776) : Runs G n_laws_markCodeInsS [v, .int .i64 ((n + A.length : Nat) : Int)] (wrs σ n A) (.int .i64 ((n + (A ++ lss.flatten).length : Nat) : Int)) (wrs σ n (A ++ lss.flatten)) ∧ Shp σ0 (wrs σ n (A ++ lss.flatten)) := by
  suffices hE : HM.Ends G n_laws_markCodeInsS [v, .int .i64 ((n + A.length : Nat) : Int)] (wrs σ n A) (fun w σ' => w = .int .i64 ((n + (A ++ lss.flatten).length : Nat) : Int) ∧ σ' = wrs σ n (A ++ lss.flatten) ∧ Shp σ0 σ') by
    obtain ⟨w, σ', ⟨rfl, rfl, hs⟩, hr⟩ := hE
    exact ⟨hr, hs⟩
  have hlen : lss.length ≤ 4611686018427387904 := h.len_le (by omega) fun r o ls h => by
      have := PCodeIns.pos h
      omega
  refine HM.Ends.mk (W.to (fun k _ => laws_markCodeInsS.eq k _ _ _) ?_)
  generalize hG : (fun (w : V) (σ' : Heap) => w = .int .i64 ((n + (A ++ lss.flatten).length : Nat) : Int) ∧ σ' = wrs σ n (A ++ lss.flatten) ∧ Shp σ0 σ') = Good
  rw [← List.append_nil A]
  refine W.loop (S := Nat) (fun i => i ≤ lss.length ∧ Shp σ0 (wrs σ n (A ++ (lss.take i).flatten))) (fun i => [.v v, .v (.int .i64 ((n + (A ++ (lss.take i).flatten).length : Nat) : Int)), .v (.int .i64 (i : Int))]) (fun i => wrs σ n (A ++ (lss.take i).flatten)) (fun i => lss.length - i) (fun i ⟨hi', sB⟩ => ?_)
    0 ⟨Nat.zero_le _, by simpa using s⟩
  refine W.to (fun k _ => by rw [laws_markCodeInsS.L0_step]) ?_
  refine B.bind h.vlen (B.ite (fun hlt => ?_) fun hlt => ?_)
  rotate_left
  · rw [List.take_of_length_le (by omega)] at sB ⊢
    try simp only [q_bind_some, castInt_int, q_castBool, q_castStr, q_castPtr, q_castFn, q_castAgg, q_castTuple, q_uncons, q_isNil, q_sl, q_nils, q_emp, q_ptr, q_nilp, q_fn, q_cond_true, q_cond_false, Bool.not_true, Bool.not_false, decide_true, decide_false, List.cons_append, List.nil_append, laws_markCodeInsS.A0_x0]
    subst hG
    exact W.ret ⟨rfl, rfl, sB⟩
  have hil : i < lss.length := by omega
  have hx : lss[i]? = some lss[i] := List.getElem?_eq_getElem hil
  have hnext := flat_next hx
  have hle := flat_le hx
  generalize lss[i] = ls at hx hnext hle
  have hw0 := wrap_next hil hlen
  have hnx : A ++ (lss.take (i + 1)).flatten = (A ++ (lss.take i).flatten) ++ ls := by rw [hnext, List.append_assoc]
  have hBl : (A ++ (lss.take i).flatten).length = A.length + (lss.take i).flatten.length := List.length_append
  generalize A ++ (lss.take i).flatten = B0 at sB hnx hBl ⊢
  obtain ⟨r, o, hv, hP⟩ := h.at hx
  obtain ⟨f0, f1, rfl⟩ := hP
  simp only [List.length_append, List.length_cons, List.length_nil] at hle
  have e0 : (B0 ++ [(MK.i, r, o + 0)]).length = B0.length + 1 := List.length_append
  obtain ⟨p0, s0⟩ := put_i sB f0
  have x0 := nx (n := n) (A := B0) (MK.i, r, o + 0) (by omega)
  try simp only [q_bind_some, castInt_int, q_castBool, q_castStr, q_castPtr, q_castFn, q_castAgg, q_castTuple, q_uncons, q_isNil, q_sl, q_nils, q_emp, q_ptr, q_nilp, q_fn, q_cond_true, q_cond_false, Bool.not_true, Bool.not_false, decide_true, decide_false, List.cons_append, List.nil_append, hv, p0, x0]
  generalize hb0 : B0 ++ [(MK.i, r, o + 0)] = B1 at *
  have e1 : (B1 ++ [(MK.i, r, o + 1)]).length = B1.length + 1 := List.length_append
  obtain ⟨p1, s1⟩ := put_i s0 f1
  have x1 := nx (n := n) (A := B1) (MK.i, r, o + 1) (by omega)
  try simp only [q_bind_some, castInt_int, q_castBool, q_castStr, q_castPtr, q_castFn, q_castAgg, q_castTuple, q_uncons, q_isNil, q_sl, q_nils, q_emp, q_ptr, q_nilp, q_fn, q_cond_true, q_cond_false, Bool.not_true, Bool.not_false, decide_true, decide_false, List.cons_append, List.nil_append, hv, p1, x1]
  generalize hb1 : B1 ++ [(MK.i, r, o + 1)] = B2 at *
  have hfin : A ++ (lss.take (i + 1)).flatten = B2 := by
      rw [hnx, ← hb1, ← hb0]
      try simp only [List.append_assoc]
  refine W.again (i + 1) ⟨by omega, by rw [hfin]; exact s1⟩ (by omega) (by rw [hfin, hw0]) (by rw [hfin])
theorem heldCodeInsS_lv {σ0 σ : Heap} {n : Nat} {v : V} {lss : List (List Leaf)} (s : Shp σ0 σ) (h : LvS 2 (PCodeIns σ0) σ0 v lss) (hm : HeldAt σ n lss.flatten) (h1 : 1 ≤ n) (h2 : n + lss.flatten.length ≤ 1099511627776) : Runs G n_laws_heldCodeInsS [v, .int .i64 (n : Int)] σ (.int .i64 ((n + lss.flatten.length : Nat) : Int)) σ := by
  have hlen : lss.length ≤ 4611686018427387904 := h.len_le (by omega) fun r o ls h => by
      have := PCodeIns.pos h
      omega
  refine Runs.of (W.to (fun k _ => laws_heldCodeInsS.eq k _ _ _) ?_)
  refine W.loop (S := Nat) (fun i => i ≤ lss.length) (fun i => [.v v, .v (.int .i64 ((n + (lss.take i).flatten.length : Nat) : Int)), .v (.int .i64 (i : Int))]) (fun i => σ) (fun i => lss.length - i) (fun i hi' => ?_) 0 (Nat.zero_le _)
  refine W.to (fun k _ => by rw [laws_heldCodeInsS.L0_step]) ?_
  refine B.bind h.vlen (B.ite (fun hlt => ?_) fun hlt => ?_)
  rotate_left
  · rw [List.take_of_length_le (by omega)]
    try simp only [q_bind_some, castInt_int, q_castBool, q_castStr, q_castPtr, q_castFn, q_castAgg, q_castTuple, q_uncons, q_isNil, q_sl, q_nils, q_emp, q_ptr, q_nilp, q_fn, q_cond_true, q_cond_false, Bool.not_true, Bool.not_false, decide_true, decide_false, List.cons_append, List.nil_append, laws_heldCodeInsS.A0_x0]
    exact W.ret ⟨rfl, rfl⟩
  have hil : i < lss.length := by omega
  have hx : lss[i]? = some lss[i] := List.getElem?_eq_getElem hil
  have hnext := flat_next hx
  have hle := flat_le hx
  obtain ⟨rest, hcut⟩ := flat_cut hx
  generalize lss[i] = ls at hx hnext hle hcut
  have hw0 := wrap_next hil hlen
  have hh := (hcut ▸ hm : HeldAt σ n ((lss.take i).flatten ++ (ls ++ rest))).app.2.app.1
  obtain ⟨r, o, hv, hP⟩ := h.at hx
  obtain ⟨f0, f1, rfl⟩ := hP
  simp only [List.length_append, List.length_cons, List.length_nil] at hle hnext
  have hm0 : n + (lss.take i).flatten.length = n + (lss.take i).flatten.length := rfl
  generalize hq0 : n + (lss.take i).flatten.length = m0 at hh ⊢
  have z0 : n ≤ m0 := by omega
  have t0 := hh.app.1
  have u0 := hh.app.2
  have r0 := rdc_cell t0.one
  have r0 : rdc σ r (o + 0) 1 = some [.int .i64 (m0 : Int)] := r0
  try simp only [q_bind_some, castInt_int, q_castBool, q_castStr, q_castPtr, q_castFn, q_castAgg, q_castTuple, q_uncons, q_isNil, q_sl, q_nils, q_emp, q_ptr, q_nilp, q_fn, q_cond_true, q_cond_false, Bool.not_true, Bool.not_false, decide_true, decide_false, List.cons_append, List.nil_append, hv, r0]
  try simp only [q_bind_some, castInt_int, q_castBool, q_castStr, q_castPtr, q_castFn, q_castAgg, q_castTuple, q_uncons, q_isNil, q_sl, q_nils, q_emp, q_ptr, q_nilp, q_fn, q_cond_true, q_cond_false, Bool.not_true, Bool.not_false, decide_true, decide_false, List.cons_append, List.nil_append, decide_eq_true (rfl : (m0 : Int) = (m0 : Int))]
  generalize hq1 : m0 + [((MK.i, r, o + 0) : Leaf)].length = m1 at *
  have hq1 : m0 + 1 = m1 := hq1
  have w0 : IntKind.wrap .i64 ((m0 : Int) + 1) = (m1 : Int) := by rw [wrap_id (by omega) (by omega)]; omega
  try try simp only [q_bind_some, castInt_int, q_castBool, q_castStr, q_castPtr, q_castFn, q_castAgg, q_castTuple, q_uncons, q_isNil, q_sl, q_nils, q_emp, q_ptr, q_nilp, q_fn, q_cond_true, q_cond_false, Bool.not_true, Bool.not_false, decide_true, decide_false, List.cons_append, List.nil_append, w0]
  have t1 := u0
  have r1 := rdc_cell t1.one
  have r1 : rdc σ r (o + 1) 1 = some [.int .i64 (m1 : Int)] := r1
  try simp only [q_bind_some, castInt_int, q_castBool, q_castStr, q_castPtr, q_castFn, q_castAgg, q_castTuple, q_uncons, q_isNil, q_sl, q_nils, q_emp, q_ptr, q_nilp, q_fn, q_cond_true, q_cond_false, Bool.not_true, Bool.not_false, decide_true, decide_false, List.cons_append, List.nil_append, hv, r1]
  try simp only [q_bind_some, castInt_int, q_castBool, q_castStr, q_castPtr, q_castFn, q_castAgg, q_castTuple, q_uncons, q_isNil, q_sl, q_nils, q_emp, q_ptr, q_nilp, q_fn, q_cond_true, q_cond_false, Bool.not_true, Bool.not_false, decide_true, decide_false, List.cons_append, List.nil_append, decide_eq_true (rfl : (m1 : Int) = (m1 : Int))]
  generalize hq2 : m1 + 1 = m2 at *
  have w1 : IntKind.wrap .i64 ((m1 : Int) + 1) = (m2 : Int) := by rw [wrap_id (by omega) (by omega)]; omega
  try try simp only [q_bind_some, castInt_int, q_castBool, q_castStr, q_castPtr, q_castFn, q_castAgg, q_castTuple, q_uncons, q_isNil, q_sl, q_nils, q_emp, q_ptr, q_nilp, q_fn, q_cond_true, q_cond_false, Bool.not_true, Bool.not_false, decide_true, decide_false, List.cons_append, List.nil_append, w1]
  have hfin : n + (lss.take (i + 1)).flatten.length = m2 := by rw [hnext]; simp only [List.length_append, List.length_cons, List.length_nil]; omega
  exact W.again (i + 1) (show i + 1 ≤ lss.length by omega) (by omega) (by rw [hfin, hw0]) rfl
def PLinkFun (σ : Heap) (r o : Nat) (ls : List Leaf) : Prop := ∃ (v2 : V) (l2 : List (List Leaf)) (v5 : V) (l5 : List (List Leaf)), Fl σ .s r (o + 0) ∧ Fl σ .s r (o + 1) ∧ Cl σ r (o + 2) v2 ∧ LvS 1 (PInt σ) σ v2 l2 ∧ Fl σ .i r (o + 3) ∧ Fl σ .i r (o + 4) ∧ Cl σ r (o + 5) v5 ∧ LvS 2 (PCodeIns σ) σ v5 l5 ∧ ls = [(.s, r, o + 0)] ++ ([(.s, r, o + 1)] ++ (l2.flatten ++ ([(.i, r, o + 3)] ++ ([(.i, r, o + 4)] ++ (l5.flatten)))))
theorem PLinkFun.shp {σ σ' : Heap} (s : Shp σ σ') {r o : Nat} {ls : List Leaf} (h : PLinkFun σ r o ls) : PLinkFun σ' r o ls := by
  obtain ⟨v2, l2, v5, l5, h0, h1, c2, h2, h3, h4, c5, h5, rfl⟩ := h
  exact ⟨v2, l2, v5, l5, h0.shp s, h1.shp s, c2.shp s, h2.mono s fun _ _ _ h => PInt.shp s h, h3.shp s, h4.shp s, c5.shp s, h5.mono s fun _ _ _ h => PCodeIns.shp s h, rfl⟩
theorem PLinkFun.cells {σ : Heap} {r o : Nat} {ls : List Leaf} (h : PLinkFun σ r o ls) : ∀ k r' o', (k, r', o') ∈ ls → cellAt σ r' o' ≠ none := fun k r' o' hm => by
      obtain ⟨v2, l2, v5, l5, h0, h1, c2, h2, h3, h4, c5, h5, rfl⟩ := h
      rcases List.mem_append.1 hm with hm | hm
      · exact (fun k r' o' hm => by
          simp at hm
          obtain ⟨rfl, rfl, rfl⟩ := hm
          exact h0.cell) k r' o' hm
      rcases List.mem_append.1 hm with hm | hm
      · exact (fun k r' o' hm => by
          simp at hm
          obtain ⟨rfl, rfl, rfl⟩ := hm
          exact h1.cell) k r' o' hm
      rcases List.mem_append.1 hm with hm | hm
      · exact (h2.cells fun _ _ _ h => PInt.cells h) k r' o' hm
      rcases List.mem_append.1 hm with hm | hm
      · exact (fun k r' o' hm => by
          simp at hm
          obtain ⟨rfl, rfl, rfl⟩ := hm
          exact h3.cell) k r' o' hm
      rcases List.mem_append.1 hm with hm | hm
      · exact (fun k r' o' hm => by
          simp at hm
          obtain ⟨rfl, rfl, rfl⟩ := hm
          exact h4.cell) k r' o' hm
      exact (h5.cells fun _ _ _ h => PCodeIns.cells h) k r' o' hm
theorem PLinkFun.pos {σ : Heap} {r o : Nat} {ls : List Leaf} (h : PLinkFun σ r o ls) : 1 ≤ ls.length := by
  obtain ⟨v2, l2, v5, l5, f0, f1, c2, f2, f3, f4, c5, f5, rfl⟩ := h
  simp
theorem markLinkFunS_lv {σ0 σ : Heap} {n : Nat} {A : List Leaf} {v : V} {lss : List (List Leaf)} (s : Shp σ0 (wrs σ n A)) (h : LvS 6 (PLinkFun σ0) σ0 v lss) (h1 : 1 ≤ n) (h2 : n + A.length + lss.flatten.length ≤ 1099511627776) : Runs G n_laws_markLinkFunS [v, .int .i64 ((n + A.length : Nat) : Int)] (wrs σ n A) (.int .i64 ((n + (A ++ lss.flatten).length : Nat) : Int)) (wrs σ n (A ++ lss.flatten)) ∧ Shp σ0 (wrs σ n (A ++ lss.flatten)) := by
  suffices hE : HM.Ends G n_laws_markLinkFunS [v, .int .i64 ((n + A.length : Nat) : Int)] (wrs σ n A) (fun w σ' => w = .int .i64 ((n + (A ++ lss.flatten).length : Nat) : Int) ∧ σ' = wrs σ n (A ++ lss.flatten) ∧ Shp σ0 σ') by
    obtain ⟨w, σ', ⟨rfl, rfl, hs⟩, hr⟩ := hE
    exact ⟨hr, hs⟩
  have hlen : lss.length ≤ 4611686018427387904 := h.len_le (by omega) fun r o ls h => by
      have := PLinkFun.pos h
      omega
  refine HM.Ends.mk (W.to (fun k _ => laws_markLinkFunS.eq k _ _ _) ?_)
  generalize hG : (fun (w : V) (σ' : Heap) => w = .int .i64 ((n + (A ++ lss.flatten).length : Nat) : Int) ∧ σ' = wrs σ n (A ++ lss.flatten) ∧ Shp σ0 σ') = Good
  rw [← List.append_nil A]
  refine W.loop (S := Nat) (fun i => i ≤ lss.length ∧ Shp σ0 (wrs σ n (A ++ (lss.take i).flatten))) (fun i => [.v v, .v (.int .i64 ((n + (A ++ (lss.take i).flatten).length : Nat) : Int)), .v (.int .i64 (i : Int))]) (fun i => wrs σ n (A ++ (lss.take i).flatten)) (fun i => lss.length - i) (fun i ⟨hi', sB⟩ => ?_)
    0 ⟨Nat.zero_le _, by simpa using s⟩
  refine W.to (fun k _ => by rw [laws_markLinkFunS.L0_step]) ?_
  refine B.bind h.vlen (B.ite (fun hlt => ?_) fun hlt => ?_)
  rotate_left
  · rw [List.take_of_length_le (by omega)] at sB ⊢
    try simp only [q_bind_some, castInt_int, q_castBool, q_castStr, q_castPtr, q_castFn, q_castAgg, q_castTuple, q_uncons, q_isNil, q_sl, q_nils, q_emp, q_ptr, q_nilp, q_fn, q_cond_true, q_cond_false, Bool.not_true, Bool.not_false, decide_true, decide_false, List.cons_append, List.nil_append, laws_markLinkFunS.A0_x0]
    subst hG
    exact W.ret ⟨rfl, rfl, sB⟩
  have hil : i < lss.length := by omega
  have hx : lss[i]? = some lss[i] := List.getElem?_eq_getElem hil
  have hnext := flat_next hx
  have hle := flat_le hx
  generalize lss[i] = ls at hx hnext hle
  have hw0 := wrap_next hil hlen
  have hnx : A ++ (lss.take (i + 1)).flatten = (A ++ (lss.take i).flatten) ++ ls := by rw [hnext, List.append_assoc]
  have hBl : (A ++ (lss.take i).flatten).length = A.length + (lss.take i).flatten.length := List.length_append
  generalize A ++ (lss.take i).flatten = B0 at sB hnx hBl ⊢
  obtain ⟨r, o, hv, hP⟩ := h.at hx
  obtain ⟨v2, l2, v5, l5, f0, f1, c2, f2, f3, f4, c5, f5, rfl⟩ := hP
  simp only [List.length_append, List.length_cons, List.length_nil] at hle
  have e0 : (B0 ++ [(MK.s, r, o + 0)]).length = B0.length + 1 := List.length_append
  try try simp only [q_bind_some, castInt_int, q_castBool, q_castStr, q_castPtr, q_castFn, q_castAgg, q_castTuple, q_uncons, q_isNil, q_sl, q_nils, q_emp, q_ptr, q_nilp, q_fn, q_cond_true, q_cond_false, Bool.not_true, Bool.not_false, decide_true, decide_false, List.cons_append, List.nil_append, hv]
  refine B.run (markText_runs (wrs σ n B0) (n := n + B0.length) (by omega) (by omega)) ?_
  try simp only [q_bind_some, castInt_int, q_castBool, q_castStr, q_castPtr, q_castFn, q_castAgg, q_castTuple, q_uncons, q_isNil, q_sl, q_nils, q_emp, q_ptr, q_nilp, q_fn, q_cond_true, q_cond_false, Bool.not_true, Bool.not_false, decide_true, decide_false, List.cons_append, List.nil_append]
  obtain ⟨p0, s0⟩ := put_s sB f0
  have x0 := nx (n := n) (A := B0) (MK.s, r, o + 0) (by omega)
  try simp only [q_bind_some, castInt_int, q_castBool, q_castStr, q_castPtr, q_castFn, q_castAgg, q_castTuple, q_uncons, q_isNil, q_sl, q_nils, q_emp, q_ptr, q_nilp, q_fn, q_cond_true, q_cond_false, Bool.not_true, Bool.not_false, decide_true, decide_false, List.cons_append, List.nil_append, hv, p0, x0]
  generalize hb0 : B0 ++ [(MK.s, r, o + 0)] = B1 at *
  have e1 : (B1 ++ [(MK.s, r, o + 1)]).length = B1.length + 1 := List.length_append
  try try simp only [q_bind_some, castInt_int, q_castBool, q_castStr, q_castPtr, q_castFn, q_castAgg, q_castTuple, q_uncons, q_isNil, q_sl, q_nils, q_emp, q_ptr, q_nilp, q_fn, q_cond_true, q_cond_false, Bool.not_true, Bool.not_false, decide_true, decide_false, List.cons_append, List.nil_append, hv, p0, x0]
  refine B.run (markText_runs (wrs σ n B1) (n := n + B1.length) (by omega) (by omega)) ?_
  try simp only [q_bind_some, castInt_int, q_castBool, q_castStr, q_castPtr, q_castFn, q_castAgg, q_castTuple, q_uncons, q_isNil, q_sl, q_nils, q_emp, q_ptr, q_nilp, q_fn, q_cond_true, q_cond_false, Bool.not_true, Bool.not_false, decide_true, decide_false, List.cons_append, List.nil_append]
  obtain ⟨p1, s1⟩ := put_s s0 f1
  have x1 := nx (n := n) (A := B1) (MK.s, r, o + 1) (by omega)
  try simp only [q_bind_some, castInt_int, q_castBool, q_castStr, q_castPtr, q_castFn, q_castAgg, q_castTuple, q_uncons, q_isNil, q_sl, q_nils, q_emp, q_ptr, q_nilp, q_fn, q_cond_true, q_cond_false, Bool.not_true, Bool.not_false, decide_true, decide_false, List.cons_append, List.nil_append, hv, p1, x1]
  generalize hb1 : B1 ++ [(MK.s, r, o + 1)] = B2 at *
  have e2 : (B2 ++ l2.flatten).length = B2.length + l2.flatten.length := List.length_append
  have q2 := rdc_cell (c2.shp s1).1
  try simp only [q_bind_some, castInt_int, q_castBool, q_castStr, q_castPtr, q_castFn, q_castAgg, q_castTuple, q_uncons, q_isNil, q_sl, q_nils, q_emp, q_ptr, q_nilp, q_fn, q_cond_true, q_cond_false, Bool.not_true, Bool.not_false, decide_true, decide_false, List.cons_append, List.nil_append, hv, q2]
  obtain ⟨g2, s2⟩ := markIntS_lv (A := B2) s1 f2 h1 (by omega)
  refine B.run g2 ?_
  try simp only [q_bind_some, castInt_int, q_castBool, q_castStr, q_castPtr, q_castFn, q_castAgg, q_castTuple, q_uncons, q_isNil, q_sl, q_nils, q_emp, q_ptr, q_nilp, q_fn, q_cond_true, q_cond_false, Bool.not_true, Bool.not_false, decide_true, decide_false, List.cons_append, List.nil_append]
  generalize hb2 : B2 ++ l2.flatten = B3 at *
  have e3 : (B3 ++ [(MK.i, r, o + 3)]).length = B3.length + 1 := List.length_append
  obtain ⟨p3, s3⟩ := put_i s2 f3
  have x3 := nx (n := n) (A := B3) (MK.i, r, o + 3) (by omega)
  try simp only [q_bind_some, castInt_int, q_castBool, q_castStr, q_castPtr, q_castFn, q_castAgg, q_castTuple, q_uncons, q_isNil, q_sl, q_nils, q_emp, q_ptr, q_nilp, q_fn, q_cond_true, q_cond_false, Bool.not_true, Bool.not_false, decide_true, decide_false, List.cons_append, List.nil_append, hv, p3, x3]
  generalize hb3 : B3 ++ [(MK.i, r, o + 3)] = B4 at *
  have e4 : (B4 ++ [(MK.i, r, o + 4)]).length = B4.length + 1 := List.length_append
  obtain ⟨p4, s4⟩ := put_i s3 f4
  have x4 := nx (n := n) (A := B4) (MK.i, r, o + 4) (by omega)
  try simp only [q_bind_some, castInt_int, q_castBool, q_castStr, q_castPtr, q_castFn, q_castAgg, q_castTuple, q_uncons, q_isNil, q_sl, q_nils, q_emp, q_ptr, q_nilp, q_fn, q_cond_true, q_cond_false, Bool.not_true, Bool.not_false, decide_true, decide_false, List.cons_append, List.nil_append, hv, p4, x4]
  generalize hb4 : B4 ++ [(MK.i, r, o + 4)] = B5 at *
  have e5 : (B5 ++ l5.flatten).length = B5.length + l5.flatten.length := List.length_append
  have q5 := rdc_cell (c5.shp s4).1
  try simp only [q_bind_some, castInt_int, q_castBool, q_castStr, q_castPtr, q_castFn, q_castAgg, q_castTuple, q_uncons, q_isNil, q_sl, q_nils, q_emp, q_ptr, q_nilp, q_fn, q_cond_true, q_cond_false, Bool.not_true, Bool.not_false, decide_true, decide_false, List.cons_append, List.nil_append, hv, q5]
  obtain ⟨g5, s5⟩ := markCodeInsS_lv (A := B5) s4 f5 h1 (by omega)
  refine B.run g5 ?_
  try simp only [q_bind_some, castInt_int, q_castBool, q_castStr, q_castPtr, q_castFn, q_castAgg, q_castTuple, q_uncons, q_isNil, q_sl, q_nils, q_emp, q_ptr, q_nilp, q_fn, q_cond_true, q_cond_false, Bool.not_true, Bool.not_false, decide_true, decide_false, List.cons_append, List.nil_append]
  generalize hb5 : B5 ++ l5.flatten = B6 at *
  have hfin : A ++ (lss.take (i + 1)).flatten = B6 := by
      rw [hnx, ← hb5, ← hb4, ← hb3, ← hb2, ← hb1, ← hb0]
      try simp only [List.append_assoc]
  refine W.again (i + 1) ⟨by omega, by rw [hfin]; exact s5⟩ (by omega) (by rw [hfin, hw0]) (by rw [hfin])
theorem heldLinkFunS_lv {σ0 σ : Heap} {n : Nat} {v : V} {lss : List (List Leaf)} (s : Shp σ0 σ) (h : LvS 6 (PLinkFun σ0) σ0 v lss) (hm : HeldAt σ n lss.flatten) (h1 : 1 ≤ n) (h2 : n + lss.flatten.length ≤ 1099511627776) : Runs G n_laws_heldLinkFunS [v, .int .i64 (n : Int)] σ (.int .i64 ((n + lss.flatten.length : Nat) : Int)) σ := by
  have hlen : lss.length ≤ 4611686018427387904 := h.len_le (by omega) fun r o ls h => by
      have := PLinkFun.pos h
      omega
  refine Runs.of (W.to (fun k _ => laws_heldLinkFunS.eq k _ _ _) ?_)
  refine W.loop (S := Nat) (fun i => i ≤ lss.length) (fun i => [.v v, .v (.int .i64 ((n + (lss.take i).flatten.length : Nat) : Int)), .v (.int .i64 (i : Int))]) (fun i => σ) (fun i => lss.length - i) (fun i hi' => ?_) 0 (Nat.zero_le _)
  refine W.to (fun k _ => by rw [laws_heldLinkFunS.L0_step]) ?_
  refine B.bind h.vlen (B.ite (fun hlt => ?_) fun hlt => ?_)
  rotate_left
  · rw [List.take_of_length_le (by omega)]
    try simp only [q_bind_some, castInt_int, q_castBool, q_castStr, q_castPtr, q_castFn, q_castAgg, q_castTuple, q_uncons, q_isNil, q_sl, q_nils, q_emp, q_ptr, q_nilp, q_fn, q_cond_true, q_cond_false, Bool.not_true, Bool.not_false, decide_true, decide_false, List.cons_append, List.nil_append, laws_heldLinkFunS.A0_x0]
    exact W.ret ⟨rfl, rfl⟩
  have hil : i < lss.length := by omega
  have hx : lss[i]? = some lss[i] := List.getElem?_eq_getElem hil
  have hnext := flat_next hx
  have hle := flat_le hx
  obtain ⟨rest, hcut⟩ := flat_cut hx
  generalize lss[i] = ls at hx hnext hle hcut
  have hw0 := wrap_next hil hlen
  have hh := (hcut ▸ hm : HeldAt σ n ((lss.take i).flatten ++ (ls ++ rest))).app.2.app.1
  obtain ⟨r, o, hv, hP⟩ := h.at hx
  obtain ⟨v2, l2, v5, l5, f0, f1, c2, f2, f3, f4, c5, f5, rfl⟩ := hP
  simp only [List.length_append, List.length_cons, List.length_nil] at hle hnext
  have hm0 : n + (lss.take i).flatten.length = n + (lss.take i).flatten.length := rfl
  generalize hq0 : n + (lss.take i).flatten.length = m0 at hh ⊢
  have z0 : n ≤ m0 := by omega
  have t0 := hh.app.1
  have u0 := hh.app.2
  have r0 := rdc_cell t0.one
  have r0 : rdc σ r (o + 0) 1 = some [.str (mText m0)] := r0
  try simp only [q_bind_some, castInt_int, q_castBool, q_castStr, q_castPtr, q_castFn, q_castAgg, q_castTuple, q_uncons, q_isNil, q_sl, q_nils, q_emp, q_ptr, q_nilp, q_fn, q_cond_true, q_cond_false, Bool.not_true, Bool.not_false, decide_true, decide_false, List.cons_append, List.nil_append, hv, r0]
  refine B.run (markText_runs (prot [r] σ) (n := m0) (by omega) (by omega)) ?_
  try simp only [q_bind_some, castInt_int, q_castBool, q_castStr, q_castPtr, q_castFn, q_castAgg, q_castTuple, q_uncons, q_isNil, q_sl, q_nils, q_emp, q_ptr, q_nilp, q_fn, q_cond_true, q_cond_false, Bool.not_true, Bool.not_false, decide_true, decide_false, List.cons_append, List.nil_append, decide_eq_true (rfl : mText m0 = mText m0), unprot0]
  generalize hq1 : m0 + [((MK.s, r, o + 0) : Leaf)].length = m1 at *
  have hq1 : m0 + 1 = m1 := hq1
  have w0 : IntKind.wrap .i64 ((m0 : Int) + 1) = (m1 : Int) := by rw [wrap_id (by omega) (by omega)]; omega
  try try simp only [q_bind_some, castInt_int, q_castBool, q_castStr, q_castPtr, q_castFn, q_castAgg, q_castTuple, q_uncons, q_isNil, q_sl, q_nils, q_emp, q_ptr, q_nilp, q_fn, q_cond_true, q_cond_false, Bool.not_true, Bool.not_false, decide_true, decide_false, List.cons_append, List.nil_append, w0]
  have t1 := u0.app.1
  have u1 := u0.app.2
  have r1 := rdc_cell t1.one
  have r1 : rdc σ r (o + 1) 1 = some [.str (mText m1)] := r1
  try simp only [q_bind_some, castInt_int, q_castBool, q_castStr, q_castPtr, q_castFn, q_castAgg, q_castTuple, q_uncons, q_isNil, q_sl, q_nils, q_emp, q_ptr, q_nilp, q_fn, q_cond_true, q_cond_false, Bool.not_true, Bool.not_false, decide_true, decide_false, List.cons_append, List.nil_append, hv, r1]
  refine B.run (markText_runs (prot [r] σ) (n := m1) (by omega) (by omega)) ?_
  try simp only [q_bind_some, castInt_int, q_castBool, q_castStr, q_castPtr, q_castFn, q_castAgg, q_castTuple, q_uncons, q_isNil, q_sl, q_nils, q_emp, q_ptr, q_nilp, q_fn, q_cond_true, q_cond_false, Bool.not_true, Bool.not_false, decide_true, decide_false, List.cons_append, List.nil_append, decide_eq_true (rfl : mText m1 = mText m1), unprot0]
  generalize hq2 : m1 + [((MK.s, r, o + 1) : Leaf)].length = m2 at *
  have hq2 : m1 + 1 = m2 := hq2
  have w1 : IntKind.wrap .i64 ((m1 : Int) + 1) = (m2 : Int) := by rw [wrap_id (by omega) (by omega)]; omega
  try try simp only [q_bind_some, castInt_int, q_castBool, q_castStr, q_castPtr, q_castFn, q_castAgg, q_castTuple, q_uncons, q_isNil, q_sl, q_nils, q_emp, q_ptr, q_nilp, q_fn, q_cond_true, q_cond_false, Bool.not_true, Bool.not_false, decide_true, decide_false, List.cons_append, List.nil_append, w1]
  have t2 := u1.app.1
  have u2 := u1.app.2
  have r2 := rdc_cell (c2.shp s).1
  try simp only [q_bind_some, castInt_int, q_castBool, q_castStr, q_castPtr, q_castFn, q_castAgg, q_castTuple, q_uncons, q_isNil, q_sl, q_nils, q_emp, q_ptr, q_nilp, q_fn, q_cond_true, q_cond_false, Bool.not_true, Bool.not_false, decide_true, decide_false, List.cons_append, List.nil_append, hv, r2]
  refine B.run (heldIntS_lv s f2 t2 (by omega) (by omega)) ?_
  try simp only [q_bind_some, castInt_int, q_castBool, q_castStr, q_castPtr, q_castFn, q_castAgg, q_castTuple, q_uncons, q_isNil, q_sl, q_nils, q_emp, q_ptr, q_nilp, q_fn, q_cond_true, q_cond_false, Bool.not_true, Bool.not_false, decide_true, decide_false, List.cons_append, List.nil_append, decide_eq_false (show ¬ ((m2 + l2.flatten.length : Nat) : Int) < 0 by omega)]
  generalize hq3 : m2 + l2.flatten.length = m3 at *
  have t3 := u2.app.1
  have u3 := u2.app.2
  have r3 := rdc_cell t3.one
  have r3 : rdc σ r (o + 3) 1 = some [.int .i64 (m3 : Int)] := r3
  try simp only [q_bind_some, castInt_int, q_castBool, q_castStr, q_castPtr, q_castFn, q_castAgg, q_castTuple, q_uncons, q_isNil, q_sl, q_nils, q_emp, q_ptr, q_nilp, q_fn, q_cond_true, q_cond_false, Bool.not_true, Bool.not_false, decide_true, decide_false, List.cons_append, List.nil_append, hv, r3]
  try simp only [q_bind_some, castInt_int, q_castBool, q_castStr, q_castPtr, q_castFn, q_castAgg, q_castTuple, q_uncons, q_isNil, q_sl, q_nils, q_emp, q_ptr, q_nilp, q_fn, q_cond_true, q_cond_false, Bool.not_true, Bool.not_false, decide_true, decide_false, List.cons_append, List.nil_append, decide_eq_true (rfl : (m3 : Int) = (m3 : Int))]
  generalize hq4 : m3 + [((MK.i, r, o + 3) : Leaf)].length = m4 at *
  have hq4 : m3 + 1 = m4 := hq4
  have w3 : IntKind.wrap .i64 ((m3 : Int) + 1) = (m4 : Int) := by rw [wrap_id (by omega) (by omega)]; omega
  try try simp only [q_bind_some, castInt_int, q_castBool, q_castStr, q_castPtr, q_castFn, q_castAgg, q_castTuple, q_uncons, q_isNil, q_sl, q_nils, q_emp, q_ptr, q_nilp, q_fn, q_cond_true, q_cond_false, Bool.not_true, Bool.not_false, decide_true, decide_false, List.cons_append, List.nil_append, w3]
  have t4 := u3.app.1
  have u4 := u3.app.2
  have r4 := rdc_cell t4.one
  have r4 : rdc σ r (o + 4) 1 = some [.int .i64 (m4 : Int)] := r4
  try simp only [q_bind_some, castInt_int, q_castBool, q_castStr, q_castPtr, q_castFn, q_castAgg, q_castTuple, q_uncons, q_isNil, q_sl, q_nils, q_emp, q_ptr, q_nilp, q_fn, q_cond_true, q_cond_false, Bool.not_true, Bool.not_false, decide_true, decide_false, List.cons_append, List.nil_append, hv, r4]
  try simp only [q_bind_some, castInt_int, q_castBool, q_castStr, q_castPtr, q_castFn, q_castAgg, q_castTuple, q_uncons, q_isNil, q_sl, q_nils, q_emp, q_ptr, q_nilp, q_fn, q_cond_true, q_cond_false, Bool.not_true, Bool.not_false, decide_true, decide_false, List.cons_append, List.nil_append, decide_eq_true (rfl : (m4 : Int) = (m4 : Int))]
  generalize hq5 : m4 + [((MK.i, r, o + 4) : Leaf)].length = m5 at *
  have hq5 : m4 + 1 = m5 := hq5
  have w4 : IntKind.wrap .i64 ((m4 : Int) + 1) = (m5 : Int) := by rw [wrap_id (by omega) (by omega)]; omega
  try try simp only [q_bind_some, castInt_int, q_castBool, q_castStr, q_castPtr, q_castFn, q_castAgg, q_castTuple, q_uncons, q_isNil, q_sl, q_nils, q_emp, q_ptr, q_nilp, q_fn, q_cond_true, q_cond_false, Bool.not_true, Bool.not_false, decide_true, decide_false, List.cons_append, List.nil_append, w4]
  have t5 := u4
  have r5 := rdc_cell (c5.shp s).1
  try simp only [q_bind_some, castInt_int, q_castBool, q_castStr, q_castPtr, q_castFn, q_castAgg, q_castTuple, q_uncons, q_isNil, q_sl, q_nils, q_emp, q_ptr, q_nilp, q_fn, q_cond_true, q_cond_false, Bool.not_true, Bool.not_false, decide_true, decide_false, List.cons_append, List.nil_append, hv, r5]
  refine B.run (heldCodeInsS_lv s f5 t5 (by omega) (by omega)) ?_
  try simp only [q_bind_some, castInt_int, q_castBool, q_castStr, q_castPtr, q_castFn, q_castAgg, q_castTuple, q_uncons, q_isNil, q_sl, q_nils, q_emp, q_ptr, q_nilp, q_fn, q_cond_true, q_cond_false, Bool.not_true, Bool.not_false, decide_true, decide_false, List.cons_append, List.nil_append, decide_eq_false (show ¬ ((m5 + l5.flatten.length : Nat) : Int) < 0 by omega)]
  generalize hq6 : m5 + l5.flatten.length = m6 at *
  have hfin : n + (lss.take (i + 1)).flatten.length = m6 := by rw [hnext]; simp only [List.length_append, List.length_cons, List.length_nil]; omega
  exact W.again (i + 1) (show i + 1 ≤ lss.length by omega) (by omega) (by rw [hfin, hw0]) rfl
def PCodeRef (σ : Heap) (r o : Nat) (ls : List Leaf) : Prop := Fl σ .s r (o + 0) ∧ Fl σ .s r (o + 1) ∧ ls = [(.s, r, o + 0)] ++ ([(.s, r, o + 1)])
theorem PCodeRef.shp {σ σ' : Heap} (s : Shp σ σ') {r o : Nat} {ls : List Leaf} (h : PCodeRef σ r o ls) : PCodeRef σ' r o ls := by
  obtain ⟨h0, h1, rfl⟩ := h
  exact ⟨h0.shp s, h1.shp s, rfl⟩
theorem PCodeRef.cells {σ : Heap} {r o : Nat} {ls : List Leaf} (h : PCodeRef σ r o ls) : ∀ k r' o', (k, r', o') ∈ ls → cellAt σ r' o' ≠ none := fun k r' o' hm => by
      obtain ⟨h0, h1, rfl⟩ := h
      rcases List.mem_append.1 hm with hm | hm
      · exact (fun k r' o' hm => by
          simp at hm
          obtain ⟨rfl, rfl, rfl⟩ := hm
          exact h0.cell) k r' o' hm
      exact (fun k r' o' hm => by
        simp at hm
        obtain ⟨rfl, rfl, rfl⟩ := hm
        exact h1.cell) k r' o' hm
theorem PCodeRef.pos {σ : Heap} {r o : Nat} {ls : List Leaf} (h : PCodeRef σ r o ls) : 1 ≤ ls.length := by
  obtain ⟨f0, f1, rfl⟩ := h
  simp
theorem markCodeRefS_lv {σ0 σ : Heap} {n : Nat} {A : List Leaf} {v : V} {lss : List (List Leaf)} (s : Shp σ0 (wrs σ n A)) (h : LvS 2 (PCodeRef σ0) σ0 v lss) (h1 : 1 ≤ n) (h2 : n + A.length + lss.flatten.length ≤ 1099511627776) : Runs G n_laws_markCodeRefS [v, .int .i64 ((n + A.length : Nat) : Int)] (wrs σ n A) (.int .i64 ((n + (A ++ lss.flatten).length : Nat) : Int)) (wrs σ n (A ++ lss.flatten)) ∧ Shp σ0 (wrs σ n (A ++ lss.flatten)) := by
  suffices hE : HM.Ends G n_laws_markCodeRefS [v, .int .i64 ((n + A.length : Nat) : Int)] (wrs σ n A) (fun w σ' => w = .int .i64 ((n + (A ++ lss.flatten).length : Nat) : Int) ∧ σ' = wrs σ n (A ++ lss.flatten) ∧ Shp σ0 σ') by
    obtain ⟨w, σ', ⟨rfl, rfl, hs⟩, hr⟩ := hE
    exact ⟨hr, hs⟩
  have hlen : lss.length ≤ 4611686018427387904 := h.len_le (by omega) fun r o ls h => by
      have := PCodeRef.pos h
      omega
  refine HM.Ends.mk (W.to (fun k _ => laws_markCodeRefS.eq k _ _ _) ?_)
  generalize hG : (fun (w : V) (σ' : Heap) => w = .int .i64 ((n + (A ++ lss.flatten).length : Nat) : Int) ∧ σ' = wrs σ n (A ++ lss.flatten) ∧ Shp σ0 σ') = Good
  rw [← List.append_nil A]
  refine W.loop (S := Nat) (fun i => i ≤ lss.length ∧ Shp σ0 (wrs σ n (A ++ (lss.take i).flatten))) (fun i => [.v v, .v (.int .i64 ((n + (A ++ (lss.take i).flatten).length : Nat) : Int)), .v (.int .i64 (i : Int))]) (fun i => wrs σ n (A ++ (lss.take i).flatten)) (fun i => lss.length - i) (fun i ⟨hi', sB⟩ => ?_)
    0 ⟨Nat.zero_le _, by simpa using s⟩
  refine W.to (fun k _ => by rw [laws_markCodeRefS.L0_step]) ?_
  refine B.bind h.vlen (B.ite (fun hlt => ?_) fun hlt => ?_)
  rotate_left
  · rw [List.take_of_length_le (by omega)] at sB ⊢
    try simp only [q_bind_some, castInt_int, q_castBool, q_castStr, q_castPtr, q_castFn, q_castAgg, q_castTuple, q_uncons, q_isNil, q_sl, q_nils, q_emp, q_ptr, q_nilp, q_fn, q_cond_true, q_cond_false, Bool.not_true, Bool.not_false, decide_true, decide_false, List.cons_append, List.nil_append, laws_markCodeRefS.A0_x0]
    subst hG
    exact W.ret ⟨rfl, rfl, sB⟩
  have hil : i < lss.length := by omega
  have hx : lss[i]? = some lss[i] := List.getElem?_eq_getElem hil
  have hnext := flat_next hx
  have hle := flat_le hx
  generalize lss[i] = ls at hx hnext hle
  have hw0 := wrap_next hil hlen
  have hnx : A ++ (lss.take (i + 1)).flatten = (A ++ (lss.take i).flatten) ++ ls := by rw [hnext, List.append_assoc]
  have hBl : (A ++ (lss.take i).flatten).length = A.length + (lss.take i).flatten.length := List.length_append
  generalize A ++ (lss.take i).flatten = B0 at sB hnx hBl ⊢
  obtain ⟨r, o, hv, hP⟩ := h.at hx
  obtain ⟨f0, f1, rfl⟩ := hP
  simp only [List.length_append, List.length_cons, List.length_nil] at hle
  have e0 : (B0 ++ [(MK.s, r, o + 0)]).length = B0.length + 1 := List.length_append
  try try simp only [q_bind_some, castInt_int, q_castBool, q_castStr, q_castPtr, q_castFn, q_castAgg, q_castTuple, q_uncons, q_isNil, q_sl, q_nils, q_emp, q_ptr, q_nilp, q_fn, q_cond_true, q_cond_false, Bool.not_true, Bool.not_false, decide_true, decide_false, List.cons_append, List.nil_append, hv]
  refine B.run (markText_runs (wrs σ n B0) (n := n + B0.length) (by omega) (by omega)) ?_
  try simp only [q_bind_some, castInt_int, q_castBool, q_castStr, q_castPtr, q_castFn, q_castAgg, q_castTuple, q_uncons, q_isNil, q_sl, q_nils, q_emp, q_ptr, q_nilp, q_fn, q_cond_true, q_cond_false, Bool.not_true, Bool.not_false, decide_true, decide_false, List.cons_append, List.nil_append]
  obtain ⟨p0, s0⟩ := put_s sB f0
  have x0 := nx (n := n) (A := B0) (MK.s, r, o + 0) (by omega)
  try simp only [q_bind_some, castInt_int, q_castBool, q_castStr, q_castPtr, q_castFn, q_castAgg, q_castTuple, q_uncons, q_isNil, q_sl, q_nils, q_emp, q_ptr, q_nilp, q_fn, q_cond_true, q_cond_false, Bool.not_true, Bool.not_false, decide_true, decide_false, List.cons_append, List.nil_append, hv, p0, x0]
  generalize hb0 : B0 ++ [(MK.s, r, o + 0)] = B1 at *
  have e1 : (B1 ++ [(MK.s, r, o + 1)]).length = B1.length + 1 := List.length_append
  try try simp only [q_bind_some, castInt_int, q_castBool, q_castStr, q_castPtr, q_castFn, q_castAgg, q_castTuple, q_uncons, q_isNil, q_sl, q_nils, q_emp, q_ptr, q_nilp, q_fn, q_cond_true, q_cond_false, Bool.not_true, Bool.not_false, decide_true, decide_false, List.cons_append, List.nil_append, hv, p0, x0]
  refine B.run (markText_runs (wrs σ n B1) (n := n + B1.length) (by omega) (by omega)) ?_
  try simp only [q_bind_some, castInt_int, q_castBool, q_castStr, q_castPtr, q_castFn, q_castAgg, q_castTuple, q_uncons, q_isNil, q_sl, q_nils, q_emp, q_ptr, q_nilp, q_fn, q_cond_true, q_cond_false, Bool.not_true, Bool.not_false, decide_true, decide_false, List.cons_append, List.nil_append]
  obtain ⟨p1, s1⟩ := put_s s0 f1
  have x1 := nx (n := n) (A := B1) (MK.s, r, o + 1) (by omega)
  try simp only [q_bind_some, castInt_int, q_castBool, q_castStr, q_castPtr, q_castFn, q_castAgg, q_castTuple, q_uncons, q_isNil, q_sl, q_nils, q_emp, q_ptr, q_nilp, q_fn, q_cond_true, q_cond_false, Bool.not_true, Bool.not_false, decide_true, decide_false, List.cons_append, List.nil_append, hv, p1, x1]
  generalize hb1 : B1 ++ [(MK.s, r, o + 1)] = B2 at *
  have hfin : A ++ (lss.take (i + 1)).flatten = B2 := by
      rw [hnx, ← hb1, ← hb0]
      try simp only [List.append_assoc]
  refine W.again (i + 1) ⟨by omega, by rw [hfin]; exact s1⟩ (by omega) (by rw [hfin, hw0]) (by rw [hfin])
def PCodeFun (σ : Heap) (r o : Nat) (ls : List Leaf) : Prop := ∃ (v2 : V) (l2 : List (List Leaf)) (v5 : V) (l5 : List (List Leaf)), Fl σ .s r (o + 0) ∧ Fl σ .b r (o + 1) ∧ Cl σ r (o + 2) v2 ∧ LvS 1 (PInt σ) σ v2 l2 ∧ Fl σ .i r (o + 3) ∧ Fl σ .i r (o + 4) ∧ Cl σ r (o + 5) v5 ∧ LvS 2 (PCodeIns σ) σ v5 l5 ∧ ls = [(.s, r, o + 0)] ++ ([(.b, r, o + 1)] ++ (l2.flatten ++ ([(.i, r, o + 3)] ++ ([(.i, r, o + 4)] ++ (l5.flatten)))))
theorem PCodeFun.shp {σ σ' : Heap} (s : Shp σ σ') {r o : Nat} {ls : List Leaf} (h : PCodeFun σ r o ls) : PCodeFun σ' r o ls := by
  obtain ⟨v2, l2, v5, l5, h0, h1, c2, h2, h3, h4, c5, h5, rfl⟩ := h
  exact ⟨v2, l2, v5, l5, h0.shp s, h1.shp s, c2.shp s, h2.mono s fun _ _ _ h => PInt.shp s h, h3.shp s, h4.shp s, c5.shp s, h5.mono s fun _ _ _ h => PCodeIns.shp s h, rfl⟩
theorem PCodeFun.cells {σ : Heap} {r o : Nat} {ls : List Leaf} (h : PCodeFun σ r o ls) : ∀ k r' o', (k, r', o') ∈ ls → cellAt σ r' o' ≠ none := fun k r' o' hm => by
      obtain ⟨v2, l2, v5, l5, h0, h1, c2, h2, h3, h4, c5, h5, rfl⟩ := h
      rcases List.mem_append.1 hm with hm | hm
      · exact (fun k r' o' hm => by
          simp at hm
          obtain ⟨rfl, rfl, rfl⟩ := hm
          exact h0.cell) k r' o' hm
      rcases List.mem_append.1 hm with hm | hm
      · exact (fun k r' o' hm => by
          simp at hm
          obtain ⟨rfl, rfl, rfl⟩ := hm
          exact h1.cell) k r' o' hm
      rcases List.mem_append.1 hm with hm | hm
      · exact (h2.cells fun _ _ _ h => PInt.cells h) k r' o' hm
      rcases List.mem_append.1 hm with hm | hm
      · exact (fun k r' o' hm => by
          simp at hm
          obtain ⟨rfl, rfl, rfl⟩ := hm
          exact h3.cell) k r' o' hm
      rcases List.mem_append.1 hm with hm | hm
      · exact (fun k r' o' hm => by
          simp at hm
          obtain ⟨rfl, rfl, rfl⟩ := hm
          exact h4.cell) k r' o' hm
      exact (h5.cells fun _ _ _ h => PCodeIns.cells h) k r' o' hm
theorem PCodeFun.pos {σ : Heap} {r o : Nat} {ls : List Leaf} (h : PCodeFun σ r o ls) : 1 ≤ ls.length := by
  obtain ⟨v2, l2, v5, l5, f0, f1, c2, f2, f3, f4, c5, f5, rfl⟩ := h
  simp
theorem markCodeFunS_lv {σ0 σ : Heap} {n : Nat} {A : List Leaf} {v : V} {lss : List (List Leaf)} (s : Shp σ0 (wrs σ n A)) (h : LvS 6 (PCodeFun σ0) σ0 v lss) (h1 : 1 ≤ n) (h2 : n + A.length + lss.flatten.length ≤ 1099511627776) : Runs G n_laws_markCodeFunS [v, .int .i64 ((n + A.length : Nat) : Int)] (wrs σ n A) (.int .i64 ((n + (A ++ lss.flatten).length : Nat) : Int)) (wrs σ n (A ++ lss.flatten)) ∧ Shp σ0 (wrs σ n (A ++ lss.flatten)) := by
  suffices hE : HM.Ends G n_laws_markCodeFunS [v, .int .i64 ((n + A.length : Nat) : Int)] (wrs σ n A) (fun w σ' => w = .int .i64 ((n + (A ++ lss.flatten).length : Nat) : Int) ∧ σ' = wrs σ n (A ++ lss.flatten) ∧ Shp σ0 σ') by
    obtain ⟨w, σ', ⟨rfl, rfl, hs⟩, hr⟩ := hE
    exact ⟨hr, hs⟩
  have hlen : lss.length ≤ 4611686018427387904 := h.len_le (by omega) fun r o ls h => by
      have := PCodeFun.pos h
      omega
  refine HM.Ends.mk (W.to (fun k _ => laws_markCodeFunS.eq k _ _ _) ?_)
  generalize hG : (fun (w : V) (σ' : Heap) => w = .int .i64 ((n + (A ++ lss.flatten).length : Nat) : Int) ∧ σ' = wrs σ n (A ++ lss.flatten) ∧ Shp σ0 σ') = Good
  rw [← List.append_nil A]
  refine W.loop (S := Nat) (fun i => i ≤ lss.length ∧ Shp σ0 (wrs σ n (A ++ (lss.take i).flatten))) (fun i => [.v v, .v (.int .i64 ((n + (A ++ (lss.take i).flatten).length : Nat) : Int)), .v (.int .i64 (i : Int))]) (fun i => wrs σ n (A ++ (lss.take i).flatten)) (fun i => lss.length - i) (fun i ⟨hi', sB⟩ => ?_)
    0 ⟨Nat.zero_le _, by simpa using s⟩
  refine W.to (fun k _ => by rw [laws_markCodeFunS.L0_step]) ?_
  refine B.bind h.vlen (B.ite (fun hlt => ?_) fun hlt => ?_)
  rotate_left
  · rw [List.take_of_length_le (by omega)] at sB ⊢
    try simp only [q_bind_some, castInt_int, q_castBool, q_castStr, q_castPtr, q_castFn, q_castAgg, q_castTuple, q_uncons, q_isNil, q_sl, q_nils, q_emp, q_ptr, q_nilp, q_fn, q_cond_true, q_cond_false, Bool.not_true, Bool.not_false, decide_true, decide_false, List.cons_append, List.nil_append, laws_markCodeFunS.A0_x0]
    subst hG
    exact W.ret ⟨rfl, rfl, sB⟩
  have hil : i < lss.length := by omega
  have hx : lss[i]? = some lss[i] := List.getElem?_eq_getElem hil
  have hnext := flat_next hx
  have hle := flat_le hx
  generalize lss[i] = ls at hx hnext hle
  have hw0 := wrap_next hil hlen
  have hnx : A ++ (lss.take (i + 1)).flatten = (A ++ (lss.take i).flatten) ++ ls := by rw [hnext, List.append_assoc]
  have hBl : (A ++ (lss.take i).flatten).length = A.length + (lss.take i).flatten.length := List.length_append
  generalize A ++ (lss.take i).flatten = B0 at sB hnx hBl ⊢
  obtain ⟨r, o, hv, hP⟩ := h.at hx
  obtain ⟨v2, l2, v5, l5, f0, f1, c2, f2, f3, f4, c5, f5, rfl⟩ := hP
  simp only [List.length_append, List.length_cons, List.length_nil] at hle
  have e0 : (B0 ++ [(MK.s, r, o + 0)]).length = B0.length + 1 := List.length_append
  try try simp only [q_bind_some, castInt_int, q_castBool, q_castStr, q_castPtr, q_castFn, q_castAgg, q_castTuple, q_uncons, q_isNil, q_sl, q_nils, q_emp, q_ptr, q_nilp, q_fn, q_cond_true, q_cond_false, Bool.not_true, Bool.not_false, decide_true, decide_false, List.cons_append, List.nil_append, hv]
  refine B.run (markText_runs (wrs σ n B0) (n := n + B0.length) (by omega) (by omega)) ?_
  try simp only [q_bind_some, castInt_int, q_castBool, q_castStr, q_castPtr, q_castFn, q_castAgg, q_castTuple, q_uncons, q_isNil, q_sl, q_nils, q_emp, q_ptr, q_nilp, q_fn, q_cond_true, q_cond_false, Bool.not_true, Bool.not_false, decide_true, decide_false, List.cons_append, List.nil_append]
  obtain ⟨p0, s0⟩ := put_s sB f0
  have x0 := nx (n := n) (A := B0) (MK.s, r, o + 0) (by omega)
  try simp only [q_bind_some, castInt_int, q_castBool, q_castStr, q_castPtr, q_castFn, q_castAgg, q_castTuple, q_uncons, q_isNil, q_sl, q_nils, q_emp, q_ptr, q_nilp, q_fn, q_cond_true, q_cond_false, Bool.not_true, Bool.not_false, decide_true, decide_false, List.cons_append, List.nil_append, hv, p0, x0]
  generalize hb0 : B0 ++ [(MK.s, r, o + 0)] = B1 at *
  have e1 : (B1 ++ [(MK.b, r, o + 1)]).length = B1.length + 1 := List.length_append
  obtain ⟨p1, s1⟩ := put_b s0 f1
  have x1 := nx (n := n) (A := B1) (MK.b, r, o + 1) (by omega)
  try simp only [q_bind_some, castInt_int, q_castBool, q_castStr, q_castPtr, q_castFn, q_castAgg, q_castTuple, q_uncons, q_isNil, q_sl, q_nils, q_emp, q_ptr, q_nilp, q_fn, q_cond_true, q_cond_false, Bool.not_true, Bool.not_false, decide_true, decide_false, List.cons_append, List.nil_append, hv, p1, x1]
  generalize hb1 : B1 ++ [(MK.b, r, o + 1)] = B2 at *
  have e2 : (B2 ++ l2.flatten).length = B2.length + l2.flatten.length := List.length_append
  have q2 := rdc_cell (c2.shp s1).1
  try simp only [q_bind_some, castInt_int, q_castBool, q_castStr, q_castPtr, q_castFn, q_castAgg, q_castTuple, q_uncons, q_isNil, q_sl, q_nils, q_emp, q_ptr, q_nilp, q_fn, q_cond_true, q_cond_false, Bool.not_true, Bool.not_false, decide_true, decide_false, List.cons_append, List.nil_append, hv, q2]
  obtain ⟨g2, s2⟩ := markIntS_lv (A := B2) s1 f2 h1 (by omega)
  refine B.run g2 ?_
  try simp only [q_bind_some, castInt_int, q_castBool, q_castStr, q_castPtr, q_castFn, q_castAgg, q_castTuple, q_uncons, q_isNil, q_sl, q_nils, q_emp, q_ptr, q_nilp, q_fn, q_cond_true, q_cond_false, Bool.not_true, Bool.not_false, decide_true, decide_false, List.cons_append, List.nil_append]
  generalize hb2 : B2 ++ l2.flatten = B3 at *
  have e3 : (B3 ++ [(MK.i, r, o + 3)]).length = B3.length + 1 := List.length_append
  obtain ⟨p3, s3⟩ := put_i s2 f3
  have x3 := nx (n := n) (A := B3) (MK.i, r, o + 3) (by omega)
  try simp only [q_bind_some, castInt_int, q_castBool, q_castStr, q_castPtr, q_castFn, q_castAgg, q_castTuple, q_uncons, q_isNil, q_sl, q_nils, q_emp, q_ptr, q_nilp, q_fn, q_cond_true, q_cond_false, Bool.not_true, Bool.not_false, decide_true, decide_false, List.cons_append, List.nil_append, hv, p3, x3]
  generalize hb3 : B3 ++ [(MK.i, r, o + 3)] = B4 at *
  have e4 : (B4 ++ [(MK.i, r, o + 4)]).length = B4.length + 1 := List.length_append
  obtain ⟨p4, s4⟩ := put_i s3 f4
  have x4 := nx (n := n) (A := B4) (MK.i, r, o + 4) (by omega)
  try simp only [q_bind_some, castInt_int, q_castBool, q_castStr, q_castPtr, q_castFn, q_castAgg, q_castTuple, q_uncons, q_isNil, q_sl, q_nils, q_emp, q_ptr, q_nilp, q_fn, q_cond_true, q_cond_false, Bool.not_true, Bool.not_false, decide_true, decide_false, List.cons_append, List.nil_append, hv, p4, x4]
  generalize hb4 : B4 ++ [(MK.i, r, o + 4)] = B5 at *
  have e5 : (B5 ++ l5.flatten).length = B5.length + l5.flatten.length := List.length_append
  have q5 := rdc_cell (c5.shp s4).1
  try simp only [q_bind_some, castInt_int, q_castBool, q_castStr, q_castPtr, q_castFn, q_castAgg, q_castTuple, q_uncons, q_isNil, q_sl, q_nils, q_emp, q_ptr, q_nilp, q_fn, q_cond_true, q_cond_false, Bool.not_true, Bool.not_false, decide_true, decide_false, List.cons_append, List.nil_append, hv, q5]
  obtain ⟨g5, s5⟩ := markCodeInsS_lv (A := B5) s4 f5 h1 (by omega)
  refine B.run g5 ?_
  try simp only [q_bind_some, castInt_int, q_castBool, q_castStr, q_castPtr, q_castFn, q_castAgg, q_castTuple, q_uncons, q_isNil, q_sl, q_nils, q_emp, q_ptr, q_nilp, q_fn, q_cond_true, q_cond_false, Bool.not_true, Bool.not_false, decide_true, decide_false, List.cons_append, List.nil_append]
  generalize hb5 : B5 ++ l5.flatten = B6 at *
  have hfin : A ++ (lss.take (i + 1)).flatten = B6 := by
      rw [hnx, ← hb5, ← hb4, ← hb3, ← hb2, ← hb1, ← hb0]
      try simp only [List.append_assoc]
  refine W.again (i + 1) ⟨by omega, by rw [hfin]; exact s5⟩ (by omega) (by rw [hfin, hw0]) (by rw [hfin])
def PLinkPart (σ : Heap) (r o : Nat) (ls : List Leaf) : Prop := ∃ (v1 : V) (l1 : List (List Leaf)) (v2 : V) (l2 : List (List Leaf)), Fl σ .s r (o + 0) ∧ Cl σ r (o + 1 + 0) v1 ∧ LvS 2 (PCodeRef σ) σ v1 l1 ∧ Cl σ r (o + 1 + 1) v2 ∧ LvS 6 (PCodeFun σ) σ v2 l2 ∧ ls = [(.s, r, o + 0)] ++ (l1.flatten ++ (l2.flatten))
theorem PLinkPart.shp {σ σ' : Heap} (s : Shp σ σ') {r o : Nat} {ls : List Leaf} (h : PLinkPart σ r o ls) : PLinkPart σ' r o ls := by
  obtain ⟨v1, l1, v2, l2, h0, c1, h1, c2, h2, rfl⟩ := h
  exact ⟨v1, l1, v2, l2, h0.shp s, c1.shp s, h1.mono s fun _ _ _ h => PCodeRef.shp s h, c2.shp s, h2.mono s fun _ _ _ h => PCodeFun.shp s h, rfl⟩
theorem PLinkPart.cells {σ : Heap} {r o : Nat} {ls : List Leaf} (h : PLinkPart σ r o ls) : ∀ k r' o', (k, r', o') ∈ ls → cellAt σ r' o' ≠ none := fun k r' o' hm => by
      obtain ⟨v1, l1, v2, l2, h0, c1, h1, c2, h2, rfl⟩ := h
      rcases List.mem_append.1 hm with hm | hm
      · exact (fun k r' o' hm => by
          simp at hm
          obtain ⟨rfl, rfl, rfl⟩ := hm
          exact h0.cell) k r' o' hm
      rcases List.mem_append.1 hm with hm | hm
      · exact (h1.cells fun _ _ _ h => PCodeRef.cells h) k r' o' hm
      exact (h2.cells fun _ _ _ h => PCodeFun.cells h) k r' o' hm
theorem PLinkPart.pos {σ : Heap} {r o : Nat} {ls : List Leaf} (h : PLinkPart σ r o ls) : 1 ≤ ls.length := by
  obtain ⟨v1, l1, v2, l2, f0, c1, f1, c2, f2, rfl⟩ := h
  simp
theorem markLinkPartS_lv {σ0 σ : Heap} {n : Nat} {A : List Leaf} {v : V} {lss : List (List Leaf)} (s : Shp σ0 (wrs σ n A)) (h : LvS 3 (PLinkPart σ0) σ0 v lss) (h1 : 1 ≤ n) (h2 : n + A.length + lss.flatten.length ≤ 1099511627776) : Runs G n_laws_markLinkPartS [v, .int .i64 ((n + A.length : Nat) : Int)] (wrs σ n A) (.int .i64 ((n + (A ++ lss.flatten).length : Nat) : Int)) (wrs σ n (A ++ lss.flatten)) ∧ Shp σ0 (wrs σ n (A ++ lss.flatten)) := by
  suffices hE : HM.Ends G n_laws_markLinkPartS [v, .int .i64 ((n + A.length : Nat) : Int)] (wrs σ n A) (fun w σ' => w = .int .i64 ((n + (A ++ lss.flatten).length : Nat) : Int) ∧ σ' = wrs σ n (A ++ lss.flatten) ∧ Shp σ0 σ') by
    obtain ⟨w, σ', ⟨rfl, rfl, hs⟩, hr⟩ := hE
    exact ⟨hr, hs⟩
  have hlen : lss.length ≤ 4611686018427387904 := h.len_le (by omega) fun r o ls h => by
      have := PLinkPart.pos h
      omega
  refine HM.Ends.mk (W.to (fun k _ => laws_markLinkPartS.eq k _ _ _) ?_)
  generalize hG : (fun (w : V) (σ' : Heap) => w = .int .i64 ((n + (A ++ lss.flatten).length : Nat) : Int) ∧ σ' = wrs σ n (A ++ lss.flatten) ∧ Shp σ0 σ') = Good
  rw [← List.append_nil A]
  refine W.loop (S := Nat) (fun i => i ≤ lss.length ∧ Shp σ0 (wrs σ n (A ++ (lss.take i).flatten))) (fun i => [.v v, .v (.int .i64 ((n + (A ++ (lss.take i).flatten).length : Nat) : Int)), .v (.int .i64 (i : Int))]) (fun i => wrs σ n (A ++ (lss.take i).flatten)) (fun i => lss.length - i) (fun i ⟨hi', sB⟩ => ?_)
    0 ⟨Nat.zero_le _, by simpa using s⟩
  refine W.to (fun k _ => by rw [laws_markLinkPartS.L0_step]) ?_
  refine B.bind h.vlen (B.ite (fun hlt => ?_) fun hlt => ?_)
  rotate_left
  · rw [List.take_of_length_le (by omega)] at sB ⊢
    try simp only [q_bind_some, castInt_int, q_castBool, q_castStr, q_castPtr, q_castFn, q_castAgg, q_castTuple, q_uncons, q_isNil, q_sl, q_nils, q_emp, q_ptr, q_nilp, q_fn, q_cond_true, q_cond_false, Bool.not_true, Bool.not_false, decide_true, decide_false, List.cons_append, List.nil_append, laws_markLinkPartS.A0_x0]
    subst hG
    exact W.ret ⟨rfl, rfl, sB⟩
  have hil : i < lss.length := by omega
  have hx : lss[i]? = some lss[i] := List.getElem?_eq_getElem hil
  have hnext := flat_next hx
  have hle := flat_le hx
  generalize lss[i] = ls at hx hnext hle
  have hw0 := wrap_next hil hlen
  have hnx : A ++ (lss.take (i + 1)).flatten = (A ++ (lss.take i).flatten) ++ ls := by rw [hnext, List.append_assoc]
  have hBl : (A ++ (lss.take i).flatten).length = A.length + (lss.take i).flatten.length := List.length_append
  generalize A ++ (lss.take i).flatten = B0 at sB hnx hBl ⊢
  obtain ⟨r, o, hv, hP⟩ := h.at hx
  obtain ⟨v1, l1, v2, l2, f0, c1, f1, c2, f2, rfl⟩ := hP
  simp only [List.length_append, List.length_cons, List.length_nil] at hle
  have e0 : (B0 ++ [(MK.s, r, o + 0)]).length = B0.length + 1 := List.length_append
  try try simp only [q_bind_some, castInt_int, q_castBool, q_castStr, q_castPtr, q_castFn, q_castAgg, q_castTuple, q_uncons, q_isNil, q_sl, q_nils, q_emp, q_ptr, q_nilp, q_fn, q_cond_true, q_cond_false, Bool.not_true, Bool.not_false, decide_true, decide_false, List.cons_append, List.nil_append, hv]
  refine B.run (markText_runs (wrs σ n B0) (n := n + B0.length) (by omega) (by omega)) ?_
  try simp only [q_bind_some, castInt_int, q_castBool, q_castStr, q_castPtr, q_castFn, q_castAgg, q_castTuple, q_uncons, q_isNil, q_sl, q_nils, q_emp, q_ptr, q_nilp, q_fn, q_cond_true, q_cond_false, Bool.not_true, Bool.not_false, decide_true, decide_false, List.cons_append, List.nil_append]
  obtain ⟨p0, s0⟩ := put_s sB f0
  have x0 := nx (n := n) (A := B0) (MK.s, r, o + 0) (by omega)
  try simp only [q_bind_some, castInt_int, q_castBool, q_castStr, q_castPtr, q_castFn, q_castAgg, q_castTuple, q_uncons, q_isNil, q_sl, q_nils, q_emp, q_ptr, q_nilp, q_fn, q_cond_true, q_cond_false, Bool.not_true, Bool.not_false, decide_true, decide_false, List.cons_append, List.nil_append, hv, p0, x0]
  generalize hb0 : B0 ++ [(MK.s, r, o + 0)] = B1 at *
  have e1 : (B1 ++ l1.flatten).length = B1.length + l1.flatten.length := List.length_append
  have q1 := rdc_cell (c1.shp s0).1
  try simp only [q_bind_some, castInt_int, q_castBool, q_castStr, q_castPtr, q_castFn, q_castAgg, q_castTuple, q_uncons, q_isNil, q_sl, q_nils, q_emp, q_ptr, q_nilp, q_fn, q_cond_true, q_cond_false, Bool.not_true, Bool.not_false, decide_true, decide_false, List.cons_append, List.nil_append, hv, q1]
  obtain ⟨g1, s1⟩ := markCodeRefS_lv (A := B1) s0 f1 h1 (by omega)
  refine B.run g1 ?_
  try simp only [q_bind_some, castInt_int, q_castBool, q_castStr, q_castPtr, q_castFn, q_castAgg, q_castTuple, q_uncons, q_isNil, q_sl, q_nils, q_emp, q_ptr, q_nilp, q_fn, q_cond_true, q_cond_false, Bool.not_true, Bool.not_false, decide_true, decide_false, List.cons_append, List.nil_append]
  generalize hb1 : B1 ++ l1.flatten = B2 at *
  have e2 : (B2 ++ l2.flatten).length = B2.length + l2.flatten.length := List.length_append
  have q2 := rdc_cell (c2.shp s1).1
  try simp only [q_bind_some, castInt_int, q_castBool, q_castStr, q_castPtr, q_castFn, q_castAgg, q_castTuple, q_uncons, q_isNil, q_sl, q_nils, q_emp, q_ptr, q_nilp, q_fn, q_cond_true, q_cond_false, Bool.not_true, Bool.not_false, decide_true, decide_false, List.cons_append, List.nil_append, hv, q2]
  obtain ⟨g2, s2⟩ := markCodeFunS_lv (A := B2) s1 f2 h1 (by omega)
  refine B.run g2 ?_
  try simp only [q_bind_some, castInt_int, q_castBool, q_castStr, q_castPtr, q_castFn, q_castAgg, q_castTuple, q_uncons, q_isNil, q_sl, q_nils, q_emp, q_ptr, q_nilp, q_fn, q_cond_true, q_cond_false, Bool.not_true, Bool.not_false, decide_true, decide_false, List.cons_append, List.nil_append]
  generalize hb2 : B2 ++ l2.flatten = B3 at *
  have hfin : A ++ (lss.take (i + 1)).flatten = B3 := by
      rw [hnx, ← hb2, ← hb1, ← hb0]
      try simp only [List.append_assoc]
  refine W.again (i + 1) ⟨by omega, by rw [hfin]; exact s2⟩ (by omega) (by rw [hfin, hw0]) (by rw [hfin])
end Go.B
