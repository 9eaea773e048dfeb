/- The places of marks, and what marks and looks at them. -/
import Derived.Test.YthcinellhbmcoaaMkT
import Derived.Test.YthcinellhbmcoaaC
set_option linter.unusedVariables false
set_option linter.unusedSimpArgs false
namespace Go.X
open Go.HM Go.Proofs
def PInt (σ : Heap) (r o : Nat) (ls : List Leaf) : Prop := Fl σ .i r o ∧ ls = [(.i, r, o)]
theorem PInt.shp {σ σ' : Heap} (s : Shp σ σ') {r o : Nat} {ls : List Leaf} (h : PInt σ r o ls) : PInt σ' r o ls := ⟨h.1.shp s, h.2⟩
theorem PInt.cells {σ : Heap} {r o : Nat} {ls : List Leaf} (h : PInt σ r o ls) : ∀ k r' o', (k, r', o') ∈ ls → cellAt σ r' o' ≠ none := fun k r' o' hm => by
  obtain ⟨h1, rfl⟩ := h
  simp at hm
  obtain ⟨rfl, rfl, rfl⟩ := hm
  exact h1.cell
theorem PInt.pos {σ : Heap} {r o : Nat} {ls : List Leaf} (h : PInt σ r o ls) : 1 ≤ ls.length := by rw [h.2]; simp
theorem markIntS_lv {σ0 σ : Heap} {n : Nat} {A : List Leaf} {v : V} {lss : List (List Leaf)} (s : Shp σ0 (wrs σ n A)) (h : LvS 1 (PInt σ0) σ0 v lss) (h1 : 1 ≤ n) (h2 : n + A.length + lss.flatten.length ≤ 1099511627776) : Runs G n_laws_markIntS [v, .int .i64 ((n + A.length : Nat) : Int)] (wrs σ n A) (.int .i64 ((n + (A ++ lss.flatten).length : Nat) : Int)) (wrs σ n (A ++ lss.flatten)) ∧ Shp σ0 (wrs σ n (A ++ lss.flatten)) := by
  suffices hE : HM.Ends G n_laws_markIntS [v, .int .i64 ((n + A.length : Nat) : Int)] (wrs σ n A) (fun w σ' => w = .int .i64 ((n + (A ++ lss.flatten).length : Nat) : Int) ∧ σ' = wrs σ n (A ++ lss.flatten) ∧ Shp σ0 σ') by
    obtain ⟨w, σ', ⟨rfl, rfl, hs⟩, hr⟩ := hE
    exact ⟨hr, hs⟩
  have hlen : lss.length ≤ 4611686018427387904 := h.len_le (by omega) fun r o ls h => by
      have := PInt.pos h
      omega
  refine HM.Ends.mk (W.to (fun k _ => laws_markIntS.eq k _ _ _) ?_)
  generalize hG : (fun (w : V) (σ' : Heap) => w = .int .i64 ((n + (A ++ lss.flatten).length : Nat) : Int) ∧ σ' = wrs σ n (A ++ lss.flatten) ∧ Shp σ0 σ') = Good
  rw [← List.append_nil A]
  refine W.loop (S := Nat) (fun i => i ≤ lss.length ∧ Shp σ0 (wrs σ n (A ++ (lss.take i).flatten))) (fun i => [.v v, .v (.int .i64 ((n + (A ++ (lss.take i).flatten).length : Nat) : Int)), .v (.int .i64 (i : Int))]) (fun i => wrs σ n (A ++ (lss.take i).flatten)) (fun i => lss.length - i) (fun i ⟨hi', sB⟩ => ?_)
    0 ⟨Nat.zero_le _, by simpa using s⟩
  refine W.to (fun k _ => by rw [laws_markIntS.L0_step]) ?_
  refine B.bind h.vlen (B.ite (fun hlt => ?_) fun hlt => ?_)
  rotate_left
  · rw [List.take_of_length_le (by omega)] at sB ⊢
    try simp only [q_bind_some, castInt_int, q_castBool, q_castStr, q_castPtr, q_castFn, q_castAgg, q_castTuple, q_uncons, q_isNil, q_sl, q_nils, q_emp, q_ptr, q_nilp, q_fn, q_cond_true, q_cond_false, Bool.not_true, Bool.not_false, decide_true, decide_false, List.cons_append, List.nil_append, laws_markIntS.A0_x0]
    subst hG
    exact W.ret ⟨rfl, rfl, sB⟩
  have hil : i < lss.length := by omega
  have hx : lss[i]? = some lss[i] := List.getElem?_eq_getElem hil
  have hnext := flat_next hx
  have hle := flat_le hx
  generalize lss[i] = ls at hx hnext hle
  have hw0 := wrap_next hil hlen
  have hnx : A ++ (lss.take (i + 1)).flatten = (A ++ (lss.take i).flatten) ++ ls := by rw [hnext, List.append_assoc]
  have hBl : (A ++ (lss.take i).flatten).length = A.length + (lss.take i).flatten.length := List.length_append
  generalize A ++ (lss.take i).flatten = B0 at sB hnx hBl ⊢
  obtain ⟨r, o, hv, hP⟩ := h.at hx
  obtain ⟨f0, rfl⟩ := hP
  simp only [List.length_append, List.length_cons, List.length_nil] at hle
  have e0 : (B0 ++ [(MK.i, r, o)]).length = B0.length + 1 := List.length_append
  obtain ⟨p0, s0⟩ := put_i sB f0
  have x0 := nx (n := n) (A := B0) (MK.i, r, o) (by omega)
  try simp only [q_bind_some, castInt_int, q_castBool, q_castStr, q_castPtr, q_castFn, q_castAgg, q_castTuple, q_uncons, q_isNil, q_sl, q_nils, q_emp, q_ptr, q_nilp, q_fn, q_cond_true, q_cond_false, Bool.not_true, Bool.not_false, decide_true, decide_false, List.cons_append, List.nil_append, hv, p0, x0]
  generalize hb0 : B0 ++ [(MK.i, r, o)] = B1 at *
  have hfin : A ++ (lss.take (i + 1)).flatten = B1 := by
      rw [hnx, ← hb0]
      try simp only [List.append_assoc]
  refine W.again (i + 1) ⟨by omega, by rw [hfin]; exact s0⟩ (by omega) (by rw [hfin, hw0]) (by rw [hfin])
theorem heldIntS_lv {σ0 σ : Heap} {n : Nat} {v : V} {lss : List (List Leaf)} (s : Shp σ0 σ) (h : LvS 1 (PInt σ0) σ0 v lss) (hm : HeldAt σ n lss.flatten) (h1 : 1 ≤ n) (h2 : n + lss.flatten.length ≤ 1099511627776) : Runs G n_laws_heldIntS [v, .int .i64 (n : Int)] σ (.int .i64 ((n + lss.flatten.length : Nat) : Int)) σ := by
  have hlen : lss.length ≤ 4611686018427387904 := h.len_le (by omega) fun r o ls h => by
      have := PInt.pos h
      omega
  refine Runs.of (W.to (fun k _ => laws_heldIntS.eq k _ _ _) ?_)
  refine W.loop (S := Nat) (fun i => i ≤ lss.length) (fun i => [.v v, .v (.int .i64 ((n + (lss.take i).flatten.length : Nat) : Int)), .v (.int .i64 (i : Int))]) (fun i => σ) (fun i => lss.length - i) (fun i hi' => ?_) 0 (Nat.zero_le _)
  refine W.to (fun k _ => by rw [laws_heldIntS.L0_step]) ?_
  refine B.bind h.vlen (B.ite (fun hlt => ?_) fun hlt => ?_)
  rotate_left
  · rw [List.take_of_length_le (by omega)]
    try simp only [q_bind_some, castInt_int, q_castBool, q_castStr, q_castPtr, q_castFn, q_castAgg, q_castTuple, q_uncons, q_isNil, q_sl, q_nils, q_emp, q_ptr, q_nilp, q_fn, q_cond_true, q_cond_false, Bool.not_true, Bool.not_false, decide_true, decide_false, List.cons_append, List.nil_append, laws_heldIntS.A0_x0]
    exact W.ret ⟨rfl, rfl⟩
  have hil : i < lss.length := by omega
  have hx : lss[i]? = some lss[i] := List.getElem?_eq_getElem hil
  have hnext := flat_next hx
  have hle := flat_le hx
  obtain ⟨rest, hcut⟩ := flat_cut hx
  generalize lss[i] = ls at hx hnext hle hcut
  have hw0 := wrap_next hil hlen
  have hh := (hcut ▸ hm : HeldAt σ n ((lss.take i).flatten ++ (ls ++ rest))).app.2.app.1
  obtain ⟨r, o, hv, hP⟩ := h.at hx
  obtain ⟨f0, rfl⟩ := hP
  simp only [List.length_append, List.length_cons, List.length_nil] at hle hnext
  have hm0 : n + (lss.take i).flatten.length = n + (lss.take i).flatten.length := rfl
  generalize hq0 : n + (lss.take i).flatten.length = m0 at hh ⊢
  have z0 : n ≤ m0 := by omega
  have t0 := hh
  have r0 := rdc_cell t0.one
  have r0 : rdc σ r (o) 1 = some [.int .i64 (m0 : Int)] := r0
  try simp only [q_bind_some, castInt_int, q_castBool, q_castStr, q_castPtr, q_castFn, q_castAgg, q_castTuple, q_uncons, q_isNil, q_sl, q_nils, q_emp, q_ptr, q_nilp, q_fn, q_cond_true, q_cond_false, Bool.not_true, Bool.not_false, decide_true, decide_false, List.cons_append, List.nil_append, hv, r0]
  try simp only [q_bind_some, castInt_int, q_castBool, q_castStr, q_castPtr, q_castFn, q_castAgg, q_castTuple, q_uncons, q_isNil, q_sl, q_nils, q_emp, q_ptr, q_nilp, q_fn, q_cond_true, q_cond_false, Bool.not_true, Bool.not_false, decide_true, decide_false, List.cons_append, List.nil_append, decide_eq_true (rfl : (m0 : Int) = (m0 : Int))]
  generalize hq1 : m0 + 1 = m1 at *
  have w0 : IntKind.wrap .i64 ((m0 : Int) + 1) = (m1 : Int) := by rw [wrap_id (by omega) (by omega)]; omega
  try try simp only [q_bind_some, castInt_int, q_castBool, q_castStr, q_castPtr, q_castFn, q_castAgg, q_castTuple, q_uncons, q_isNil, q_sl, q_nils, q_emp, q_ptr, q_nilp, q_fn, q_cond_true, q_cond_false, Bool.not_true, Bool.not_false, decide_true, decide_false, List.cons_append, List.nil_append, w0]
  have hfin : n + (lss.take (i + 1)).flatten.length = m1 := by rw [hnext]; simp only [List.length_append, List.length_cons, List.length_nil]; omega
  exact W.again (i + 1) (show i + 1 ≤ lss.length by omega) (by omega) (by rw [hfin, hw0]) rfl
def PString (σ : Heap) (r o : Nat) (ls : List Leaf) : Prop := Fl σ .s r o ∧ ls = [(.s, r, o)]
theorem PString.shp {σ σ' : Heap} (s : Shp σ σ') {r o : Nat} {ls : List Leaf} (h : PString σ r o ls) : PString σ' r o ls := ⟨h.1.shp s, h.2⟩
theorem PString.cells {σ : Heap} {r o : Nat} {ls : List Leaf} (h : PString σ r o ls) : ∀ k r' o', (k, r', o') ∈ ls → cellAt σ r' o' ≠ none := fun k r' o' hm => by
  obtain ⟨h1, rfl⟩ := h
  simp at hm
  obtain ⟨rfl, rfl, rfl⟩ := hm
  exact h1.cell
theorem PString.pos {σ : Heap} {r o : Nat} {ls : List Leaf} (h : PString σ r o ls) : 1 ≤ ls.length := by rw [h.2]; simp
theorem markStringS_lv {σ0 σ : Heap} {n : Nat} {A : List Leaf} {v : V} {lss : List (List Leaf)} (s : Shp σ0 (wrs σ n A)) (h : LvS 1 (PString σ0) σ0 v lss) (h1 : 1 ≤ n) (h2 : n + A.length + lss.flatten.length ≤ 1099511627776) : Runs G n_laws_markStringS [v, .int .i64 ((n + A.length : Nat) : Int)] (wrs σ n A) (.int .i64 ((n + (A ++ lss.flatten).length : Nat) : Int)) (wrs σ n (A ++ lss.flatten)) ∧ Shp σ0 (wrs σ n (A ++ lss.flatten)) := by
  suffices hE : HM.Ends G n_laws_markStringS [v, .int .i64 ((n + A.length : Nat) : Int)] (wrs σ n A) (fun w σ' => w = .int .i64 ((n + (A ++ lss.flatten).length : Nat) : Int) ∧ σ' = wrs σ n (A ++ lss.flatten) ∧ Shp σ0 σ') by
    obtain ⟨w, σ', ⟨rfl, rfl, hs⟩, hr⟩ := hE
    exact ⟨hr, hs⟩
  have hlen : lss.length ≤ 4611686018427387904 := h.len_le (by omega) fun r o ls h => by
      have := PString.pos h
      omega
  refine HM.Ends.mk (W.to (fun k _ => laws_markStringS.eq k _ _ _) ?_)
  generalize hG : (fun (w : V) (σ' : Heap) => w = .int .i64 ((n + (A ++ lss.flatten).length : Nat) : Int) ∧ σ' = wrs σ n (A ++ lss.flatten) ∧ Shp σ0 σ') = Good
  rw [← List.append_nil A]
  refine W.loop (S := Nat) (fun i => i ≤ lss.length ∧ Shp σ0 (wrs σ n (A ++ (lss.take i).flatten))) (fun i => [.v v, .v (.int .i64 ((n + (A ++ (lss.take i).flatten).length : Nat) : Int)), .v (.int .i64 (i : Int))]) (fun i => wrs σ n (A ++ (lss.take i).flatten)) (fun i => lss.length - i) (fun i ⟨hi', sB⟩ => ?_)
    0 ⟨Nat.zero_le _, by simpa using s⟩
  refine W.to (fun k _ => by rw [laws_markStringS.L0_step]) ?_
  refine B.bind h.vlen (B.ite (fun hlt => ?_) fun hlt => ?_)
  rotate_left
  · rw [List.take_of_length_le (by omega)] at sB ⊢
    try simp only [q_bind_some, castInt_int, q_castBool, q_castStr, q_castPtr, q_castFn, q_castAgg, q_castTuple, q_uncons, q_isNil, q_sl, q_nils, q_emp, q_ptr, q_nilp, q_fn, q_cond_true, q_cond_false, Bool.not_true, Bool.not_false, decide_true, decide_false, List.cons_append, List.nil_append, laws_markStringS.A0_x0]
    subst hG
    exact W.ret ⟨rfl, rfl, sB⟩
  have hil : i < lss.length := by omega
  have hx : lss[i]? = some lss[i] := List.getElem?_eq_getElem hil
  have hnext := flat_next hx
  have hle := flat_le hx
  generalize lss[i] = ls at hx hnext hle
  have hw0 := wrap_next hil hlen
  have hnx : A ++ (lss.take (i + 1)).flatten = (A ++ (lss.take i).flatten) ++ ls := by rw [hnext, List.append_assoc]
  have hBl : (A ++ (lss.take i).flatten).length = A.length + (lss.take i).flatten.length := List.length_append
  generalize A ++ (lss.take i).flatten = B0 at sB hnx hBl ⊢
  obtain ⟨r, o, hv, hP⟩ := h.at hx
  obtain ⟨f0, rfl⟩ := hP
  simp only [List.length_append, List.length_cons, List.length_nil] at hle
  have e0 : (B0 ++ [(MK.s, r, o)]).length = B0.length + 1 := List.length_append
  try try simp only [q_bind_some, castInt_int, q_castBool, q_castStr, q_castPtr, q_castFn, q_castAgg, q_castTuple, q_uncons, q_isNil, q_sl, q_nils, q_emp, q_ptr, q_nilp, q_fn, q_cond_true, q_cond_false, Bool.not_true, Bool.not_false, decide_true, decide_false, List.cons_append, List.nil_append, hv]
  refine B.run (markText_runs (wrs σ n B0) (n := n + B0.length) (by omega) (by omega)) ?_
  try simp only [q_bind_some, castInt_int, q_castBool, q_castStr, q_castPtr, q_castFn, q_castAgg, q_castTuple, q_uncons, q_isNil, q_sl, q_nils, q_emp, q_ptr, q_nilp, q_fn, q_cond_true, q_cond_false, Bool.not_true, Bool.not_false, decide_true, decide_false, List.cons_append, List.nil_append]
  obtain ⟨p0, s0⟩ := put_s sB f0
  have x0 := nx (n := n) (A := B0) (MK.s, r, o) (by omega)
  try simp only [q_bind_some, castInt_int, q_castBool, q_castStr, q_castPtr, q_castFn, q_castAgg, q_castTuple, q_uncons, q_isNil, q_sl, q_nils, q_emp, q_ptr, q_nilp, q_fn, q_cond_true, q_cond_false, Bool.not_true, Bool.not_false, decide_true, decide_false, List.cons_append, List.nil_append, hv, p0, x0]
  generalize hb0 : B0 ++ [(MK.s, r, o)] = B1 at *
  have hfin : A ++ (lss.take (i + 1)).flatten = B1 := by
      rw [hnx, ← hb0]
      try simp only [List.append_assoc]
  refine W.again (i + 1) ⟨by omega, by rw [hfin]; exact s0⟩ (by omega) (by rw [hfin, hw0]) (by rw [hfin])
def PTreeArg (σ : Heap) (r o : Nat) (ls : List Leaf) : Prop := Fl σ .s r (o + 0) ∧ Fl σ .i r (o + 1) ∧ ls = [(.s, r, o + 0)] ++ ([(.i, r, o + 1)])
theorem PTreeArg.shp {σ σ' : Heap} (s : Shp σ σ') {r o : Nat} {ls : List Leaf} (h : PTreeArg σ r o ls) : PTreeArg σ' r o ls := by
  obtain ⟨h0, h1, rfl⟩ := h
  exact ⟨h0.shp s, h1.shp s, rfl⟩
theorem PTreeArg.cells {σ : Heap} {r o : Nat} {ls : List Leaf} (h : PTreeArg σ r o ls) : ∀ k r' o', (k, r', o') ∈ ls → cellAt σ r' o' ≠ none := fun k r' o' hm => by
      obtain ⟨h0, h1, rfl⟩ := h
      rcases List.mem_append.1 hm with hm | hm
      · exact (fun k r' o' hm => by
          simp at hm
          obtain ⟨rfl, rfl, rfl⟩ := hm
          exact h0.cell) k r' o' hm
      exact (fun k r' o' hm => by
        simp at hm
        obtain ⟨rfl, rfl, rfl⟩ := hm
        exact h1.cell) k r' o' hm
theorem PTreeArg.pos {σ : Heap} {r o : Nat} {ls : List Leaf} (h : PTreeArg σ r o ls) : 1 ≤ ls.length := by
  obtain ⟨f0, f1, rfl⟩ := h
  simp
theorem markTreeArgS_lv {σ0 σ : Heap} {n : Nat} {A : List Leaf} {v : V} {lss : List (List Leaf)} (s : Shp σ0 (wrs σ n A)) (h : LvS 2 (PTreeArg σ0) σ0 v lss) (h1 : 1 ≤ n) (h2 : n + A.length + lss.flatten.length ≤ 1099511627776) : Runs G n_laws_markTreeArgS [v, .int .i64 ((n + A.length : Nat) : Int)] (wrs σ n A) (.int .i64 ((n + (A ++ lss.flatten).length : Nat) : Int)) (wrs σ n (A ++ lss.flatten)) ∧ Shp σ0 (wrs σ n (A ++ lss.flatten)) := by
  suffices hE : HM.Ends G n_laws_markTreeArgS [v, .int .i64 ((n + A.length : Nat) : Int)] (wrs σ n A) (fun w σ' => w = .int .i64 ((n + (A ++ lss.flatten).length : Nat) : Int) ∧ σ' = wrs σ n (A ++ lss.flatten) ∧ Shp σ0 σ') by
    obtain ⟨w, σ', ⟨rfl, rfl, hs⟩, hr⟩ := hE
    exact ⟨hr, hs⟩
  have hlen : lss.length ≤ 4611686018427387904 := h.len_le (by omega) fun r o ls h => by
      have := PTreeArg.pos h
      omega
  refine HM.Ends.mk (W.to (fun k _ => laws_markTreeArgS.eq k _ _ _) ?_)
  generalize hG : (fun (w : V) (σ' : Heap) => w = .int .i64 ((n + (A ++ lss.flatten).length : Nat) : Int) ∧ σ' = wrs σ n (A ++ lss.flatten) ∧ Shp σ0 σ') = Good
  rw [← List.append_nil A]
  refine W.loop (S := Nat) (fun i => i ≤ lss.length ∧ Shp σ0 (wrs σ n (A ++ (lss.take i).flatten))) (fun i => [.v v, .v (.int .i64 ((n + (A ++ (lss.take i).flatten).length : Nat) : Int)), .v (.int .i64 (i : Int))]) (fun i => wrs σ n (A ++ (lss.take i).flatten)) (fun i => lss.length - i) (fun i ⟨hi', sB⟩ => ?_)
    0 ⟨Nat.zero_le _, by simpa using s⟩
  refine W.to (fun k _ => by rw [laws_markTreeArgS.L0_step]) ?_
  refine B.bind h.vlen (B.ite (fun hlt => ?_) fun hlt => ?_)
  rotate_left
  · rw [List.take_of_length_le (by omega)] at sB ⊢
    try simp only [q_bind_some, castInt_int, q_castBool, q_castStr, q_castPtr, q_castFn, q_castAgg, q_castTuple, q_uncons, q_isNil, q_sl, q_nils, q_emp, q_ptr, q_nilp, q_fn, q_cond_true, q_cond_false, Bool.not_true, Bool.not_false, decide_true, decide_false, List.cons_append, List.nil_append, laws_markTreeArgS.A0_x0]
    subst hG
    exact W.ret ⟨rfl, rfl, sB⟩
  have hil : i < lss.length := by omega
  have hx : lss[i]? = some lss[i] := List.getElem?_eq_getElem hil
  have hnext := flat_next hx
  have hle := flat_le hx
  generalize lss[i] = ls at hx hnext hle
  have hw0 := wrap_next hil hlen
  have hnx : A ++ (lss.take (i + 1)).flatten = (A ++ (lss.take i).flatten) ++ ls := by rw [hnext, List.append_assoc]
  have hBl : (A ++ (lss.take i).flatten).length = A.length + (lss.take i).flatten.length := List.length_append
  generalize A ++ (lss.take i).flatten = B0 at sB hnx hBl ⊢
  obtain ⟨r, o, hv, hP⟩ := h.at hx
  obtain ⟨f0, f1, rfl⟩ := hP
  simp only [List.length_append, List.length_cons, List.length_nil] at hle
  have e0 : (B0 ++ [(MK.s, r, o + 0)]).length = B0.length + 1 := List.length_append
  try try simp only [q_bind_some, castInt_int, q_castBool, q_castStr, q_castPtr, q_castFn, q_castAgg, q_castTuple, q_uncons, q_isNil, q_sl, q_nils, q_emp, q_ptr, q_nilp, q_fn, q_cond_true, q_cond_false, Bool.not_true, Bool.not_false, decide_true, decide_false, List.cons_append, List.nil_append, hv]
  refine B.run (markText_runs (wrs σ n B0) (n := n + B0.length) (by omega) (by omega)) ?_
  try simp only [q_bind_some, castInt_int, q_castBool, q_castStr, q_castPtr, q_castFn, q_castAgg, q_castTuple, q_uncons, q_isNil, q_sl, q_nils, q_emp, q_ptr, q_nilp, q_fn, q_cond_true, q_cond_false, Bool.not_true, Bool.not_false, decide_true, decide_false, List.cons_append, List.nil_append]
  obtain ⟨p0, s0⟩ := put_s sB f0
  have x0 := nx (n := n) (A := B0) (MK.s, r, o + 0) (by omega)
  try simp only [q_bind_some, castInt_int, q_castBool, q_castStr, q_castPtr, q_castFn, q_castAgg, q_castTuple, q_uncons, q_isNil, q_sl, q_nils, q_emp, q_ptr, q_nilp, q_fn, q_cond_true, q_cond_false, Bool.not_true, Bool.not_false, decide_true, decide_false, List.cons_append, List.nil_append, hv, p0, x0]
  generalize hb0 : B0 ++ [(MK.s, r, o + 0)] = B1 at *
  have e1 : (B1 ++ [(MK.i, r, o + 1)]).length = B1.length + 1 := List.length_append
  obtain ⟨p1, s1⟩ := put_i s0 f1
  have x1 := nx (n := n) (A := B1) (MK.i, r, o + 1) (by omega)
  try simp only [q_bind_some, castInt_int, q_castBool, q_castStr, q_castPtr, q_castFn, q_castAgg, q_castTuple, q_uncons, q_isNil, q_sl, q_nils, q_emp, q_ptr, q_nilp, q_fn, q_cond_true, q_cond_false, Bool.not_true, Bool.not_false, decide_true, decide_false, List.cons_append, List.nil_append, hv, p1, x1]
  generalize hb1 : B1 ++ [(MK.i, r, o + 1)] = B2 at *
  have hfin : A ++ (lss.take (i + 1)).flatten = B2 := by
      rw [hnx, ← hb1, ← hb0]
      try simp only [List.append_assoc]
  refine W.again (i + 1) ⟨by omega, by rw [hfin]; exact s1⟩ (by omega) (by rw [hfin, hw0]) (by rw [hfin])
def PTreeExpr : Nat → Heap → Nat → Nat → List Leaf → Prop
  | 0, _, _, _, _ => False
  | d + 1, σ, r, o, ls => ∃ (v4 : V) (l4 : List (List Leaf)), Fl σ .i r (o + 0) ∧ Fl σ .i r (o + 1) ∧ Fl σ .s r (o + 2) ∧ Fl σ .s r (o + 3) ∧ Cl σ r (o + 4) v4 ∧ LvS 5 (PTreeExpr d σ) σ v4 l4 ∧ ls = [(.i, r, o + 0)] ++ ([(.i, r, o + 1)] ++ ([(.s, r, o + 2)] ++ ([(.s, r, o + 3)] ++ (l4.flatten))))
theorem PTreeExpr.shp {σ σ' : Heap} (s : Shp σ σ') : ∀ {d : Nat} {r o : Nat} {ls : List Leaf}, PTreeExpr d σ r o ls → PTreeExpr d σ' r o ls
  | 0, _, _, _, h => h.elim
  | d + 1, r, o, _, ⟨v4, l4, h0, h1, h2, h3, c4, h4, rfl⟩ => by
    have ih : ∀ {r o : Nat} {ls : List Leaf}, PTreeExpr d σ r o ls → PTreeExpr d σ' r o ls := fun h => PTreeExpr.shp s h
    exact ⟨v4, l4, h0.shp s, h1.shp s, h2.shp s, h3.shp s, c4.shp s, h4.mono s fun _ _ _ h => ih h, rfl⟩
theorem PTreeExpr.cells {σ : Heap} : ∀ {d : Nat} {r o : Nat} {ls : List Leaf}, PTreeExpr d σ r o ls → ∀ k r' o', (k, r', o') ∈ ls → cellAt σ r' o' ≠ none
  | 0, _, _, _, h => h.elim
  | d + 1, r, o, _, ⟨v4, l4, h0, h1, h2, h3, c4, h4, rfl⟩ => fun k r' o' hm => by
      rcases List.mem_append.1 hm with hm | hm
      · exact (fun k r' o' hm => by
          simp at hm
          obtain ⟨rfl, rfl, rfl⟩ := hm
          exact h0.cell) k r' o' hm
      rcases List.mem_append.1 hm with hm | hm
      · exact (fun k r' o' hm => by
          simp at hm
          obtain ⟨rfl, rfl, rfl⟩ := hm
          exact h1.cell) k r' o' hm
      rcases List.mem_append.1 hm with hm | hm
      · exact (fun k r' o' hm => by
          simp at hm
          obtain ⟨rfl, rfl, rfl⟩ := hm
          exact h2.cell) k r' o' hm
      rcases List.mem_append.1 hm with hm | hm
      · exact (fun k r' o' hm => by
          simp at hm
          obtain ⟨rfl, rfl, rfl⟩ := hm
          exact h3.cell) k r' o' hm
      exact (h4.cells fun _ _ _ h => PTreeExpr.cells h) k r' o' hm
theorem PTreeExpr.pos {σ : Heap} : ∀ {d : Nat} {r o : Nat} {ls : List Leaf}, PTreeExpr d σ r o ls → 1 ≤ ls.length
  | 0, _, _, _, h => h.elim
  | d + 1, r, o, _, ⟨v4, l4, f0, f1, f2, f3, c4, f4, rfl⟩ => by simp
theorem markTreeExprS_lv' (d : Nat) : ∀ {σ0 σ : Heap} {n : Nat} {A : List Leaf} {v : V} {lss : List (List Leaf)} (s : Shp σ0 (wrs σ n A)) (h : LvS 5 (PTreeExpr d σ0) σ0 v lss) (h1 : 1 ≤ n) (h2 : n + A.length + lss.flatten.length ≤ 1099511627776), Runs G n_laws_markTreeExprS [v, .int .i64 ((n + A.length : Nat) : Int)] (wrs σ n A) (.int .i64 ((n + (A ++ lss.flatten).length : Nat) : Int)) (wrs σ n (A ++ lss.flatten)) ∧ Shp σ0 (wrs σ n (A ++ lss.flatten)) := by
  induction d with
  | zero =>
    intro σ0 σ n A v lss s h h1 h2
    have hl : lss = [] := by
      cases h with
      | nils => rfl
      | emp => rfl
      | sl r o m lim row lss k1 k2 k3 k4 k5 k6 =>
        cases lss with
        | nil => rfl
        | cons ls lss => exact (k6 0 ls rfl).elim
    subst hl
    have hn : vlen v = some 0 := h.vlen
    rw [show (([] : List (List Leaf)).flatten) = [] from rfl, List.append_nil]
    refine ⟨Runs.of (W.to (fun k _ => laws_markTreeExprS.eq k _ _ _) ?_), s⟩
    refine W.loop (S := Unit) (fun _ => True) (fun _ => [.v v, .v (.int .i64 ((n + A.length : Nat) : Int)), .v (.int .i64 0)]) (fun _ => wrs σ n A) (fun _ => 0) (fun _ _ => ?_) () trivial
    refine W.to (fun k _ => by rw [laws_markTreeExprS.L0_step]) ?_
    refine B.bind hn (B.ite (fun hlt => absurd hlt (by omega)) fun hlt => ?_)
    try simp only [q_bind_some, castInt_int, q_castBool, q_castStr, q_castPtr, q_castFn, q_castAgg, q_castTuple, q_uncons, q_isNil, q_sl, q_nils, q_emp, q_ptr, q_nilp, q_fn, q_cond_true, q_cond_false, Bool.not_true, Bool.not_false, decide_true, decide_false, List.cons_append, List.nil_append, laws_markTreeExprS.A0_x0]
    exact W.ret ⟨rfl, rfl⟩
  | succ d ih =>
    intro σ0 σ n A v lss s h h1 h2
    suffices hE : HM.Ends G n_laws_markTreeExprS [v, .int .i64 ((n + A.length : Nat) : Int)] (wrs σ n A) (fun w σ' => w = .int .i64 ((n + (A ++ lss.flatten).length : Nat) : Int) ∧ σ' = wrs σ n (A ++ lss.flatten) ∧ Shp σ0 σ') by
      obtain ⟨w, σ', ⟨rfl, rfl, hs⟩, hr⟩ := hE
      exact ⟨hr, hs⟩
    have hlen : lss.length ≤ 4611686018427387904 := h.len_le (by omega) fun r o ls h => by
        have := PTreeExpr.pos h
        omega
    refine HM.Ends.mk (W.to (fun k _ => laws_markTreeExprS.eq k _ _ _) ?_)
    generalize hG : (fun (w : V) (σ' : Heap) => w = .int .i64 ((n + (A ++ lss.flatten).length : Nat) : Int) ∧ σ' = wrs σ n (A ++ lss.flatten) ∧ Shp σ0 σ') = Good
    rw [← List.append_nil A]
    refine W.loop (S := Nat) (fun i => i ≤ lss.length ∧ Shp σ0 (wrs σ n (A ++ (lss.take i).flatten))) (fun i => [.v v, .v (.int .i64 ((n + (A ++ (lss.take i).flatten).length : Nat) : Int)), .v (.int .i64 (i : Int))]) (fun i => wrs σ n (A ++ (lss.take i).flatten)) (fun i => lss.length - i) (fun i ⟨hi', sB⟩ => ?_)
      0 ⟨Nat.zero_le _, by simpa using s⟩
    refine W.to (fun k _ => by rw [laws_markTreeExprS.L0_step]) ?_
    refine B.bind h.vlen (B.ite (fun hlt => ?_) fun hlt => ?_)
    rotate_left
    · rw [List.take_of_length_le (by omega)] at sB ⊢
      try simp only [q_bind_some, castInt_int, q_castBool, q_castStr, q_castPtr, q_castFn, q_castAgg, q_castTuple, q_uncons, q_isNil, q_sl, q_nils, q_emp, q_ptr, q_nilp, q_fn, q_cond_true, q_cond_false, Bool.not_true, Bool.not_false, decide_true, decide_false, List.cons_append, List.nil_append, laws_markTreeExprS.A0_x0]
      subst hG
      exact W.ret ⟨rfl, rfl, sB⟩
    have hil : i < lss.length := by omega
    have hx : lss[i]? = some lss[i] := List.getElem?_eq_getElem hil
    have hnext := flat_next hx
    have hle := flat_le hx
    generalize lss[i] = ls at hx hnext hle
    have hw0 := wrap_next hil hlen
    have hnx : A ++ (lss.take (i + 1)).flatten = (A ++ (lss.take i).flatten) ++ ls := by rw [hnext, List.append_assoc]
    have hBl : (A ++ (lss.take i).flatten).length = A.length + (lss.take i).flatten.length := List.length_append
    generalize A ++ (lss.take i).flatten = B0 at sB hnx hBl ⊢
    obtain ⟨r, o, hv, hP⟩ := h.at hx
    obtain ⟨v4, l4, f0, f1, f2, f3, c4, f4, rfl⟩ := hP
    simp only [List.length_append, List.length_cons, List.length_nil] at hle
    have e0 : (B0 ++ [(MK.i, r, o + 0)]).length = B0.length + 1 := List.length_append
    obtain ⟨p0, s0⟩ := put_i sB f0
    have x0 := nx (n := n) (A := B0) (MK.i, r, o + 0) (by omega)
    try simp only [q_bind_some, castInt_int, q_castBool, q_castStr, q_castPtr, q_castFn, q_castAgg, q_castTuple, q_uncons, q_isNil, q_sl, q_nils, q_emp, q_ptr, q_nilp, q_fn, q_cond_true, q_cond_false, Bool.not_true, Bool.not_false, decide_true, decide_false, List.cons_append, List.nil_append, hv, p0, x0]
    generalize hb0 : B0 ++ [(MK.i, r, o + 0)] = B1 at *
    have e1 : (B1 ++ [(MK.i, r, o + 1)]).length = B1.length + 1 := List.length_append
    obtain ⟨p1, s1⟩ := put_i s0 f1
    have x1 := nx (n := n) (A := B1) (MK.i, r, o + 1) (by omega)
    try simp only [q_bind_some, castInt_int, q_castBool, q_castStr, q_castPtr, q_castFn, q_castAgg, q_castTuple, q_uncons, q_isNil, q_sl, q_nils, q_emp, q_ptr, q_nilp, q_fn, q_cond_true, q_cond_false, Bool.not_true, Bool.not_false, decide_true, decide_false, List.cons_append, List.nil_append, hv, p1, x1]
    generalize hb1 : B1 ++ [(MK.i, r, o + 1)] = B2 at *
    have e2 : (B2 ++ [(MK.s, r, o + 2)]).length = B2.length + 1 := List.length_append
    try try simp only [q_bind_some, castInt_int, q_castBool, q_castStr, q_castPtr, q_castFn, q_castAgg, q_castTuple, q_uncons, q_isNil, q_sl, q_nils, q_emp, q_ptr, q_nilp, q_fn, q_cond_true, q_cond_false, Bool.not_true, Bool.not_false, decide_true, decide_false, List.cons_append, List.nil_append, hv]
    refine B.run (markText_runs (wrs σ n B2) (n := n + B2.length) (by omega) (by omega)) ?_
    try simp only [q_bind_some, castInt_int, q_castBool, q_castStr, q_castPtr, q_castFn, q_castAgg, q_castTuple, q_uncons, q_isNil, q_sl, q_nils, q_emp, q_ptr, q_nilp, q_fn, q_cond_true, q_cond_false, Bool.not_true, Bool.not_false, decide_true, decide_false, List.cons_append, List.nil_append]
    obtain ⟨p2, s2⟩ := put_s s1 f2
    have x2 := nx (n := n) (A := B2) (MK.s, r, o + 2) (by omega)
    try simp only [q_bind_some, castInt_int, q_castBool, q_castStr, q_castPtr, q_castFn, q_castAgg, q_castTuple, q_uncons, q_isNil, q_sl, q_nils, q_emp, q_ptr, q_nilp, q_fn, q_cond_true, q_cond_false, Bool.not_true, Bool.not_false, decide_true, decide_false, List.cons_append, List.nil_append, hv, p2, x2]
    generalize hb2 : B2 ++ [(MK.s, r, o + 2)] = B3 at *
    have e3 : (B3 ++ [(MK.s, r, o + 3)]).length = B3.length + 1 := List.length_append
    try try simp only [q_bind_some, castInt_int, q_castBool, q_castStr, q_castPtr, q_castFn, q_castAgg, q_castTuple, q_uncons, q_isNil, q_sl, q_nils, q_emp, q_ptr, q_nilp, q_fn, q_cond_true, q_cond_false, Bool.not_true, Bool.not_false, decide_true, decide_false, List.cons_append, List.nil_append, hv, p2, x2]
    refine B.run (markText_runs (wrs σ n B3) (n := n + B3.length) (by omega) (by omega)) ?_
    try simp only [q_bind_some, castInt_int, q_castBool, q_castStr, q_castPtr, q_castFn, q_castAgg, q_castTuple, q_uncons, q_isNil, q_sl, q_nils, q_emp, q_ptr, q_nilp, q_fn, q_cond_true, q_cond_false, Bool.not_true, Bool.not_false, decide_true, decide_false, List.cons_append, List.nil_append]
    obtain ⟨p3, s3⟩ := put_s s2 f3
    have x3 := nx (n := n) (A := B3) (MK.s, r, o + 3) (by omega)
    try simp only [q_bind_some, castInt_int, q_castBool, q_castStr, q_castPtr, q_castFn, q_castAgg, q_castTuple, q_uncons, q_isNil, q_sl, q_nils, q_emp, q_ptr, q_nilp, q_fn, q_cond_true, q_cond_false, Bool.not_true, Bool.not_false, decide_true, decide_false, List.cons_append, List.nil_append, hv, p3, x3]
    generalize hb3 : B3 ++ [(MK.s, r, o + 3)] = B4 at *
    have e4 : (B4 ++ l4.flatten).length = B4.length + l4.flatten.length := List.length_append
    have q4 := rdc_cell (c4.shp s3).1
    try simp only [q_bind_some, castInt_int, q_castBool, q_castStr, q_castPtr, q_castFn, q_castAgg, q_castTuple, q_uncons, q_isNil, q_sl, q_nils, q_emp, q_ptr, q_nilp, q_fn, q_cond_true, q_cond_false, Bool.not_true, Bool.not_false, decide_true, decide_false, List.cons_append, List.nil_append, hv, q4]
    obtain ⟨g4, s4⟩ := ih (A := B4) s3 f4 h1 (by omega)
    refine B.run g4 ?_
    try simp only [q_bind_some, castInt_int, q_castBool, q_castStr, q_castPtr, q_castFn, q_castAgg, q_castTuple, q_uncons, q_isNil, q_sl, q_nils, q_emp, q_ptr, q_nilp, q_fn, q_cond_true, q_cond_false, Bool.not_true, Bool.not_false, decide_true, decide_false, List.cons_append, List.nil_append]
    generalize hb4 : B4 ++ l4.flatten = B5 at *
    have hfin : A ++ (lss.take (i + 1)).flatten = B5 := by
        rw [hnx, ← hb4, ← hb3, ← hb2, ← hb1, ← hb0]
        try simp only [List.append_assoc]
    refine W.again (i + 1) ⟨by omega, by rw [hfin]; exact s4⟩ (by omega) (by rw [hfin, hw0]) (by rw [hfin])
theorem markTreeExprS_lv {d : Nat} {σ0 σ : Heap} {n : Nat} {A : List Leaf} {v : V} {lss : List (List Leaf)} (s : Shp σ0 (wrs σ n A)) (h : LvS 5 (PTreeExpr d σ0) σ0 v lss) (h1 : 1 ≤ n) (h2 : n + A.length + lss.flatten.length ≤ 1099511627776) : Runs G n_laws_markTreeExprS [v, .int .i64 ((n + A.length : Nat) : Int)] (wrs σ n A) (.int .i64 ((n + (A ++ lss.flatten).length : Nat) : Int)) (wrs σ n (A ++ lss.flatten)) ∧ Shp σ0 (wrs σ n (A ++ lss.flatten)) := markTreeExprS_lv' d s h h1 h2
def PTreeFun (d : Nat) (σ : Heap) (r o : Nat) (ls : List Leaf) : Prop := ∃ (v2 : V) (l2 : List (List Leaf)) (v8 : V) (l8 : List (List Leaf)), Fl σ .s r (o + 0) ∧ Fl σ .b r (o + 1) ∧ Cl σ r (o + 2) v2 ∧ LvS 2 (PTreeArg σ) σ v2 l2 ∧ Fl σ .i r (o + 3) ∧ Fl σ .i r (o + 4 + 0) ∧ Fl σ .i r (o + 4 + 1) ∧ Fl σ .s r (o + 4 + 2) ∧ Fl σ .s r (o + 4 + 3) ∧ Cl σ r (o + 4 + 4) v8 ∧ LvS 5 (PTreeExpr d σ) σ v8 l8 ∧ ls = [(.s, r, o + 0)] ++ ([(.b, r, o + 1)] ++ (l2.flatten ++ ([(.i, r, o + 3)] ++ ([(.i, r, o + 4 + 0)] ++ ([(.i, r, o + 4 + 1)] ++ ([(.s, r, o + 4 + 2)] ++ ([(.s, r, o + 4 + 3)] ++ (l8.flatten))))))))
theorem PTreeFun.shp {σ σ' : Heap} (s : Shp σ σ') {d : Nat} {r o : Nat} {ls : List Leaf} (h : PTreeFun d σ r o ls) : PTreeFun d σ' r o ls := by
  obtain ⟨v2, l2, v8, l8, h0, h1, c2, h2, h3, h4, h5, h6, h7, c8, h8, rfl⟩ := h
  exact ⟨v2, l2, v8, l8, h0.shp s, h1.shp s, c2.shp s, h2.mono s fun _ _ _ h => PTreeArg.shp s h, h3.shp s, h4.shp s, h5.shp s, h6.shp s, h7.shp s, c8.shp s, h8.mono s fun _ _ _ h => PTreeExpr.shp s h, rfl⟩
theorem PTreeFun.cells {σ : Heap} {d : Nat} {r o : Nat} {ls : List Leaf} (h : PTreeFun d σ r o ls) : ∀ k r' o', (k, r', o') ∈ ls → cellAt σ r' o' ≠ none := fun k r' o' hm => by
      obtain ⟨v2, l2, v8, l8, h0, h1, c2, h2, h3, h4, h5, h6, h7, c8, h8, rfl⟩ := h
      rcases List.mem_append.1 hm with hm | hm
      · exact (fun k r' o' hm => by
          simp at hm
          obtain ⟨rfl, rfl, rfl⟩ := hm
          exact h0.cell) k r' o' hm
      rcases List.mem_append.1 hm with hm | hm
      · exact (fun k r' o' hm => by
          simp at hm
          obtain ⟨rfl, rfl, rfl⟩ := hm
          exact h1.cell) k r' o' hm
      rcases List.mem_append.1 hm with hm | hm
      · exact (h2.cells fun _ _ _ h => PTreeArg.cells h) k r' o' hm
      rcases List.mem_append.1 hm with hm | hm
      · exact (fun k r' o' hm => by
          simp at hm
          obtain ⟨rfl, rfl, rfl⟩ := hm
          exact h3.cell) k r' o' hm
      rcases List.mem_append.1 hm with hm | hm
      · exact (fun k r' o' hm => by
          simp at hm
          obtain ⟨rfl, rfl, rfl⟩ := hm
          exact h4.cell) k r' o' hm
      rcases List.mem_append.1 hm with hm | hm
      · exact (fun k r' o' hm => by
          simp at hm
          obtain ⟨rfl, rfl, rfl⟩ := hm
          exact h5.cell) k r' o' hm
      rcases List.mem_append.1 hm with hm | hm
      · exact (fun k r' o' hm => by
          simp at hm
          obtain ⟨rfl, rfl, rfl⟩ := hm
          exact h6.cell) k r' o' hm
      rcases List.mem_append.1 hm with hm | hm
      · exact (fun k r' o' hm => by
          simp at hm
          obtain ⟨rfl, rfl, rfl⟩ := hm
          exact h7.cell) k r' o' hm
      exact (h8.cells fun _ _ _ h => PTreeExpr.cells h) k r' o' hm
theorem PTreeFun.pos {σ : Heap} {d : Nat} {r o : Nat} {ls : List Leaf} (h : PTreeFun d σ r o ls) : 1 ≤ ls.length := by
  obtain ⟨v2, l2, v8, l8, f0, f1, c2, f2, f3, f4, f5, f6, f7, c8, f8, rfl⟩ := h
  simp
theorem markTreeFunS_lv {d : Nat} {σ0 σ : Heap} {n : Nat} {A : List Leaf} {v : V} {lss : List (List Leaf)} (s : Shp σ0 (wrs σ n A)) (h : LvS 9 (PTreeFun d σ0) σ0 v lss) (h1 : 1 ≤ n) (h2 : n + A.length + lss.flatten.length ≤ 1099511627776) : Runs G n_laws_markTreeFunS [v, .int .i64 ((n + A.length : Nat) : Int)] (wrs σ n A) (.int .i64 ((n + (A ++ lss.flatten).length : Nat) : Int)) (wrs σ n (A ++ lss.flatten)) ∧ Shp σ0 (wrs σ n (A ++ lss.flatten)) := by
  suffices hE : HM.Ends G n_laws_markTreeFunS [v, .int .i64 ((n + A.length : Nat) : Int)] (wrs σ n A) (fun w σ' => w = .int .i64 ((n + (A ++ lss.flatten).length : Nat) : Int) ∧ σ' = wrs σ n (A ++ lss.flatten) ∧ Shp σ0 σ') by
    obtain ⟨w, σ', ⟨rfl, rfl, hs⟩, hr⟩ := hE
    exact ⟨hr, hs⟩
  have hlen : lss.length ≤ 4611686018427387904 := h.len_le (by omega) fun r o ls h => by
      have := PTreeFun.pos h
      omega
  refine HM.Ends.mk (W.to (fun k _ => laws_markTreeFunS.eq k _ _ _) ?_)
  generalize hG : (fun (w : V) (σ' : Heap) => w = .int .i64 ((n + (A ++ lss.flatten).length : Nat) : Int) ∧ σ' = wrs σ n (A ++ lss.flatten) ∧ Shp σ0 σ') = Good
  rw [← List.append_nil A]
  refine W.loop (S := Nat) (fun i => i ≤ lss.length ∧ Shp σ0 (wrs σ n (A ++ (lss.take i).flatten))) (fun i => [.v v, .v (.int .i64 ((n + (A ++ (lss.take i).flatten).length : Nat) : Int)), .v (.int .i64 (i : Int))]) (fun i => wrs σ n (A ++ (lss.take i).flatten)) (fun i => lss.length - i) (fun i ⟨hi', sB⟩ => ?_)
    0 ⟨Nat.zero_le _, by simpa using s⟩
  refine W.to (fun k _ => by rw [laws_markTreeFunS.L0_step]) ?_
  refine B.bind h.vlen (B.ite (fun hlt => ?_) fun hlt => ?_)
  rotate_left
  · rw [List.take_of_length_le (by omega)] at sB ⊢
    try simp only [q_bind_some, castInt_int, q_castBool, q_castStr, q_castPtr, q_castFn, q_castAgg, q_castTuple, q_uncons, q_isNil, q_sl, q_nils, q_emp, q_ptr, q_nilp, q_fn, q_cond_true, q_cond_false, Bool.not_true, Bool.not_false, decide_true, decide_false, List.cons_append, List.nil_append, laws_markTreeFunS.A0_x0]
    subst hG
    exact W.ret ⟨rfl, rfl, sB⟩
  have hil : i < lss.length := by omega
  have hx : lss[i]? = some lss[i] := List.getElem?_eq_getElem hil
  have hnext := flat_next hx
  have hle := flat_le hx
  generalize lss[i] = ls at hx hnext hle
  have hw0 := wrap_next hil hlen
  have hnx : A ++ (lss.take (i + 1)).flatten = (A ++ (lss.take i).flatten) ++ ls := by rw [hnext, List.append_assoc]
  have hBl : (A ++ (lss.take i).flatten).length = A.length + (lss.take i).flatten.length := List.length_append
  generalize A ++ (lss.take i).flatten = B0 at sB hnx hBl ⊢
  obtain ⟨r, o, hv, hP⟩ := h.at hx
  obtain ⟨v2, l2, v8, l8, f0, f1, c2, f2, f3, f4, f5, f6, f7, c8, f8, rfl⟩ := hP
  simp only [List.length_append, List.length_cons, List.length_nil] at hle
  have e0 : (B0 ++ [(MK.s, r, o + 0)]).length = B0.length + 1 := List.length_append
  try try simp only [q_bind_some, castInt_int, q_castBool, q_castStr, q_castPtr, q_castFn, q_castAgg, q_castTuple, q_uncons, q_isNil, q_sl, q_nils, q_emp, q_ptr, q_nilp, q_fn, q_cond_true, q_cond_false, Bool.not_true, Bool.not_false, decide_true, decide_false, List.cons_append, List.nil_append, hv]
  refine B.run (markText_runs (wrs σ n B0) (n := n + B0.length) (by omega) (by omega)) ?_
  try simp only [q_bind_some, castInt_int, q_castBool, q_castStr, q_castPtr, q_castFn, q_castAgg, q_castTuple, q_uncons, q_isNil, q_sl, q_nils, q_emp, q_ptr, q_nilp, q_fn, q_cond_true, q_cond_false, Bool.not_true, Bool.not_false, decide_true, decide_false, List.cons_append, List.nil_append]
  obtain ⟨p0, s0⟩ := put_s sB f0
  have x0 := nx (n := n) (A := B0) (MK.s, r, o + 0) (by omega)
  try simp only [q_bind_some, castInt_int, q_castBool, q_castStr, q_castPtr, q_castFn, q_castAgg, q_castTuple, q_uncons, q_isNil, q_sl, q_nils, q_emp, q_ptr, q_nilp, q_fn, q_cond_true, q_cond_false, Bool.not_true, Bool.not_false, decide_true, decide_false, List.cons_append, List.nil_append, hv, p0, x0]
  generalize hb0 : B0 ++ [(MK.s, r, o + 0)] = B1 at *
  have e1 : (B1 ++ [(MK.b, r, o + 1)]).length = B1.length + 1 := List.length_append
  obtain ⟨p1, s1⟩ := put_b s0 f1
  have x1 := nx (n := n) (A := B1) (MK.b, r, o + 1) (by omega)
  try simp only [q_bind_some, castInt_int, q_castBool, q_castStr, q_castPtr, q_castFn, q_castAgg, q_castTuple, q_uncons, q_isNil, q_sl, q_nils, q_emp, q_ptr, q_nilp, q_fn, q_cond_true, q_cond_false, Bool.not_true, Bool.not_false, decide_true, decide_false, List.cons_append, List.nil_append, hv, p1, x1]
  generalize hb1 : B1 ++ [(MK.b, r, o + 1)] = B2 at *
  have e2 : (B2 ++ l2.flatten).length = B2.length + l2.flatten.length := List.length_append
  have q2 := rdc_cell (c2.shp s1).1
  try simp only [q_bind_some, castInt_int, q_castBool, q_castStr, q_castPtr, q_castFn, q_castAgg, q_castTuple, q_uncons, q_isNil, q_sl, q_nils, q_emp, q_ptr, q_nilp, q_fn, q_cond_true, q_cond_false, Bool.not_true, Bool.not_false, decide_true, decide_false, List.cons_append, List.nil_append, hv, q2]
  obtain ⟨g2, s2⟩ := markTreeArgS_lv (A := B2) s1 f2 h1 (by omega)
  refine B.run g2 ?_
  try simp only [q_bind_some, castInt_int, q_castBool, q_castStr, q_castPtr, q_castFn, q_castAgg, q_castTuple, q_uncons, q_isNil, q_sl, q_nils, q_emp, q_ptr, q_nilp, q_fn, q_cond_true, q_cond_false, Bool.not_true, Bool.not_false, decide_true, decide_false, List.cons_append, List.nil_append]
  generalize hb2 : B2 ++ l2.flatten = B3 at *
  have e3 : (B3 ++ [(MK.i, r, o + 3)]).length = B3.length + 1 := List.length_append
  obtain ⟨p3, s3⟩ := put_i s2 f3
  have x3 := nx (n := n) (A := B3) (MK.i, r, o + 3) (by omega)
  try simp only [q_bind_some, castInt_int, q_castBool, q_castStr, q_castPtr, q_castFn, q_castAgg, q_castTuple, q_uncons, q_isNil, q_sl, q_nils, q_emp, q_ptr, q_nilp, q_fn, q_cond_true, q_cond_false, Bool.not_true, Bool.not_false, decide_true, decide_false, List.cons_append, List.nil_append, hv, p3, x3]
  generalize hb3 : B3 ++ [(MK.i, r, o + 3)] = B4 at *
  have e4 : (B4 ++ [(MK.i, r, o + 4 + 0)]).length = B4.length + 1 := List.length_append
  obtain ⟨p4, s4⟩ := put_i s3 f4
  have x4 := nx (n := n) (A := B4) (MK.i, r, o + 4 + 0) (by omega)
  try simp only [q_bind_some, castInt_int, q_castBool, q_castStr, q_castPtr, q_castFn, q_castAgg, q_castTuple, q_uncons, q_isNil, q_sl, q_nils, q_emp, q_ptr, q_nilp, q_fn, q_cond_true, q_cond_false, Bool.not_true, Bool.not_false, decide_true, decide_false, List.cons_append, List.nil_append, hv, p4, x4]
  generalize hb4 : B4 ++ [(MK.i, r, o + 4 + 0)] = B5 at *
  have e5 : (B5 ++ [(MK.i, r, o + 4 + 1)]).length = B5.length + 1 := List.length_append
  obtain ⟨p5, s5⟩ := put_i s4 f5
  have x5 := nx (n := n) (A := B5) (MK.i, r, o + 4 + 1) (by omega)
  try simp only [q_bind_some, castInt_int, q_castBool, q_castStr, q_castPtr, q_castFn, q_castAgg, q_castTuple, q_uncons, q_isNil, q_sl, q_nils, q_emp, q_ptr, q_nilp, q_fn, q_cond_true, q_cond_false, Bool.not_true, Bool.not_false, decide_true, decide_false, List.cons_append, List.nil_append, hv, p5, x5]
  generalize hb5 : B5 ++ [(MK.i, r, o + 4 + 1)] = B6 at *
  have e6 : (B6 ++ [(MK.s, r, o + 4 + 2)]).length = B6.length + 1 := List.length_append
  try try simp only [q_bind_some, castInt_int, q_castBool, q_castStr, q_castPtr, q_castFn, q_castAgg, q_castTuple, q_uncons, q_isNil, q_sl, q_nils, q_emp, q_ptr, q_nilp, q_fn, q_cond_true, q_cond_false, Bool.not_true, Bool.not_false, decide_true, decide_false, List.cons_append, List.nil_append, hv, p0, x0]
  refine B.run (markText_runs (wrs σ n B6) (n := n + B6.length) (by omega) (by omega)) ?_
  try simp only [q_bind_some, castInt_int, q_castBool, q_castStr, q_castPtr, q_castFn, q_castAgg, q_castTuple, q_uncons, q_isNil, q_sl, q_nils, q_emp, q_ptr, q_nilp, q_fn, q_cond_true, q_cond_false, Bool.not_true, Bool.not_false, decide_true, decide_false, List.cons_append, List.nil_append]
  obtain ⟨p6, s6⟩ := put_s s5 f6
  have x6 := nx (n := n) (A := B6) (MK.s, r, o + 4 + 2) (by omega)
  try simp only [q_bind_some, castInt_int, q_castBool, q_castStr, q_castPtr, q_castFn, q_castAgg, q_castTuple, q_uncons, q_isNil, q_sl, q_nils, q_emp, q_ptr, q_nilp, q_fn, q_cond_true, q_cond_false, Bool.not_true, Bool.not_false, decide_true, decide_false, List.cons_append, List.nil_append, hv, p6, x6]
  generalize hb6 : B6 ++ [(MK.s, r, o + 4 + 2)] = B7 at *
  have e7 : (B7 ++ [(MK.s, r, o + 4 + 3)]).length = B7.length + 1 := List.length_append
  try try simp only [q_bind_some, castInt_int, q_castBool, q_castStr, q_castPtr, q_castFn, q_castAgg, q_castTuple, q_uncons, q_isNil, q_sl, q_nils, q_emp, q_ptr, q_nilp, q_fn, q_cond_true, q_cond_false, Bool.not_true, Bool.not_false, decide_true, decide_false, List.cons_append, List.nil_append, hv, p6, x6]
  refine B.run (markText_runs (wrs σ n B7) (n := n + B7.length) (by omega) (by omega)) ?_
  try simp only [q_bind_some, castInt_int, q_castBool, q_castStr, q_castPtr, q_castFn, q_castAgg, q_castTuple, q_uncons, q_isNil, q_sl, q_nils, q_emp, q_ptr, q_nilp, q_fn, q_cond_true, q_cond_false, Bool.not_true, Bool.not_false, decide_true, decide_false, List.cons_append, List.nil_append]
  obtain ⟨p7, s7⟩ := put_s s6 f7
  have x7 := nx (n := n) (A := B7) (MK.s, r, o + 4 + 3) (by omega)
  try simp only [q_bind_some, castInt_int, q_castBool, q_castStr, q_castPtr, q_castFn, q_castAgg, q_castTuple, q_uncons, q_isNil, q_sl, q_nils, q_emp, q_ptr, q_nilp, q_fn, q_cond_true, q_cond_false, Bool.not_true, Bool.not_false, decide_true, decide_false, List.cons_append, List.nil_append, hv, p7, x7]
  generalize hb7 : B7 ++ [(MK.s, r, o + 4 + 3)] = B8 at *
  have e8 : (B8 ++ l8.flatten).length = B8.length + l8.flatten.length := List.length_append
  have q8 := rdc_cell (c8.shp s7).1
  try simp only [q_bind_some, castInt_int, q_castBool, q_castStr, q_castPtr, q_castFn, q_castAgg, q_castTuple, q_uncons, q_isNil, q_sl, q_nils, q_emp, q_ptr, q_nilp, q_fn, q_cond_true, q_cond_false, Bool.not_true, Bool.not_false, decide_true, decide_false, List.cons_append, List.nil_append, hv, q8]
  obtain ⟨g8, s8⟩ := markTreeExprS_lv (A := B8) s7 f8 h1 (by omega)
  refine B.run g8 ?_
  try simp only [q_bind_some, castInt_int, q_castBool, q_castStr, q_castPtr, q_castFn, q_castAgg, q_castTuple, q_uncons, q_isNil, q_sl, q_nils, q_emp, q_ptr, q_nilp, q_fn, q_cond_true, q_cond_false, Bool.not_true, Bool.not_false, decide_true, decide_false, List.cons_append, List.nil_append]
  generalize hb8 : B8 ++ l8.flatten = B9 at *
  have hfin : A ++ (lss.take (i + 1)).flatten = B9 := by
      rw [hnx, ← hb8, ← hb7, ← hb6, ← hb5, ← hb4, ← hb3, ← hb2, ← hb1, ← hb0]
      try simp only [List.append_assoc]
  refine W.again (i + 1) ⟨by omega, by rw [hfin]; exact s8⟩ (by omega) (by rw [hfin, hw0]) (by rw [hfin])
def PFaceSig (σ : Heap) (r o : Nat) (ls : List Leaf) : Prop := ∃ (v1 : V) (l1 : List (List Leaf)), Fl σ .s r (o + 0) ∧ Cl σ r (o + 1) v1 ∧ LvS 1 (PInt σ) σ v1 l1 ∧ Fl σ .i r (o + 2) ∧ ls = [(.s, r, o + 0)] ++ (l1.flatten ++ ([(.i, r, o + 2)]))
theorem PFaceSig.shp {σ σ' : Heap} (s : Shp σ σ') {r o : Nat} {ls : List Leaf} (h : PFaceSig σ r o ls) : PFaceSig σ' r o ls := by
  obtain ⟨v1, l1, h0, c1, h1, h2, rfl⟩ := h
  exact ⟨v1, l1, h0.shp s, c1.shp s, h1.mono s fun _ _ _ h => PInt.shp s h, h2.shp s, rfl⟩
theorem PFaceSig.cells {σ : Heap} {r o : Nat} {ls : List Leaf} (h : PFaceSig σ r o ls) : ∀ k r' o', (k, r', o') ∈ ls → cellAt σ r' o' ≠ none := fun k r' o' hm => by
      obtain ⟨v1, l1, h0, c1, h1, h2, rfl⟩ := h
      rcases List.mem_append.1 hm with hm | hm
      · exact (fun k r' o' hm => by
          simp at hm
          obtain ⟨rfl, rfl, rfl⟩ := hm
          exact h0.cell) k r' o' hm
      rcases List.mem_append.1 hm with hm | hm
      · exact (h1.cells fun _ _ _ h => PInt.cells h) k r' o' hm
      exact (fun k r' o' hm => by
        simp at hm
        obtain ⟨rfl, rfl, rfl⟩ := hm
        exact h2.cell) k r' o' hm
theorem PFaceSig.pos {σ : Heap} {r o : Nat} {ls : List Leaf} (h : PFaceSig σ r o ls) : 1 ≤ ls.length := by
  obtain ⟨v1, l1, f0, c1, f1, f2, rfl⟩ := h
  simp
theorem markFaceSigS_lv {σ0 σ : Heap} {n : Nat} {A : List Leaf} {v : V} {lss : List (List Leaf)} (s : Shp σ0 (wrs σ n A)) (h : LvS 3 (PFaceSig σ0) σ0 v lss) (h1 : 1 ≤ n) (h2 : n + A.length + lss.flatten.length ≤ 1099511627776) : Runs G n_laws_markFaceSigS [v, .int .i64 ((n + A.length : Nat) : Int)] (wrs σ n A) (.int .i64 ((n + (A ++ lss.flatten).length : Nat) : Int)) (wrs σ n (A ++ lss.flatten)) ∧ Shp σ0 (wrs σ n (A ++ lss.flatten)) := by
  suffices hE : HM.Ends G n_laws_markFaceSigS [v, .int .i64 ((n + A.length : Nat) : Int)] (wrs σ n A) (fun w σ' => w = .int .i64 ((n + (A ++ lss.flatten).length : Nat) : Int) ∧ σ' = wrs σ n (A ++ lss.flatten) ∧ Shp σ0 σ') by
    obtain ⟨w, σ', ⟨rfl, rfl, hs⟩, hr⟩ := hE
    exact ⟨hr, hs⟩
  have hlen : lss.length ≤ 4611686018427387904 := h.len_le (by omega) fun r o ls h => by
      have := PFaceSig.pos h
      omega
  refine HM.Ends.mk (W.to (fun k _ => laws_markFaceSigS.eq k _ _ _) ?_)
  generalize hG : (fun (w : V) (σ' : Heap) => w = .int .i64 ((n + (A ++ lss.flatten).length : Nat) : Int) ∧ σ' = wrs σ n (A ++ lss.flatten) ∧ Shp σ0 σ') = Good
  rw [← List.append_nil A]
  refine W.loop (S := Nat) (fun i => i ≤ lss.length ∧ Shp σ0 (wrs σ n (A ++ (lss.take i).flatten))) (fun i => [.v v, .v (.int .i64 ((n + (A ++ (lss.take i).flatten).length : Nat) : Int)), .v (.int .i64 (i : Int))]) (fun i => wrs σ n (A ++ (lss.take i).flatten)) (fun i => lss.length - i) (fun i ⟨hi', sB⟩ => ?_)
    0 ⟨Nat.zero_le _, by simpa using s⟩
  refine W.to (fun k _ => by rw [laws_markFaceSigS.L0_step]) ?_
  refine B.bind h.vlen (B.ite (fun hlt => ?_) fun hlt => ?_)
  rotate_left
  · rw [List.take_of_length_le (by omega)] at sB ⊢
    try simp only [q_bind_some, castInt_int, q_castBool, q_castStr, q_castPtr, q_castFn, q_castAgg, q_castTuple, q_uncons, q_isNil, q_sl, q_nils, q_emp, q_ptr, q_nilp, q_fn, q_cond_true, q_cond_false, Bool.not_true, Bool.not_false, decide_true, decide_false, List.cons_append, List.nil_append, laws_markFaceSigS.A0_x0]
    subst hG
    exact W.ret ⟨rfl, rfl, sB⟩
  have hil : i < lss.length := by omega
  have hx : lss[i]? = some lss[i] := List.getElem?_eq_getElem hil
  have hnext := flat_next hx
  have hle := flat_le hx
  generalize lss[i] = ls at hx hnext hle
  have hw0 := wrap_next hil hlen
  have hnx : A ++ (lss.take (i + 1)).flatten = (A ++ (lss.take i).flatten) ++ ls := by rw [hnext, List.append_assoc]
  have hBl : (A ++ (lss.take i).flatten).length = A.length + (lss.take i).flatten.length := List.length_append
  generalize A ++ (lss.take i).flatten = B0 at sB hnx hBl ⊢
  obtain ⟨r, o, hv, hP⟩ := h.at hx
  obtain ⟨v1, l1, f0, c1, f1, f2, rfl⟩ := hP
  simp only [List.length_append, List.length_cons, List.length_nil] at hle
  have e0 : (B0 ++ [(MK.s, r, o + 0)]).length = B0.length + 1 := List.length_append
  try try simp only [q_bind_some, castInt_int, q_castBool, q_castStr, q_castPtr, q_castFn, q_castAgg, q_castTuple, q_uncons, q_isNil, q_sl, q_nils, q_emp, q_ptr, q_nilp, q_fn, q_cond_true, q_cond_false, Bool.not_true, Bool.not_false, decide_true, decide_false, List.cons_append, List.nil_append, hv]
  refine B.run (markText_runs (wrs σ n B0) (n := n + B0.length) (by omega) (by omega)) ?_
  try simp only [q_bind_some, castInt_int, q_castBool, q_castStr, q_castPtr, q_castFn, q_castAgg, q_castTuple, q_uncons, q_isNil, q_sl, q_nils, q_emp, q_ptr, q_nilp, q_fn, q_cond_true, q_cond_false, Bool.not_true, Bool.not_false, decide_true, decide_false, List.cons_append, List.nil_append]
  obtain ⟨p0, s0⟩ := put_s sB f0
  have x0 := nx (n := n) (A := B0) (MK.s, r, o + 0) (by omega)
  try simp only [q_bind_some, castInt_int, q_castBool, q_castStr, q_castPtr, q_castFn, q_castAgg, q_castTuple, q_uncons, q_isNil, q_sl, q_nils, q_emp, q_ptr, q_nilp, q_fn, q_cond_true, q_cond_false, Bool.not_true, Bool.not_false, decide_true, decide_false, List.cons_append, List.nil_append, hv, p0, x0]
  generalize hb0 : B0 ++ [(MK.s, r, o + 0)] = B1 at *
  have e1 : (B1 ++ l1.flatten).length = B1.length + l1.flatten.length := List.length_append
  have q1 := rdc_cell (c1.shp s0).1
  try simp only [q_bind_some, castInt_int, q_castBool, q_castStr, q_castPtr, q_castFn, q_castAgg, q_castTuple, q_uncons, q_isNil, q_sl, q_nils, q_emp, q_ptr, q_nilp, q_fn, q_cond_true, q_cond_false, Bool.not_true, Bool.not_false, decide_true, decide_false, List.cons_append, List.nil_append, hv, q1]
  obtain ⟨g1, s1⟩ := markIntS_lv (A := B1) s0 f1 h1 (by omega)
  refine B.run g1 ?_
  try simp only [q_bind_some, castInt_int, q_castBool, q_castStr, q_castPtr, q_castFn, q_castAgg, q_castTuple, q_uncons, q_isNil, q_sl, q_nils, q_emp, q_ptr, q_nilp, q_fn, q_cond_true, q_cond_false, Bool.not_true, Bool.not_false, decide_true, decide_false, List.cons_append, List.nil_append]
  generalize hb1 : B1 ++ l1.flatten = B2 at *
  have e2 : (B2 ++ [(MK.i, r, o + 2)]).length = B2.length + 1 := List.length_append
  obtain ⟨p2, s2⟩ := put_i s1 f2
  have x2 := nx (n := n) (A := B2) (MK.i, r, o + 2) (by omega)
  try simp only [q_bind_some, castInt_int, q_castBool, q_castStr, q_castPtr, q_castFn, q_castAgg, q_castTuple, q_uncons, q_isNil, q_sl, q_nils, q_emp, q_ptr, q_nilp, q_fn, q_cond_true, q_cond_false, Bool.not_true, Bool.not_false, decide_true, decide_false, List.cons_append, List.nil_append, hv, p2, x2]
  generalize hb2 : B2 ++ [(MK.i, r, o + 2)] = B3 at *
  have hfin : A ++ (lss.take (i + 1)).flatten = B3 := by
      rw [hnx, ← hb2, ← hb1, ← hb0]
      try simp only [List.append_assoc]
  refine W.again (i + 1) ⟨by omega, by rw [hfin]; exact s2⟩ (by omega) (by rw [hfin, hw0]) (by rw [hfin])
def PTypeFace (σ : Heap) (r o : Nat) (ls : List Leaf) : Prop := ∃ (v1 : V) (l1 : List (List Leaf)), Fl σ .s r (o + 0) ∧ Cl σ r (o + 1) v1 ∧ LvS 3 (PFaceSig σ) σ v1 l1 ∧ ls = [(.s, r, o + 0)] ++ (l1.flatten)
theorem PTypeFace.shp {σ σ' : Heap} (s : Shp σ σ') {r o : Nat} {ls : List Leaf} (h : PTypeFace σ r o ls) : PTypeFace σ' r o ls := by
  obtain ⟨v1, l1, h0, c1, h1, rfl⟩ := h
  exact ⟨v1, l1, h0.shp s, c1.shp s, h1.mono s fun _ _ _ h => PFaceSig.shp s h, rfl⟩
theorem PTypeFace.cells {σ : Heap} {r o : Nat} {ls : List Leaf} (h : PTypeFace σ r o ls) : ∀ k r' o', (k, r', o') ∈ ls → cellAt σ r' o' ≠ none := fun k r' o' hm => by
      obtain ⟨v1, l1, h0, c1, h1, rfl⟩ := h
      rcases List.mem_append.1 hm with hm | hm
      · exact (fun k r' o' hm => by
          simp at hm
          obtain ⟨rfl, rfl, rfl⟩ := hm
          exact h0.cell) k r' o' hm
      exact (h1.cells fun _ _ _ h => PFaceSig.cells h) k r' o' hm
theorem PTypeFace.pos {σ : Heap} {r o : Nat} {ls : List Leaf} (h : PTypeFace σ r o ls) : 1 ≤ ls.length := by
  obtain ⟨v1, l1, f0, c1, f1, rfl⟩ := h
  simp
theorem markTypeFaceS_lv {σ0 σ : Heap} {n : Nat} {A : List Leaf} {v : V} {lss : List (List Leaf)} (s : Shp σ0 (wrs σ n A)) (h : LvS 2 (PTypeFace σ0) σ0 v lss) (h1 : 1 ≤ n) (h2 : n + A.length + lss.flatten.length ≤ 1099511627776) : Runs G n_laws_markTypeFaceS [v, .int .i64 ((n + A.length : Nat) : Int)] (wrs σ n A) (.int .i64 ((n + (A ++ lss.flatten).length : Nat) : Int)) (wrs σ n (A ++ lss.flatten)) ∧ Shp σ0 (wrs σ n (A ++ lss.flatten)) := by
  suffices hE : HM.Ends G n_laws_markTypeFaceS [v, .int .i64 ((n + A.length : Nat) : Int)] (wrs σ n A) (fun w σ' => w = .int .i64 ((n + (A ++ lss.flatten).length : Nat) : Int) ∧ σ' = wrs σ n (A ++ lss.flatten) ∧ Shp σ0 σ') by
    obtain ⟨w, σ', ⟨rfl, rfl, hs⟩, hr⟩ := hE
    exact ⟨hr, hs⟩
  have hlen : lss.length ≤ 4611686018427387904 := h.len_le (by omega) fun r o ls h => by
      have := PTypeFace.pos h
      omega
  refine HM.Ends.mk (W.to (fun k _ => laws_markTypeFaceS.eq k _ _ _) ?_)
  generalize hG : (fun (w : V) (σ' : Heap) => w = .int .i64 ((n + (A ++ lss.flatten).length : Nat) : Int) ∧ σ' = wrs σ n (A ++ lss.flatten) ∧ Shp σ0 σ') = Good
  rw [← List.append_nil A]
  refine W.loop (S := Nat) (fun i => i ≤ lss.length ∧ Shp σ0 (wrs σ n (A ++ (lss.take i).flatten))) (fun i => [.v v, .v (.int .i64 ((n + (A ++ (lss.take i).flatten).length : Nat) : Int)), .v (.int .i64 (i : Int))]) (fun i => wrs σ n (A ++ (lss.take i).flatten)) (fun i => lss.length - i) (fun i ⟨hi', sB⟩ => ?_)
    0 ⟨Nat.zero_le _, by simpa using s⟩
  refine W.to (fun k _ => by rw [laws_markTypeFaceS.L0_step]) ?_
  refine B.bind h.vlen (B.ite (fun hlt => ?_) fun hlt => ?_)
  rotate_left
  · rw [List.take_of_length_le (by omega)] at sB ⊢
    try simp only [q_bind_some, castInt_int, q_castBool, q_castStr, q_castPtr, q_castFn, q_castAgg, q_castTuple, q_uncons, q_isNil, q_sl, q_nils, q_emp, q_ptr, q_nilp, q_fn, q_cond_true, q_cond_false, Bool.not_true, Bool.not_false, decide_true, decide_false, List.cons_append, List.nil_append, laws_markTypeFaceS.A0_x0]
    subst hG
    exact W.ret ⟨rfl, rfl, sB⟩
  have hil : i < lss.length := by omega
  have hx : lss[i]? = some lss[i] := List.getElem?_eq_getElem hil
  have hnext := flat_next hx
  have hle := flat_le hx
  generalize lss[i] = ls at hx hnext hle
  have hw0 := wrap_next hil hlen
  have hnx : A ++ (lss.take (i + 1)).flatten = (A ++ (lss.take i).flatten) ++ ls := by rw [hnext, List.append_assoc]
  have hBl : (A ++ (lss.take i).flatten).length = A.length + (lss.take i).flatten.length := List.length_append
  generalize A ++ (lss.take i).flatten = B0 at sB hnx hBl ⊢
  obtain ⟨r, o, hv, hP⟩ := h.at hx
  obtain ⟨v1, l1, f0, c1, f1, rfl⟩ := hP
  simp only [List.length_append, List.length_cons, List.length_nil] at hle
  have e0 : (B0 ++ [(MK.s, r, o + 0)]).length = B0.length + 1 := List.length_append
  try try simp only [q_bind_some, castInt_int, q_castBool, q_castStr, q_castPtr, q_castFn, q_castAgg, q_castTuple, q_uncons, q_isNil, q_sl, q_nils, q_emp, q_ptr, q_nilp, q_fn, q_cond_true, q_cond_false, Bool.not_true, Bool.not_false, decide_true, decide_false, List.cons_append, List.nil_append, hv]
  refine B.run (markText_runs (wrs σ n B0) (n := n + B0.length) (by omega) (by omega)) ?_
  try simp only [q_bind_some, castInt_int, q_castBool, q_castStr, q_castPtr, q_castFn, q_castAgg, q_castTuple, q_uncons, q_isNil, q_sl, q_nils, q_emp, q_ptr, q_nilp, q_fn, q_cond_true, q_cond_false, Bool.not_true, Bool.not_false, decide_true, decide_false, List.cons_append, List.nil_append]
  obtain ⟨p0, s0⟩ := put_s sB f0
  have x0 := nx (n := n) (A := B0) (MK.s, r, o + 0) (by omega)
  try simp only [q_bind_some, castInt_int, q_castBool, q_castStr, q_castPtr, q_castFn, q_castAgg, q_castTuple, q_uncons, q_isNil, q_sl, q_nils, q_emp, q_ptr, q_nilp, q_fn, q_cond_true, q_cond_false, Bool.not_true, Bool.not_false, decide_true, decide_false, List.cons_append, List.nil_append, hv, p0, x0]
  generalize hb0 : B0 ++ [(MK.s, r, o + 0)] = B1 at *
  have e1 : (B1 ++ l1.flatten).length = B1.length + l1.flatten.length := List.length_append
  have q1 := rdc_cell (c1.shp s0).1
  try simp only [q_bind_some, castInt_int, q_castBool, q_castStr, q_castPtr, q_castFn, q_castAgg, q_castTuple, q_uncons, q_isNil, q_sl, q_nils, q_emp, q_ptr, q_nilp, q_fn, q_cond_true, q_cond_false, Bool.not_true, Bool.not_false, decide_true, decide_false, List.cons_append, List.nil_append, hv, q1]
  obtain ⟨g1, s1⟩ := markFaceSigS_lv (A := B1) s0 f1 h1 (by omega)
  refine B.run g1 ?_
  try simp only [q_bind_some, castInt_int, q_castBool, q_castStr, q_castPtr, q_castFn, q_castAgg, q_castTuple, q_uncons, q_isNil, q_sl, q_nils, q_emp, q_ptr, q_nilp, q_fn, q_cond_true, q_cond_false, Bool.not_true, Bool.not_false, decide_true, decide_false, List.cons_append, List.nil_append]
  generalize hb1 : B1 ++ l1.flatten = B2 at *
  have hfin : A ++ (lss.take (i + 1)).flatten = B2 := by
      rw [hnx, ← hb1, ← hb0]
      try simp only [List.append_assoc]
  refine W.again (i + 1) ⟨by omega, by rw [hfin]; exact s1⟩ (by omega) (by rw [hfin, hw0]) (by rw [hfin])
end Go.X
