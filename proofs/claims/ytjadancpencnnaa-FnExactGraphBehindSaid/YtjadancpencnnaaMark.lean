/- Marks of texts, and whether they are held. -/
import Derived.Test.YtjadancpencnnaaC
import Derived.Test.YtjadancpencnnaaEF0
import Derived.Test.YtjadancpencnnaaEF1
import Derived.Test.YtjadancpencnnaaEF2
import Derived.Test.YtjadancpencnnaaEF3
import Derived.Test.YtjadancpencnnaaHMMark
set_option linter.unusedVariables false
set_option linter.unusedSimpArgs false
namespace Go.A
open Go.HM Go.Proofs
def mByte (n : Nat) : ByteArray := ByteArray.empty.push (UInt8.ofNat (IntKind.wrap .u8 (IntKind.wrap .i64 (48 + Int.tmod (n : Int) 10))).toNat)
def mDig (n : Nat) (s : ByteArray) : ByteArray := if h : n = 0 then s else mDig (n / 10) (mByte n ++ s)
termination_by n
decreasing_by omega
def mText (n : Nat) : ByteArray := (⟨#[109]⟩ : ByteArray) ++ mDig n ⟨#[]⟩
theorem markText_runs (σ : Heap) {n : Nat} (h1 : 1 ≤ n) (h2 : n ≤ 1099511627776) : Runs G n_laws_markText [.int .i64 (n : Int)] σ (.str (mText n)) σ := by
  have e62 : (2 : Nat) ^ 62 = 4611686018427387904 := by decide
  refine Runs.of (W.to (fun k _ => laws_markText.eq k _ _) ?_)
  refine W.ite (fun h => absurd h (by omega)) fun _ => ?_
  refine W.loop (S := Nat × ByteArray) (fun s => s.2.size + s.1 ≤ n ∧ mDig s.1 s.2 = mDig n ⟨#[]⟩) (fun s => [.v (.int .i64 (s.1 : Int)), .v (.str s.2)]) (fun _ => σ) (fun s => s.1) (fun ⟨m, s⟩ ⟨hs, hd⟩ => ?_)
    (n, ⟨#[]⟩) ⟨Nat.le_of_eq (by show 0 + n = n; omega), rfl⟩
  simp only at hs hd ⊢
  refine W.to (fun k _ => by rw [laws_markText.L0_step]) ?_
  refine B.ite (fun h0 => ?_) fun h0 => ?_
  · have hm : m ≠ 0 := by omega
    have hb : bytesOf [.int .u8 (IntKind.wrap .u8 (IntKind.wrap .i64 (48 + Int.tmod (m : Int) 10)))] .empty = some (mByte m) := rfl
    refine B.bind hb ?_
    have hsz : (mByte m).size = 1 := rfl
    refine B.iff (fun hx => ?_) fun hx => absurd (by rw [hsz, e62]; omega) hx
    have hdiv : IntKind.wrap .i64 (Int.tdiv (m : Int) 10) = ((m / 10 : Nat) : Int) := by
      have : Int.tdiv (m : Int) 10 = ((m / 10 : Nat) : Int) := rfl
      rw [this, wrap_id (by omega) (by omega)]
    refine W.again (m / 10, mByte m ++ s) ⟨?_, ?_⟩ (by simp only; omega) (by rw [hdiv]) rfl
    · simp only [ByteArray.size_append, hsz]; omega
    · simp only
      rw [← hd]
      conv => rhs; rw [mDig, dif_neg hm]
  · have hm : m = 0 := by omega
    try simp only [q_bind_some, castInt_int, q_castBool, q_castStr, q_castPtr, q_castFn, q_castAgg, q_castTuple, q_uncons, q_isNil, q_sl, q_nils, q_emp, q_ptr, q_nilp, q_fn, q_cond_true, q_cond_false, Bool.not_true, Bool.not_false, decide_true, decide_false, List.cons_append, List.nil_append, laws_markText.A0_x0]
    have hsz : (⟨#[109]⟩ : ByteArray).size = 1 := rfl
    refine W.iff (fun hx => W.ret ⟨?_, rfl⟩) fun hx => absurd (by rw [hsz, e62]; omega) hx
    rw [mText, ← hd, hm, mDig, dif_pos rfl]
/-- Texts in a window are marked. -/
theorem markStringS_ends {lo hi : Nat} {σ : Heap} {v : V} {l : List ByteArray} (h : RepS 1 StrSh (win lo hi σ) v l) {n : Nat} (h1 : 1 ≤ n) (h2 : n + l.length ≤ 1099511627776) :
    ∃ σ', Runs G n_laws_markStringS [v, .int .i64 (n : Int)] σ (.int .i64 ((n + l.length : Nat) : Int)) σ' ∧ Sm lo hi σ σ' := by
  suffices hE : HM.Ends G n_laws_markStringS [v, .int .i64 (n : Int)] σ (fun w σ' => w = .int .i64 ((n + l.length : Nat) : Int) ∧ Sm lo hi σ σ') by
    obtain ⟨w, σ', ⟨rfl, hp⟩, hr⟩ := hE
    exact ⟨σ', hr, hp⟩
  refine HM.Ends.mk (W.to (fun k _ => laws_markStringS.eq k _ _ _) ?_)
  refine W.loop (S := Nat × Heap) (fun s => s.1 ≤ l.length ∧ Sm lo hi σ s.2) (fun s => [.v v, .v (.int .i64 ((n + s.1 : Nat) : Int)), .v (.int .i64 (s.1 : Int))]) (fun s => s.2) (fun s => l.length - s.1) (fun ⟨i, σi⟩ ⟨hi', hs⟩ => ?_)
    (0, σ) ⟨Nat.zero_le _, Sm.refl _ _ _⟩
  simp only at hi' hs ⊢
  refine W.to (fun k _ => by rw [laws_markStringS.L0_step]) ?_
  refine B.len h (B.ite (fun hlt => ?_) fun hlt => ?_)
  · have hil : i < l.length := by omega
    have hx : l[i]? = some l[i] := List.getElem?_eq_getElem hil
    generalize l[i] = x at hx
    obtain ⟨r, o, hv, ⟨cs, hr, hP⟩, hw⟩ := h.wat hx
    obtain ⟨s, rfl⟩ := hP
    refine B.run (markText_runs σi (n := n + i) (by omega) (by omega)) ?_
    try simp only [q_bind_some, castInt_int, q_castBool, q_castStr, q_castPtr, q_castFn, q_castAgg, q_castTuple, q_uncons, q_isNil, q_sl, q_nils, q_emp, q_ptr, q_nilp, q_fn, q_cond_true, q_cond_false, Bool.not_true, Bool.not_false, decide_true, decide_false, List.cons_append, List.nil_append]
    obtain ⟨cs1, hr1, hc1⟩ := hs.rdc hr
    obtain ⟨t, rfl⟩ := csame_str hc1
    obtain ⟨σ2, hw2, hs2⟩ := hw σi hs 0 [.str (mText (n + i))] _ hr1 (by simp) ⟨rfl, fun j x y hx hy => by
      cases j with
      | zero => simp at hx hy; subst hx hy; trivial
      | succ j => simp at hy⟩
    rw [Nat.add_zero] at hw2
    try simp only [q_bind_some, castInt_int, q_castBool, q_castStr, q_castPtr, q_castFn, q_castAgg, q_castTuple, q_uncons, q_isNil, q_sl, q_nils, q_emp, q_ptr, q_nilp, q_fn, q_cond_true, q_cond_false, Bool.not_true, Bool.not_false, decide_true, decide_false, List.cons_append, List.nil_append, hv, hw2]
    have e1 : IntKind.wrap .i64 (((n + i : Nat) : Int) + 1) = ((n + (i + 1) : Nat) : Int) := by rw [wrap_id (by omega) (by omega)]; omega
    exact W.again (i + 1, σ2) ⟨by show i + 1 ≤ l.length; omega, hs.trans hs2⟩ (by simp only; omega) (by rw [e1, wrap_next hil (by omega)]) rfl
  · have : i = l.length := by omega
    subst this
    try simp only [q_bind_some, castInt_int, q_castBool, q_castStr, q_castPtr, q_castFn, q_castAgg, q_castTuple, q_uncons, q_isNil, q_sl, q_nils, q_emp, q_ptr, q_nilp, q_fn, q_cond_true, q_cond_false, Bool.not_true, Bool.not_false, decide_true, decide_false, List.cons_append, List.nil_append, laws_markStringS.A0_x0]
    exact W.ret ⟨rfl, hs⟩
/-- The marks of a list that is so long. -/
def marks : Nat → Nat → List ByteArray
  | _, 0 => []
  | n, k + 1 => mText n :: marks (n + 1) k
theorem marks_length : ∀ n k, (marks n k).length = k
  | _, 0 => rfl
  | n, k + 1 => by rw [marks, List.length_cons, marks_length]
theorem marks_get : ∀ (k n i : Nat), i < k → (marks n k)[i]? = some (mText (n + i))
  | k + 1, n, 0, _ => rfl
  | k + 1, n, i + 1, h => by
    rw [marks, List.getElem?_cons_succ, marks_get k (n + 1) i (by omega)]
    congr 2
    omega
/-- A list of texts of one's own is marked: it holds the marks. -/
theorem markOwn_ends {σ : Heap} {q : Nat} {lim : Bool} {l : List ByteArray} (h : StrRow σ q l) {n : Nat} (h1 : 1 ≤ n) (h2 : n + l.length ≤ 1099511627776) :
    ∃ σ', Runs G n_laws_markStringS [.sl q 0 l.length lim, .int .i64 (n : Int)] σ (.int .i64 ((n + l.length : Nat) : Int)) σ' ∧ StrRow σ' q (marks n l.length) ∧ σ'.length = σ.length ∧ ∀ j, j ≠ q → σ'[j]? = σ[j]? := by
  suffices hE : HM.Ends G n_laws_markStringS [.sl q 0 l.length lim, .int .i64 (n : Int)] σ (fun w σ' => w = .int .i64 ((n + l.length : Nat) : Int) ∧ StrRow σ' q (marks n l.length) ∧ σ'.length = σ.length ∧ ∀ j, j ≠ q → σ'[j]? = σ[j]?) by
    obtain ⟨w, σ', ⟨rfl, hp⟩, hr⟩ := hE
    exact ⟨σ', hr, hp⟩
  refine HM.Ends.mk (W.to (fun k _ => laws_markStringS.eq k _ _ _) ?_)
  refine W.loop (S := Nat × List ByteArray × Heap) (fun s => s.1 ≤ l.length ∧ s.2.1.length = l.length ∧ StrRow s.2.2 q s.2.1 ∧ (∀ j, j < s.1 → s.2.1[j]? = some (mText (n + j))) ∧ s.2.2.length = σ.length ∧ ∀ j, j ≠ q → s.2.2[j]? = σ[j]?)
    (fun s => [.v (.sl q 0 l.length lim), .v (.int .i64 ((n + s.1 : Nat) : Int)), .v (.int .i64 (s.1 : Int))]) (fun s => s.2.2) (fun s => l.length - s.1) (fun ⟨i, l', σi⟩ ⟨hi, hll, hS, hm, hlen, hk⟩ => ?_)
    (0, l, σ) ⟨Nat.zero_le _, rfl, h, fun j hj => absurd hj (Nat.not_lt_zero _), rfl, fun _ _ => rfl⟩
  simp only at hi hll hS hm hlen hk ⊢
  refine W.to (fun k _ => by rw [laws_markStringS.L0_step]) ?_
  have hvl : vlen (.sl q 0 l.length lim) = some l.length := rfl
  refine B.bind hvl (B.ite (fun hlt => ?_) fun hlt => ?_)
  · have hil : i < l.length := by omega
    have hv : vidx 1 (.sl q 0 l.length lim) (i : Int) = some (q, i) := by simp [vidx, hil]
    refine B.run (markText_runs σi (n := n + i) (by omega) (by omega)) ?_
    try simp only [q_bind_some, castInt_int, q_castBool, q_castStr, q_castPtr, q_castFn, q_castAgg, q_castTuple, q_uncons, q_isNil, q_sl, q_nils, q_emp, q_ptr, q_nilp, q_fn, q_cond_true, q_cond_false, Bool.not_true, Bool.not_false, decide_true, decide_false, List.cons_append, List.nil_append]
    obtain ⟨σ2, hw2, hS2, hl2, hk2⟩ := hS.put (by omega : i < l'.length) (mText (n + i))
    try simp only [q_bind_some, castInt_int, q_castBool, q_castStr, q_castPtr, q_castFn, q_castAgg, q_castTuple, q_uncons, q_isNil, q_sl, q_nils, q_emp, q_ptr, q_nilp, q_fn, q_cond_true, q_cond_false, Bool.not_true, Bool.not_false, decide_true, decide_false, List.cons_append, List.nil_append, hv, hw2]
    have e1 : IntKind.wrap .i64 (((n + i : Nat) : Int) + 1) = ((n + (i + 1) : Nat) : Int) := by rw [wrap_id (by omega) (by omega)]; omega
    refine W.again (i + 1, l'.set i (mText (n + i)), σ2) ⟨by show i + 1 ≤ l.length; omega, by simpa using hll, hS2, fun j hj => ?_, by simp only; omega, fun j hj => by simp only; rw [hk2 j hj, hk j hj]⟩ (by simp only; omega) (by rw [e1, wrap_next hil (by omega)]) rfl
    simp only at hj ⊢
    rw [List.getElem?_set]
    by_cases hij : i = j
    · subst hij
      rw [if_pos rfl, if_pos (by omega)]
    · rw [if_neg hij]
      exact hm j (by omega)
  · have : i = l.length := by omega
    subst this
    try simp only [q_bind_some, castInt_int, q_castBool, q_castStr, q_castPtr, q_castFn, q_castAgg, q_castTuple, q_uncons, q_isNil, q_sl, q_nils, q_emp, q_ptr, q_nilp, q_fn, q_cond_true, q_cond_false, Bool.not_true, Bool.not_false, decide_true, decide_false, List.cons_append, List.nil_append, laws_markStringS.A0_x0]
    refine W.ret ⟨rfl, ?_, hlen, hk⟩
    have : l' = marks n l.length := by
      apply List.ext_getElem?
      intro j
      rcases Nat.lt_or_ge j l.length with hj | hj
      · rw [hm j hj, marks_get _ _ _ hj]
      · rw [List.getElem?_eq_none (by omega), List.getElem?_eq_none (by rw [marks_length]; omega)]
    rw [← this]; exact hS
theorem held_runs {σ : Heap} {v : V} {n k : Nat} (h : RepS 1 StrRep σ v (marks n k)) (h1 : 1 ≤ n) (h2 : n + k ≤ 1099511627776) : Runs G n_laws_heldStringS [v, .int .i64 (n : Int)] σ (.int .i64 ((n + k : Nat) : Int)) σ := by
  have hl := marks_length n k
  refine Runs.of (W.to (fun k _ => laws_heldStringS.eq k _ _ _) ?_)
  refine W.loop (S := Nat) (fun i => i ≤ k) (fun i => [.v v, .v (.int .i64 ((n + i : Nat) : Int)), .v (.int .i64 (i : Int))]) (fun _ => σ) (fun i => k - i) (fun i hi => ?_) 0 (Nat.zero_le _)
  refine W.to (fun k _ => by rw [laws_heldStringS.L0_step]) ?_
  refine B.len h (B.ite (fun hlt => ?_) fun hlt => ?_)
  · have hil : i < k := by omega
    refine B.at h (Lh.refl _) (by omega) fun r o cs x hx hr hP => ?_
    rw [marks_get _ _ _ hil] at hx
    injection hx with hx
    unfold StrRep at hP
    subst hP hx
    try simp only [q_bind_some, castInt_int, q_castBool, q_castStr, q_castPtr, q_castFn, q_castAgg, q_castTuple, q_uncons, q_isNil, q_sl, q_nils, q_emp, q_ptr, q_nilp, q_fn, q_cond_true, q_cond_false, Bool.not_true, Bool.not_false, decide_true, decide_false, List.cons_append, List.nil_append, hr]
    refine B.run (markText_runs _ (n := n + i) (by omega) (by omega)) ?_
    try simp only [q_bind_some, castInt_int, q_castBool, q_castStr, q_castPtr, q_castFn, q_castAgg, q_castTuple, q_uncons, q_isNil, q_sl, q_nils, q_emp, q_ptr, q_nilp, q_fn, q_cond_true, q_cond_false, Bool.not_true, Bool.not_false, decide_true, decide_false, List.cons_append, List.nil_append, unprot0]
    have e1 : IntKind.wrap .i64 (((n + i : Nat) : Int) + 1) = ((n + (i + 1) : Nat) : Int) := by rw [wrap_id (by omega) (by omega)]; omega
    exact W.again (i + 1) (by show i + 1 ≤ k; omega) (by omega) (by rw [e1, wrap_next hil (by omega)]) rfl
  · have : i = k := by omega
    subst this
    try simp only [q_bind_some, castInt_int, q_castBool, q_castStr, q_castPtr, q_castFn, q_castAgg, q_castTuple, q_uncons, q_isNil, q_sl, q_nils, q_emp, q_ptr, q_nilp, q_fn, q_cond_true, q_cond_false, Bool.not_true, Bool.not_false, decide_true, decide_false, List.cons_append, List.nil_append, laws_heldStringS.A0_x0]
    exact W.ret ⟨rfl, rfl⟩
end Go.A
