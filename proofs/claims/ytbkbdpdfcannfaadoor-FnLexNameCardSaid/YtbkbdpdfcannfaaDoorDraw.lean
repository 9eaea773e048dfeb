/- The draws: a number below n, one of a list of texts. -/
import Derived.Test.YtbkbdpdfcannfaaDoorN
import Derived.Test.YtbkbdpdfcannfaaDoorHMMark
set_option linter.unusedVariables false
set_option linter.unusedSimpArgs false
namespace Go.L
open Go.HM Go.Proofs
def U8P (cs : List V) (n : Int) : Prop := cs = [.int .u8 n]
/-- A reader of drawn bytes. -/
def Dr (u : V) (l : List Int) (σ : Heap) (r p : Nat) : Prop := ∃ ty, σ[r]? = some (some ⟨[u, .int .i64 (p : Int)], 2, false, ty⟩) ∧ RepS 1 U8P σ u l ∧ (∀ x, x ∈ l → 0 ≤ x ∧ x ≤ 255) ∧ l.length ≤ 2000
/-- Nothing but row r has changed. -/
def Off (r : Nat) (σ σ' : Heap) : Prop := σ'.length = σ.length ∧ ∀ j, j ≠ r → σ'[j]? = σ[j]?
theorem Off.refl (r : Nat) (σ : Heap) : Off r σ σ := ⟨rfl, fun _ _ => rfl⟩
theorem Off.trans {r : Nat} {a b c : Heap} (h : Off r a b) (g : Off r b c) : Off r a c := ⟨g.1.trans h.1, fun j hj => (g.2 j hj).trans (h.2 j hj)⟩
theorem RepS.off {α : Type} {P : List V → α → Prop} {σ σ' : Heap} {r : Nat} {v : V} {l : List α} {row : Row} (hr : σ[r]? = some (some row)) (he : row.esz ≠ 1) (h : RepS 1 P σ v l) (o : Off r σ σ') : RepS 1 P σ' v l := by
  cases h with
  | nils => exact .nils
  | emp => exact .emp
  | sl q o' n lim row' l h1 h2 h3 h4 h5 =>
    refine .sl q o' n lim row' l h1 ?_ h3 h4 h5
    rw [o.2 q (fun hc => by subst hc; rw [hr] at h2; injection h2 with h2; injection h2 with h2; subst h2; exact he h3)]
    exact h2
theorem Dr.row {u : V} {l : List Int} {σ : Heap} {r p : Nat} (h : Dr u l σ r p) : ∃ row, σ[r]? = some (some row) ∧ row.esz = 2 := by
  obtain ⟨ty, h, _⟩ := h
  exact ⟨_, h, rfl⟩
theorem Dr.off {α : Type} {P : List V → α → Prop} {u : V} {k : List Int} {σ σ' : Heap} {r p : Nat} {v : V} {l : List α} (d : Dr u k σ r p) (h : RepS 1 P σ v l) (o : Off r σ σ') : RepS 1 P σ' v l := by
  obtain ⟨row, hr, he⟩ := d.row
  exact RepS.off hr (by omega) h o
theorem Dr.le {u : V} {l : List Int} {σ σ' : Heap} {r p : Nat} (d : Dr u l σ r p) (h : Lh σ σ') : Dr u l σ' r p := by
  obtain ⟨ty, h1, h2, h3⟩ := d
  exact ⟨ty, h.row _ _ h1, h2.le h, h3⟩
theorem xor_ok {a b : Int} (h1 : 0 ≤ a) (h2 : a ≤ 4611686018427387904) (h3 : 0 ≤ b) (h4 : b ≤ 4611686018427387904) : 0 ≤ IntKind.wrap .i64 (((BitVec.ofInt (IntKind.bits .i64) a ^^^ BitVec.ofInt (IntKind.bits .i64) b).toNat : Nat) : Int) := by
  have hb : IntKind.bits .i64 = 64 := rfl
  have e1 : (BitVec.ofInt (IntKind.bits .i64) a ^^^ BitVec.ofInt (IntKind.bits .i64) b).toNat < 2 ^ 63 := by
    rw [hb, BitVec.toNat_xor]
    apply Nat.xor_lt_two_pow
    · rw [BitVec.toNat_ofInt]; omega
    · rw [BitVec.toNat_ofInt]; omega
  rw [wrap_id (by omega) (by omega)]
  omega
theorem tmod_ok {y : Int} {n : Nat} (hy : 0 ≤ y) (hn : 1 ≤ n) : ∃ i : Nat, Int.tmod y (n : Int) = (i : Int) ∧ i < n := by
  have h1 := Int.tmod_nonneg (n : Int) hy
  have h2 := Int.tmod_lt_of_pos y (show (0 : Int) < (n : Int) by omega)
  exact ⟨(Int.tmod y (n : Int)).toNat, by omega, by omega⟩
theorem pick_ends {u : V} {l : List Int} {σ : Heap} {r p n : Nat} (d : Dr u l σ r p) (hp : p ≤ 1000000) (hn : 1 ≤ n) (hn2 : n ≤ 1000000) :
    ∃ (i : Nat) (σ' : Heap), Runs G n_pspec_l23Rd_pick [.ptr r 0, .int .i64 (n : Int)] σ (.int .i64 (i : Int)) σ' ∧ i < n ∧ Dr u l σ' r (p + 1) ∧ Off r σ σ' := by
  suffices hE : HM.Ends G n_pspec_l23Rd_pick [.ptr r 0, .int .i64 (n : Int)] σ (fun w σ' => ∃ i : Nat, w = .int .i64 (i : Int) ∧ i < n ∧ Dr u l σ' r (p + 1) ∧ Off r σ σ') by
    obtain ⟨w, σ', ⟨i, rfl, hp⟩, hr⟩ := hE
    exact ⟨i, σ', hr, hp⟩
  obtain ⟨ty, hrow, hu, hl, hlen⟩ := d
  refine HM.Ends.mk (W.to (fun k _ => pspec_l23Rd_pick.eq k _ _ _) ?_)
  have hlt := get_lt hrow
  have e1 : rdc σ r (0 + 1) 1 = some [.int .i64 (p : Int)] := by simp [rdc, hrow]
  have ew : IntKind.wrap .i64 ((p : Int) + 1) = ((p + 1 : Nat) : Int) := by rw [wrap_id (by omega) (by omega)]; omega
  let σ' : Heap := σ.set r (some ⟨[u, .int .i64 ((p + 1 : Nat) : Int)], 2, false, ty⟩)
  have hw : wrc σ r (0 + 1) [.int .i64 ((p + 1 : Nat) : Int)] = some σ' := by simp [wrc, hrow, setCells, σ']
  have hrow' : σ'[r]? = some (some ⟨[u, .int .i64 ((p + 1 : Nat) : Int)], 2, false, ty⟩) := by simp [σ', hlt]
  have ho : Off r σ σ' := ⟨by simp [σ'], fun j hj => by simp only [σ']; rw [List.getElem?_set, if_neg (Ne.symm hj)]⟩
  have hu' : RepS 1 U8P σ' u l := RepS.off hrow (by simp) hu ho
  have hd : Dr u l σ' r (p + 1) := ⟨ty, hrow', hu', hl, hlen⟩
  have f1 : rdc σ' r (0 + 1) 1 = some [.int .i64 ((p + 1 : Nat) : Int)] := by simp [rdc, hrow']
  have f0 : rdc σ' r (0 + 0) 1 = some [u] := by simp [rdc, hrow']
  clear_value σ'
  try simp only [q_bind_some, castInt_int, q_castBool, q_castStr, q_castPtr, q_castFn, q_castAgg, q_castTuple, q_uncons, q_isNil, q_sl, q_nils, q_emp, q_ptr, q_nilp, q_fn, q_cond_true, q_cond_false, Bool.not_true, Bool.not_false, decide_true, decide_false, List.cons_append, List.nil_append, e1, ew, hw]
  refine W.ite (fun hx => absurd hx (by omega)) fun _ => ?_
  try simp only [q_bind_some, castInt_int, q_castBool, q_castStr, q_castPtr, q_castFn, q_castAgg, q_castTuple, q_uncons, q_isNil, q_sl, q_nils, q_emp, q_ptr, q_nilp, q_fn, q_cond_true, q_cond_false, Bool.not_true, Bool.not_false, decide_true, decide_false, List.cons_append, List.nil_append, f0]
  refine W.len hu' ?_
  refine W.ite (fun _ => W.ret ⟨0, rfl, by omega, hd, ho⟩) fun hl0 => ?_
  have hl1 : 1 ≤ l.length := by omega
  have ep : IntKind.wrap .i64 (((p + 1 : Nat) : Int) - 1) = (p : Int) := by rw [wrap_id (by omega) (by omega)]; omega
  try simp only [q_bind_some, castInt_int, q_castBool, q_castStr, q_castPtr, q_castFn, q_castAgg, q_castTuple, q_uncons, q_isNil, q_sl, q_nils, q_emp, q_ptr, q_nilp, q_fn, q_cond_true, q_cond_false, Bool.not_true, Bool.not_false, decide_true, decide_false, List.cons_append, List.nil_append, f1, f0, ep]
  refine W.len hu' ?_
  have byte : ∀ (i : Nat), i < l.length → ∃ r' o x, vidx 1 u (i : Int) = some (r', o) ∧ rdc σ' r' o 1 = some [.int .u8 x] ∧ 0 ≤ x ∧ x ≤ 255 := fun i hi => by
    obtain ⟨r', o, h1, cs, h2, h3⟩ := hu'.at' (List.getElem?_eq_getElem hi)
    unfold U8P at h3
    subst h3
    have := hl _ (List.getElem_mem hi)
    exact ⟨r', o, _, h1, h2, this⟩
  have hn0 : ¬ ((n : Int) = 0) := by omega
  refine W.ite (fun hpl => ?_) fun hpl => ?_
  · obtain ⟨r', o, x, h1, h2, h3, h4⟩ := byte p (by omega)
    try simp only [q_bind_some, castInt_int, q_castBool, q_castStr, q_castPtr, q_castFn, q_castAgg, q_castTuple, q_uncons, q_isNil, q_sl, q_nils, q_emp, q_ptr, q_nilp, q_fn, q_cond_true, q_cond_false, Bool.not_true, Bool.not_false, decide_true, decide_false, List.cons_append, List.nil_append, h1, h2]
    refine W.iff (fun hx => absurd hx hn0) fun _ => ?_
    obtain ⟨i, hi, hin⟩ := tmod_ok (y := IntKind.wrap .i64 x) (n := n) (by rw [wrap_id (by omega) (by omega)]; exact h3) hn
    rw [hi]
    exact W.ret ⟨i, rfl, hin, hd, ho⟩
  · refine W.len hu' ?_
    have hk0 : ¬ ((l.length : Int) = 0) := by omega
    refine W.iff (fun hx => absurd hx hk0) fun _ => ?_
    obtain ⟨i1, hi1, hin1⟩ := tmod_ok (y := (p : Int)) (n := l.length) (by omega) hl1
    obtain ⟨r1, o1, x1, a1, a2, a3, a4⟩ := byte i1 hin1
    rw [hi1]
    try simp only [q_bind_some, castInt_int, q_castBool, q_castStr, q_castPtr, q_castFn, q_castAgg, q_castTuple, q_uncons, q_isNil, q_sl, q_nils, q_emp, q_ptr, q_nilp, q_fn, q_cond_true, q_cond_false, Bool.not_true, Bool.not_false, decide_true, decide_false, List.cons_append, List.nil_append, a1, a2, f0]
    refine W.len hu' ?_
    refine W.iff (fun hx => absurd hx hk0) fun _ => ?_
    have e7 : IntKind.wrap .i64 ((p : Int) * 7) = (p : Int) * 7 := wrap_id (by omega) (by omega)
    have e73 : IntKind.wrap .i64 ((p : Int) * 7 + 3) = (p : Int) * 7 + 3 := wrap_id (by omega) (by omega)
    obtain ⟨i2, hi2, hin2⟩ := tmod_ok (y := (p : Int) * 7 + 3) (n := l.length) (by omega) hl1
    obtain ⟨r2, o2, x2, b1, b2, b3, b4⟩ := byte i2 hin2
    rw [e7, e73, hi2]
    try simp only [q_bind_some, castInt_int, q_castBool, q_castStr, q_castPtr, q_castFn, q_castAgg, q_castTuple, q_uncons, q_isNil, q_sl, q_nils, q_emp, q_ptr, q_nilp, q_fn, q_cond_true, q_cond_false, Bool.not_true, Bool.not_false, decide_true, decide_false, List.cons_append, List.nil_append, b1, b2, f0]
    refine W.len hu' ?_
    refine W.iff (fun hx => absurd hx hk0) fun _ => ?_
    refine W.iff (fun hx => absurd hx hn0) fun _ => ?_
    have hq0 : 0 ≤ Int.tdiv (p : Int) (l.length : Int) := Int.tdiv_nonneg (by omega) (by omega)
    have hq1 : Int.tdiv (p : Int) (l.length : Int) ≤ (p : Int) := Int.tdiv_le_self _ (by omega)
    generalize Int.tdiv (p : Int) (l.length : Int) = q at hq0 hq1 ⊢
    have w1 : IntKind.wrap .i64 x1 = x1 := wrap_id (by omega) (by omega)
    have w2 : IntKind.wrap .i64 x2 = x2 := wrap_id (by omega) (by omega)
    have w3 : IntKind.wrap .i64 (x1 * 131) = x1 * 131 := wrap_id (by omega) (by omega)
    have w4 : IntKind.wrap .i64 (x2 * 1117) = x2 * 1117 := wrap_id (by omega) (by omega)
    have w5 : IntKind.wrap .i64 (x1 * 131 + x2 * 1117) = x1 * 131 + x2 * 1117 := wrap_id (by omega) (by omega)
    have w6 : IntKind.wrap .i64 ((p : Int) * 29) = (p : Int) * 29 := wrap_id (by omega) (by omega)
    have w7 : IntKind.wrap .i64 (x1 * 131 + x2 * 1117 + (p : Int) * 29) = x1 * 131 + x2 * 1117 + (p : Int) * 29 := wrap_id (by omega) (by omega)
    have w8 : IntKind.wrap .i64 q = q := wrap_id (by omega) (by omega)
    have w9 : IntKind.wrap .i64 (q * 53) = q * 53 := wrap_id (by omega) (by omega)
    have w10 : IntKind.wrap .i64 (x1 * 131 + x2 * 1117 + (p : Int) * 29 + q * 53) = x1 * 131 + x2 * 1117 + (p : Int) * 29 + q * 53 := wrap_id (by omega) (by omega)
    rw [w1, w2, w3, w4, w5, w6, w7, w8, w9, w10]
    have hx0 : 0 ≤ x1 * 131 + x2 * 1117 + (p : Int) * 29 + q * 53 := by omega
    have hx1 : x1 * 131 + x2 * 1117 + (p : Int) * 29 + q * 53 ≤ 1099511627776 := by omega
    generalize x1 * 131 + x2 * 1117 + (p : Int) * 29 + q * 53 = x at hx0 hx1 ⊢
    have hd0 : 0 ≤ Int.tdiv x 64 := Int.tdiv_nonneg hx0 (by omega)
    have hd1 : Int.tdiv x 64 ≤ x := Int.tdiv_le_self _ hx0
    have wd : IntKind.wrap .i64 (Int.tdiv x 64) = Int.tdiv x 64 := wrap_id (by omega) (by omega)
    rw [wd]
    obtain ⟨i, hi, hin⟩ := tmod_ok (n := n) (xor_ok (a := x) (b := Int.tdiv x 64) hx0 (by omega) hd0 (by omega)) hn
    rw [hi]
    exact W.ret ⟨i, rfl, hin, hd, ho⟩
/-- One of a list. -/
theorem of_ends {u : V} {l : List Int} {σ : Heap} {r p : Nat} {v : V} {L : List ByteArray} (d : Dr u l σ r p) (hp : p ≤ 1000000) (h : RepS 1 StrRep σ v L) (h1 : 1 ≤ L.length) (h2 : L.length ≤ 1000000) :
    ∃ (s : ByteArray) (σ' : Heap), Runs G n_pspec_l23Rd_of [.ptr r 0, v] σ (.str s) σ' ∧ s ∈ L ∧ Dr u l σ' r (p + 1) ∧ Off r σ σ' := by
  suffices hE : HM.Ends G n_pspec_l23Rd_of [.ptr r 0, v] σ (fun w σ' => ∃ s, w = .str s ∧ s ∈ L ∧ Dr u l σ' r (p + 1) ∧ Off r σ σ') by
    obtain ⟨w, σ', ⟨i, rfl, hp⟩, hr⟩ := hE
    exact ⟨i, σ', hr, hp⟩
  refine HM.Ends.mk (W.to (fun k _ => pspec_l23Rd_of.eq k _ _ _) ?_)
  refine W.len h ?_
  obtain ⟨i, σ', c, hi, d', o⟩ := pick_ends d hp h1 h2
  refine W.run c ?_
  have h' := d.off h o
  obtain ⟨r', o', hv, cs, hr, hP⟩ := h'.at' (List.getElem?_eq_getElem hi)
  unfold StrRep at hP
  subst hP
  try simp only [q_bind_some, castInt_int, q_castBool, q_castStr, q_castPtr, q_castFn, q_castAgg, q_castTuple, q_uncons, q_isNil, q_sl, q_nils, q_emp, q_ptr, q_nilp, q_fn, q_cond_true, q_cond_false, Bool.not_true, Bool.not_false, decide_true, decide_false, List.cons_append, List.nil_append, hv, hr]
  exact W.ret ⟨_, rfl, List.getElem_mem hi, d', o⟩
/-- The bytes are opened. -/
theorem open_ends {σ : Heap} {v : V} {l : List Int} (h : RepS 1 U8P σ v l) (hl : ∀ x, x ∈ l → 0 ≤ x ∧ x ≤ 255) :
    ∃ σ' u k, Runs G n_spec_l23Open [v] σ (.ptr σ.length 0) σ' ∧ Dr u k σ' σ.length 0 ∧ σ'.length = σ.length + 1 ∧ Lh σ σ' := by
  suffices hE : HM.Ends G n_spec_l23Open [v] σ (fun w σ' => ∃ u k, w = .ptr σ.length 0 ∧ Dr u k σ' σ.length 0 ∧ σ'.length = σ.length + 1 ∧ Lh σ σ') by
    obtain ⟨w, σ', ⟨u, k, rfl, hp⟩, hr⟩ := hE
    exact ⟨σ', u, k, hr, hp⟩
  have fin : ∀ {u : V} {k : List Int}, RepS 1 U8P σ u k → (∀ x, x ∈ k → 0 ≤ x ∧ x ≤ 255) → k.length ≤ 2000 → Dr u k (hnew σ 2 [u, .int .i64 0]) σ.length 0 ∧ (hnew σ 2 [u, .int .i64 0]).length = σ.length + 1 ∧ Lh σ (hnew σ 2 [u, .int .i64 0]) := fun {u k} hu hk hn =>
    ⟨⟨0, by simp [hnew], hu.le (Lh.new _ _ _), hk, hn⟩, by simp [hnew], Lh.new _ _ _⟩
  have one_ok : ∀ {u : V} {k : List Int}, RepS 1 U8P σ u k → ∀ {β : Type} (K : Option β), one u K = K := fun hu β K => by cases hu <;> rfl
  refine HM.Ends.mk (W.to (fun k _ => spec_l23Open.eq k _ _) ?_)
  refine W.len h ?_
  refine W.ite (fun hlt => ?_) fun hlt => ?_
  · obtain ⟨u, e, hu⟩ := h.first (i := 2000) (by omega)
    refine W.bind e ?_
    try simp only [q_bind_some, castInt_int, q_castBool, q_castStr, q_castPtr, q_castFn, q_castAgg, q_castTuple, q_uncons, q_isNil, q_sl, q_nils, q_emp, q_ptr, q_nilp, q_fn, q_cond_true, q_cond_false, Bool.not_true, Bool.not_false, decide_true, decide_false, List.cons_append, List.nil_append, one_ok hu]
    exact W.ret ⟨_, _, rfl, fin hu (fun x hx => hl x (List.mem_of_mem_take hx)) (by simp; omega)⟩
  · try simp only [q_bind_some, castInt_int, q_castBool, q_castStr, q_castPtr, q_castFn, q_castAgg, q_castTuple, q_uncons, q_isNil, q_sl, q_nils, q_emp, q_ptr, q_nilp, q_fn, q_cond_true, q_cond_false, Bool.not_true, Bool.not_false, decide_true, decide_false, List.cons_append, List.nil_append, one_ok h]
    exact W.ret ⟨_, _, rfl, fin h hl (by omega)⟩
/-- Rows of cells stay. -/
def K1 (σ σ' : Heap) : Prop := σ.length ≤ σ'.length ∧ ∀ (j : Nat) (row : Row), σ[j]? = some (some row) → row.esz = 1 → σ'[j]? = some (some row)
theorem K1.refl (σ : Heap) : K1 σ σ := ⟨Nat.le_refl _, fun _ _ h _ => h⟩
theorem K1.trans {a b c : Heap} (h : K1 a b) (g : K1 b c) : K1 a c := ⟨Nat.le_trans h.1 g.1, fun j row hj he => g.2 j row (h.2 j row hj he) he⟩
theorem K1.lh {σ σ' : Heap} (h : Lh σ σ') : K1 σ σ' := ⟨h.len, fun j row hj _ => h.row _ _ hj⟩
theorem K1.off {u : V} {l : List Int} {σ σ' : Heap} {r p : Nat} (d : Dr u l σ r p) (o : Off r σ σ') : K1 σ σ' := ⟨Nat.le_of_eq o.1.symm, fun j row hj he => by
  rw [o.2 j (fun hc => by
    subst hc
    obtain ⟨row', h1, h2⟩ := d.row
    rw [h1] at hj
    injection hj with hj; injection hj with hj
    subst hj
    omega)]
  exact hj⟩
theorem RepS.k1 {α : Type} {P : List V → α → Prop} {σ σ' : Heap} {v : V} {l : List α} (h : RepS 1 P σ v l) (k : K1 σ σ') : RepS 1 P σ' v l := by
  cases h with
  | nils => exact .nils
  | emp => exact .emp
  | sl q o' n lim row' l h1 h2 h3 h4 h5 => exact .sl q o' n lim row' l h1 (k.2 _ _ h2 h3) h3 h4 h5
end Go.L
