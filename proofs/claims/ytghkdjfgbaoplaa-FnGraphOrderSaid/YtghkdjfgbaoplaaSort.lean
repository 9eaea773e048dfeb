/- Sorting of at most eight texts: it ends, and the same texts are there. -/
import Derived.Test.YtghkdjfgbaoplaaGraph1
import Derived.Test.YtghkdjfgbaoplaaHMMark
set_option linter.unusedVariables false
set_option linter.unusedSimpArgs false
namespace Go.B
open Go.HM Go.Proofs
theorem wrap_u64 {n : Int} (h1 : 0 ≤ n) (h2 : n ≤ 9223372036854775807) : IntKind.wrap .u64 n = n := by
  have hb : IntKind.u64.bits = 64 := rfl
  have hs : IntKind.u64.signed = false := rfl
  have e1 : (2 ^ 64 : Int) = 18446744073709551616 := by decide
  unfold IntKind.wrap
  simp only [hb, hs, e1, Bool.false_and]
  simp
  omega
def bitLen : Nat → Int
  | 0 => 0 | 1 => 1 | 2 => 2 | 3 => 2 | 4 => 3 | 5 => 3 | 6 => 3 | 7 => 3 | _ => 4
theorem bits_Len64_runs (σ : Heap) : ∀ (n : Nat), n ≤ 8 → Runs G n_math_bits_Len64 [.int .u64 (n : Int)] σ (.int .i64 (bitLen n)) σ
  | 0, _ => Runs.of (W.to (fun k _ => (math_bits_Len64.eq k 0 σ).trans (by kernel_rfl : _ = some (.int .i64 0, σ))) (W.ret ⟨rfl, rfl⟩))
  | 1, _ => Runs.of (W.to (fun k _ => (math_bits_Len64.eq k 1 σ).trans (by kernel_rfl : _ = some (.int .i64 1, σ))) (W.ret ⟨rfl, rfl⟩))
  | 2, _ => Runs.of (W.to (fun k _ => (math_bits_Len64.eq k 2 σ).trans (by kernel_rfl : _ = some (.int .i64 2, σ))) (W.ret ⟨rfl, rfl⟩))
  | 3, _ => Runs.of (W.to (fun k _ => (math_bits_Len64.eq k 3 σ).trans (by kernel_rfl : _ = some (.int .i64 2, σ))) (W.ret ⟨rfl, rfl⟩))
  | 4, _ => Runs.of (W.to (fun k _ => (math_bits_Len64.eq k 4 σ).trans (by kernel_rfl : _ = some (.int .i64 3, σ))) (W.ret ⟨rfl, rfl⟩))
  | 5, _ => Runs.of (W.to (fun k _ => (math_bits_Len64.eq k 5 σ).trans (by kernel_rfl : _ = some (.int .i64 3, σ))) (W.ret ⟨rfl, rfl⟩))
  | 6, _ => Runs.of (W.to (fun k _ => (math_bits_Len64.eq k 6 σ).trans (by kernel_rfl : _ = some (.int .i64 3, σ))) (W.ret ⟨rfl, rfl⟩))
  | 7, _ => Runs.of (W.to (fun k _ => (math_bits_Len64.eq k 7 σ).trans (by kernel_rfl : _ = some (.int .i64 3, σ))) (W.ret ⟨rfl, rfl⟩))
  | 8, _ => Runs.of (W.to (fun k _ => (math_bits_Len64.eq k 8 σ).trans (by kernel_rfl : _ = some (.int .i64 4, σ))) (W.ret ⟨rfl, rfl⟩))
theorem bits_Len_runs (σ : Heap) {n : Nat} (h : n ≤ 8) : Runs G n_math_bits_Len [.int .u64 (n : Int)] σ (.int .i64 (bitLen n)) σ := by
  refine Runs.of (W.to (fun k _ => math_bits_Len.eq k _ _) ?_)
  refine W.run (bits_Len64_runs σ n h) ?_
  try simp only [q_bind_some, Option.bind_assoc, castInt_int, q_castBool, q_castStr, q_castPtr, q_castFn, q_castAgg, q_castTuple, q_uncons, q_isNil, q_sl, q_nils, q_emp, q_ptr, q_nilp, q_fn, q_cond_true, q_cond_false, Bool.not_true, Bool.not_false, decide_true, decide_false, castInt_bind, castBool_bind, castStr_bind, castPtr_bind, castFn_bind, castAgg_bind, castTuple_bind, uncons_bind, isNil_bind, one_bind, cond_bind, ite_bind_, List.cons_append, List.nil_append]
  exact W.ret ⟨rfl, rfl⟩
theorem less_runs (σ : Heap) (s t : ByteArray) : Runs G n_cmp_Less_string [.str s, .str t] σ (.bool (Op.bytesLess s.toList t.toList)) σ := by
  refine Runs.of (W.to (fun k _ => cmp_Less_string.eq k _ _ _) ?_)
  have c : Runs G n_cmp_isNaN_string [.str s] σ (.bool false) σ := Runs.of (W.to (fun k _ => cmp_isNaN_string.eq k _ _) (W.ret ⟨by simp, rfl⟩))
  refine W.run c ?_
  try simp only [q_bind_some, Option.bind_assoc, castInt_int, q_castBool, q_castStr, q_castPtr, q_castFn, q_castAgg, q_castTuple, q_uncons, q_isNil, q_sl, q_nils, q_emp, q_ptr, q_nilp, q_fn, q_cond_true, q_cond_false, Bool.not_true, Bool.not_false, decide_true, decide_false, castInt_bind, castBool_bind, castStr_bind, castPtr_bind, castFn_bind, castAgg_bind, castTuple_bind, uncons_bind, isNil_bind, one_bind, cond_bind, ite_bind_, List.cons_append, List.nil_append]
  exact W.ret ⟨rfl, rfl⟩
/-- The same texts in the row, and nothing else has changed. -/
structure Srt (σ : Heap) (q : Nat) (l : List ByteArray) (σ' : Heap) (l' : List ByteArray) : Prop where
  row : StrRow σ' q l'
  len : l'.length = l.length
  mem : ∀ x, x ∈ l' ↔ x ∈ l
  hlen : σ'.length = σ.length
  out : ∀ j, j ≠ q → σ'[j]? = σ[j]?
theorem insertion_ends {σ : Heap} {q : Nat} {lim : Bool} {l : List ByteArray} (h : StrRow σ q l) (hl : l.length ≤ 1073741824) :
    ∃ σ' l', Runs G n_slices_insertionSortOrdered_string [.sl q 0 l.length lim, .int .i64 0, .int .i64 (l.length : Int)] σ (.tuple []) σ' ∧ Srt σ q l σ' l' := by
  suffices hE : HM.Ends G n_slices_insertionSortOrdered_string [.sl q 0 l.length lim, .int .i64 0, .int .i64 (l.length : Int)] σ (fun w σ' => w = .tuple [] ∧ ∃ l', Srt σ q l σ' l') by
    obtain ⟨w, σ', ⟨rfl, l', hp⟩, hr⟩ := hE
    exact ⟨σ', l', hr, hp⟩
  refine HM.Ends.mk (W.to (fun k _ => slices_insertionSortOrdered_string.eq k _ _ _ _) ?_)
  have e0 : IntKind.wrap .i64 ((0 : Int) + 1) = ((1 : Nat) : Int) := by rw [wrap_id (by omega) (by omega)]; omega
  rw [e0]
  refine W.loop (S := Nat × List ByteArray × Heap) (fun s => 1 ≤ s.1 ∧ Srt σ q l s.2.2 s.2.1) (fun s => [.v (.sl q 0 l.length lim), .v (.int .i64 0), .v (.int .i64 (l.length : Int)), .v (.int .i64 (s.1 : Int))]) (fun s => s.2.2) (fun s => l.length - s.1) (fun ⟨i, l', σi⟩ ⟨hi, hS⟩ => ?_)
    (1, l, σ) ⟨Nat.le_refl _, h, rfl, fun _ => Iff.rfl, rfl, fun _ _ => rfl⟩
  simp only at hi hS ⊢
  refine W.to (fun k _ => by rw [slices_insertionSortOrdered_string.L0_step]) ?_
  refine B.ite (fun hlt => ?_) fun hlt => ?_
  rotate_left
  · try simp only [q_bind_some, castInt_int, q_castBool, q_castStr, q_castPtr, q_castFn, q_castAgg, q_castTuple, q_uncons, q_isNil, q_sl, q_nils, q_emp, q_ptr, q_nilp, q_fn, q_cond_true, q_cond_false, Bool.not_true, Bool.not_false, decide_true, decide_false, List.cons_append, List.nil_append, slices_insertionSortOrdered_string.A0_x0]
    exact W.ret ⟨rfl, l', hS⟩
  have hil : i < l.length := by omega
  refine B.assoc ?_
  refine W.loop (S := Nat × List ByteArray × Heap) (fun s => s.1 ≤ i ∧ Srt σ q l s.2.2 s.2.1) (fun s => [.v (.sl q 0 l.length lim), .v (.int .i64 0), .v (.int .i64 (l.length : Int)), .v (.int .i64 (i : Int)), .v (.int .i64 (s.1 : Int))]) (fun s => s.2.2) (fun s => s.1) (fun ⟨j, lj, σj⟩ ⟨hj, hT⟩ => ?_)
    (i, l', σi) ⟨Nat.le_refl _, hS⟩
  simp only at hj hT ⊢
  refine W.to (fun k _ => by rw [slices_insertionSortOrdered_string.L1_step]) ?_
  refine B.ite (fun hj0 => ?_) fun hj0 => ?_
  rotate_left
  · try simp only [q_bind_some, castInt_int, q_castBool, q_castStr, q_castPtr, q_castFn, q_castAgg, q_castTuple, q_uncons, q_isNil, q_sl, q_nils, q_emp, q_ptr, q_nilp, q_fn, q_cond_true, q_cond_false, Bool.not_true, Bool.not_false, decide_true, decide_false, List.cons_append, List.nil_append, slices_insertionSortOrdered_string.A1_x2]
    exact W.out' _ (W.again (i + 1, lj, σj) ⟨by show 1 ≤ i + 1; omega, hT⟩ (by simp only; omega) (by rw [wrap_next hil (by omega)]) rfl) fun k j m => rfl
  have hjl : j < l.length := by omega
  have hlen := hT.len
  have hR : RepS 1 StrRep σj (.sl q 0 lj.length lim) lj := hT.row.rep (fun _ => rfl) lim
  rw [hlen] at hR
  have hx : lj[j]? = some lj[j] := List.getElem?_eq_getElem (by omega)
  have hy : lj[j - 1]? = some lj[j - 1] := List.getElem?_eq_getElem (by omega)
  have hv : ∀ t : Nat, t < l.length → vidx 1 (.sl q 0 l.length lim) (t : Int) = some (q, t) := fun t ht => by simp [vidx, ht]
  have ej : IntKind.wrap .i64 ((j : Int) - 1) = ((j - 1 : Nat) : Int) := by rw [wrap_id (by omega) (by omega)]; omega
  have rd : ∀ (t : Nat) x, lj[t]? = some x → rdc σj q t 1 = some [.str x] := fun t x ht => by
    have := lt_of_get ht
    obtain ⟨r, o, h1, cs, h2, h3⟩ := hR.at' ht
    rw [hv t (by omega)] at h1
    injection h1 with h1
    injection h1 with h1 h1'
    subst h1 h1'
    unfold StrRep at h3
    rw [h2, h3]
  have rx := rd j _ hx
  have ry := rd (j - 1) _ hy
  try simp only [q_bind_some, castInt_int, q_castBool, q_castStr, q_castPtr, q_castFn, q_castAgg, q_castTuple, q_uncons, q_isNil, q_sl, q_nils, q_emp, q_ptr, q_nilp, q_fn, q_cond_true, q_cond_false, Bool.not_true, Bool.not_false, decide_true, decide_false, List.cons_append, List.nil_append, hv j hjl, hv (j - 1) (by omega), ej, rx, ry]
  refine B.run (less_runs σj _ _) ?_
  try simp only [q_bind_some, castInt_int, q_castBool, q_castStr, q_castPtr, q_castFn, q_castAgg, q_castTuple, q_uncons, q_isNil, q_sl, q_nils, q_emp, q_ptr, q_nilp, q_fn, q_cond_true, q_cond_false, Bool.not_true, Bool.not_false, decide_true, decide_false, List.cons_append, List.nil_append]
  cases hless : Op.bytesLess lj[j].toList lj[j - 1].toList with
  | false =>
    try simp only [q_bind_some, castInt_int, q_castBool, q_castStr, q_castPtr, q_castFn, q_castAgg, q_castTuple, q_uncons, q_isNil, q_sl, q_nils, q_emp, q_ptr, q_nilp, q_fn, q_cond_true, q_cond_false, Bool.not_true, Bool.not_false, decide_true, decide_false, List.cons_append, List.nil_append, slices_insertionSortOrdered_string.A1_x2]
    exact W.out' _ (W.again (i + 1, lj, σj) ⟨by show 1 ≤ i + 1; omega, hT⟩ (by simp only; omega) (by rw [wrap_next hil (by omega)]) rfl) fun k j m => rfl
  | true =>
    try simp only [q_bind_some, castInt_int, q_castBool, q_castStr, q_castPtr, q_castFn, q_castAgg, q_castTuple, q_uncons, q_isNil, q_sl, q_nils, q_emp, q_ptr, q_nilp, q_fn, q_cond_true, q_cond_false, Bool.not_true, Bool.not_false, decide_true, decide_false, List.cons_append, List.nil_append, hv j hjl, hv (j - 1) (by omega), ej, rx, ry]
    obtain ⟨σ1, w1, h1, n1, k1⟩ := hT.row.put (i := j) (by omega) lj[j - 1]
    obtain ⟨σ2, w2, h2, n2, k2⟩ := h1.put (i := j - 1) (by simp; omega) lj[j]
    try simp only [q_bind_some, castInt_int, q_castBool, q_castStr, q_castPtr, q_castFn, q_castAgg, q_castTuple, q_uncons, q_isNil, q_sl, q_nils, q_emp, q_ptr, q_nilp, q_fn, q_cond_true, q_cond_false, Bool.not_true, Bool.not_false, decide_true, decide_false, List.cons_append, List.nil_append, w1, w2]
    have hp : ((lj.set j lj[j - 1]).set (j - 1) lj[j]).Perm lj := List.set_set_perm (by omega) (by omega)
    exact W.again (j - 1, (lj.set j lj[j - 1]).set (j - 1) lj[j], σ2) ⟨by show j - 1 ≤ i; omega, h2, by simp only; rw [hp.length_eq, hlen], fun x => (hp.mem_iff).trans (hT.mem x), by simp only; rw [n2, n1, hT.hlen], fun t ht => by simp only; rw [k2 t ht, k1 t ht, hT.out t ht]⟩ (by simp only; omega) rfl rfl
theorem sort_ends {σ : Heap} {q : Nat} {lim : Bool} {l : List ByteArray} (h : StrRow σ q l) (hl : l.length ≤ 8) :
    ∃ σ' l', Runs G n_slices_Sort_string_string [.sl q 0 l.length lim] σ (.tuple []) σ' ∧ Srt σ q l σ' l' := by
  suffices hE : HM.Ends G n_slices_Sort_string_string [.sl q 0 l.length lim] σ (fun w σ' => w = .tuple [] ∧ ∃ l', Srt σ q l σ' l') by
    obtain ⟨w, σ', ⟨rfl, l', hp⟩, hr⟩ := hE
    exact ⟨σ', l', hr, hp⟩
  refine HM.Ends.mk (W.to (fun k _ => slices_Sort_string_string.eq k _ _) ?_)
  have hvl : vlen (.sl q 0 l.length lim) = some l.length := rfl
  refine W.bind hvl ?_
  have eu : IntKind.wrap .u64 (l.length : Int) = (l.length : Int) := wrap_u64 (by omega) (by omega)
  rw [eu]
  refine W.run (bits_Len_runs σ hl) ?_
  try simp only [q_bind_some, Option.bind_assoc, castInt_int, q_castBool, q_castStr, q_castPtr, q_castFn, q_castAgg, q_castTuple, q_uncons, q_isNil, q_sl, q_nils, q_emp, q_ptr, q_nilp, q_fn, q_cond_true, q_cond_false, Bool.not_true, Bool.not_false, decide_true, decide_false, castInt_bind, castBool_bind, castStr_bind, castPtr_bind, castFn_bind, castAgg_bind, castTuple_bind, uncons_bind, isNil_bind, one_bind, cond_bind, ite_bind_, List.cons_append, List.nil_append]
  obtain ⟨σ', l', c, hS⟩ := insertion_ends (lim := lim) h (by omega)
  have c' : Runs G n_slices_pdqsortOrdered_string [.sl q 0 l.length lim, .int .i64 0, .int .i64 (l.length : Int), .int .i64 (bitLen l.length)] σ (.tuple []) σ' := by
    refine Runs.of (W.to (fun k _ => slices_pdqsortOrdered_string.eq k _ _ _ _ _) ?_)
    refine W.loop (S := Unit) (fun _ => True) (fun _ => [.v (.sl q 0 l.length lim), .v (.int .i64 0), .v (.int .i64 (l.length : Int)), .v (.int .i64 (bitLen l.length)), .v (.bool true), .v (.bool true)]) (fun _ => σ) (fun _ => 0) (fun _ _ => ?_)
      () trivial
    refine W.to (fun k _ => by rw [slices_pdqsortOrdered_string.L0_step]) ?_
    have e12 : IntKind.wrap .i64 ((l.length : Int) - 0) ≤ 12 := by rw [wrap_id (by omega) (by omega)]; omega
    refine B.ite (fun _ => ?_) fun hx => absurd e12 hx
    refine B.run c ?_
    try simp only [q_bind_some, castInt_int, q_castBool, q_castStr, q_castPtr, q_castFn, q_castAgg, q_castTuple, q_uncons, q_isNil, q_sl, q_nils, q_emp, q_ptr, q_nilp, q_fn, q_cond_true, q_cond_false, Bool.not_true, Bool.not_false, decide_true, decide_false, List.cons_append, List.nil_append, slices_pdqsortOrdered_string.A0_ret]
    exact W.ret ⟨rfl, rfl⟩
  refine W.run c' ?_
  try simp only [q_bind_some, Option.bind_assoc, castInt_int, q_castBool, q_castStr, q_castPtr, q_castFn, q_castAgg, q_castTuple, q_uncons, q_isNil, q_sl, q_nils, q_emp, q_ptr, q_nilp, q_fn, q_cond_true, q_cond_false, Bool.not_true, Bool.not_false, decide_true, decide_false, castInt_bind, castBool_bind, castStr_bind, castPtr_bind, castFn_bind, castAgg_bind, castTuple_bind, uncons_bind, isNil_bind, one_bind, cond_bind, ite_bind_, List.cons_append, List.nil_append]
  exact W.ret ⟨rfl, l', hS⟩
end Go.B
