/- What is behind names: behind of the program, l5Grow of the reference. -/
import Derived.Test.YtghkdjfgbaoplaaGraph2
import Derived.Test.YtghkdjfgbaoplaaSort
set_option linter.unusedVariables false
set_option linter.unusedSimpArgs false
namespace Go.B
open Go.HM Go.Proofs
inductive Beh (l : List GraphNode) (ns : List ByteArray) : ByteArray → Prop
  | base {n : GraphNode} {u : ByteArray} : n ∈ l → u ∈ n.uses → u ∈ ns → Beh l ns n.name
  | step {n : GraphNode} {u : ByteArray} : n ∈ l → u ∈ n.uses → Beh l ns u → Beh l ns n.name
noncomputable def hot (ns out : List ByteArray) (n : GraphNode) : Bool := n.uses.any fun u => decide (u ∈ ns) || decide (u ∈ out)
def Shut (l : List GraphNode) (ns out : List ByteArray) : Prop := ∀ (j : Nat) n, l[j]? = some n → hot ns out n = true → n.name ∈ out
theorem Beh.of {l : List GraphNode} {ns out : List ByteArray} (h : ∀ s, s ∈ out → Beh l ns s) {n : GraphNode} (hn : n ∈ l) (hh : hot ns out n = true) : Beh l ns n.name := by
  unfold hot at hh
  obtain ⟨u, hu, h1⟩ := List.any_eq_true.1 hh
  simp only [Bool.or_eq_true, decide_eq_true_eq] at h1
  rcases h1 with h1 | h1
  · exact .base hn hu h1
  · exact .step hn hu (h u h1)
theorem beh_iff {l : List GraphNode} {ns out : List ByteArray} (h1 : ∀ s, s ∈ out → Beh l ns s) (h2 : Shut l ns out) (x : ByteArray) : x ∈ out ↔ Beh l ns x := by
  refine ⟨h1 x, fun h => ?_⟩
  induction h with
  | base hn hu hs =>
    obtain ⟨j, hj, rfl⟩ := List.getElem_of_mem hn
    refine h2 j _ (List.getElem?_eq_getElem hj) (List.any_eq_true.2 ⟨_, hu, ?_⟩)
    simp [hs]
  | step hn hu _ ih =>
    obtain ⟨j, hj, rfl⟩ := List.getElem_of_mem hn
    refine h2 j _ (List.getElem?_eq_getElem hj) (List.any_eq_true.2 ⟨_, hu, ?_⟩)
    simp [ih]
theorem behind1_runs {σ : Heap} {r1 r2 : Nat} {v u : V} {ns out : List ByteArray} (hc1 : Cell1 σ r1 v) (hc2 : Cell1 σ r2 u) (h1 : ns.length ≤ 1073741824) (h2 : out.length ≤ 1073741824) (hv : RepS 1 StrRep σ v ns) (hu : RepS 1 StrRep σ u out) (s : ByteArray) :
    Runs G n_impl_behind_1 [.str s, .ptr r1 0, .ptr r2 0] σ (.bool (decide (s ∈ ns) || decide (s ∈ out))) σ := by
  refine Runs.of (W.to (fun k _ => impl_behind_1.eq k _ _ _ _) ?_)
  try simp only [q_bind_some, castInt_int, q_castBool, q_castStr, q_castPtr, q_castFn, q_castAgg, q_castTuple, q_uncons, q_isNil, q_sl, q_nils, q_emp, q_ptr, q_nilp, q_fn, q_cond_true, q_cond_false, Bool.not_true, Bool.not_false, decide_true, decide_false, List.cons_append, List.nil_append, hc1.rdc]
  refine W.run (slices_Contains_string_string_runs h1 hv s) ?_
  try simp only [q_bind_some, castInt_int, q_castBool, q_castStr, q_castPtr, q_castFn, q_castAgg, q_castTuple, q_uncons, q_isNil, q_sl, q_nils, q_emp, q_ptr, q_nilp, q_fn, q_cond_true, q_cond_false, Bool.not_true, Bool.not_false, decide_true, decide_false, List.cons_append, List.nil_append]
  by_cases hm : s ∈ ns
  · try simp only [q_bind_some, castInt_int, q_castBool, q_castStr, q_castPtr, q_castFn, q_castAgg, q_castTuple, q_uncons, q_isNil, q_sl, q_nils, q_emp, q_ptr, q_nilp, q_fn, q_cond_true, q_cond_false, Bool.not_true, Bool.not_false, decide_true, decide_false, List.cons_append, List.nil_append, hm]
    exact W.ret ⟨by simp, rfl⟩
  try simp only [q_bind_some, castInt_int, q_castBool, q_castStr, q_castPtr, q_castFn, q_castAgg, q_castTuple, q_uncons, q_isNil, q_sl, q_nils, q_emp, q_ptr, q_nilp, q_fn, q_cond_true, q_cond_false, Bool.not_true, Bool.not_false, decide_true, decide_false, List.cons_append, List.nil_append, hm, hc2.rdc]
  refine W.run (slices_Contains_string_string_runs h2 hu s) ?_
  try simp only [q_bind_some, castInt_int, q_castBool, q_castStr, q_castPtr, q_castFn, q_castAgg, q_castTuple, q_uncons, q_isNil, q_sl, q_nils, q_emp, q_ptr, q_nilp, q_fn, q_cond_true, q_cond_false, Bool.not_true, Bool.not_false, decide_true, decide_false, List.cons_append, List.nil_append]
  exact W.ret ⟨by simp, rfl⟩
theorem one_rep {α : Type} {esz : Nat} {P : List V → α → Prop} {σ : Heap} {v : V} {l : List α} (h : RepS esz P σ v l) {β : Type} (K : Option β) : one v K = K := by
  cases h <;> rfl
/-- How the list of what is used stands. -/
structure Bh (l : List GraphNode) (ns : List ByteArray) (σ : Heap) (v : V) (q : Nat) (lim : Bool) (out : List ByteArray) (u : V) (σi : Heap) : Prop where
  q1 : σ.length < q
  q2 : q ≠ σ.length + 2
  hu : u = .sl q 0 out.length lim
  row : StrRow σi q out
  c1 : Cell1 σi σ.length v
  c2 : Cell1 σi (σ.length + 2) u
  lh : Lh σ σi
  len : σ.length + 3 ≤ σi.length
  beh : ∀ s, s ∈ out → Beh l ns s
  cnt : out.length + cnt l out ≤ l.length
theorem Bh.le {l : List GraphNode} {ns : List ByteArray} {σ : Heap} {v : V} {q : Nat} {lim : Bool} {out : List ByteArray} {u : V} {σi σ' : Heap} (h : Bh l ns σ v q lim out u σi) (hl : Lh σi σ') : Bh l ns σ v q lim out u σ' :=
  ⟨h.q1, h.q2, h.hu, by obtain ⟨ty, hh⟩ := h.row; exact ⟨ty, hl.row _ _ hh⟩, h.c1.le hl, h.c2.le hl, h.lh.trans hl, Nat.le_trans h.len hl.len, h.beh, h.cnt⟩
theorem implBehind_ends {σ : Heap} {v w : V} {l : List GraphNode} {ns : List ByteArray} (hl8 : l.length ≤ 8) (hf : l.length + totS GraphNode.total l ≤ 1048576) (hn : ns.length ≤ 1048576) (h : RepS 2 (GraphNode.Rep σ) σ v l) (hw : RepS 1 StrRep σ w ns) :
    ∃ u σ' out, Runs G n_impl_behind [v, w] σ u σ' ∧ Lh σ σ' ∧ RepS 1 StrRep σ' u out ∧ out.length ≤ l.length ∧ ∀ x, x ∈ out ↔ Beh l ns x := by
  suffices hE : HM.Ends G n_impl_behind [v, w] σ (fun u σ' => ∃ out, Lh σ σ' ∧ RepS 1 StrRep σ' u out ∧ out.length ≤ l.length ∧ ∀ x, x ∈ out ↔ Beh l ns x) by
    obtain ⟨u, σ', ⟨out, hp⟩, hr⟩ := hE
    exact ⟨u, σ', out, hr, hp⟩
  have huses : ∀ n, n ∈ l → n.uses.length ≤ 1073741824 := fun n hn => by
    have := totS_mem GraphNode.total hn
    rw [GraphNode.total_eq n] at this
    omega
  refine HM.Ends.mk (W.to (fun k _ => impl_behind.eq k _ _ _) ?_)
  try simp only [q_bind_some, castInt_int, q_castBool, q_castStr, q_castPtr, q_castFn, q_castAgg, q_castTuple, q_uncons, q_isNil, q_sl, q_nils, q_emp, q_ptr, q_nilp, q_fn, q_cond_true, q_cond_false, Bool.not_true, Bool.not_false, decide_true, decide_false, List.cons_append, List.nil_append, one_rep hw]
  have hc0 : Cell1 (hnew (hnew (hnew σ 1 [w]) 1 []) 1 [.nils]) (hnew (hnew σ 1 [w]) 1 []).length .nils := Cell1.new _ _
  obtain ⟨σ2, hw2, hc2, hl2, hk2⟩ := hc0.put (.sl (hnew σ 1 [w]).length 0 0 true)
  have hr1 : (hnew (hnew σ 1 [w]) 1 []).length = σ.length + 2 := by simp [hnew]
  have hr0 : (hnew σ 1 [w]).length = σ.length + 1 := by simp [hnew]
  refine W.bind hw2 ?_
  rw [hr1] at hc2 hk2 ⊢
  rw [hr0] at hc2
  have hlen2 : σ2.length = σ.length + 3 := by rw [hl2]; simp [hnew]
  have hLh2 : Lh σ σ2 := ⟨by omega, fun j row hj => by
    have := get_lt hj
    rw [hk2 j (by omega), hnew, List.getElem?_append_left (by simp [hnew]; omega), hnew, List.getElem?_append_left (by simp [hnew]; omega), hnew, List.getElem?_append_left this]
    exact hj⟩
  have hS2 : StrRow σ2 (σ.length + 1) [] := ⟨0, by rw [hk2 _ (by omega), hnew, List.getElem?_append_left (by simp [hnew]), hnew, List.getElem?_append_right (by simp [hnew])]; simp [hnew]⟩
  have hC1 : Cell1 σ2 σ.length w := ⟨0, by rw [hk2 _ (by omega), hnew, List.getElem?_append_left (by simp [hnew]), hnew, List.getElem?_append_left (by simp [hnew]), hnew, List.getElem?_append_right (by simp)]; simp⟩
  refine W.loop (S := List ByteArray × V × Heap × Bool) (fun s => (∃ q lim, Bh l ns σ w q lim s.1 s.2.1 s.2.2.1) ∧ (s.2.2.2 = false → Shut l ns s.1))
    (fun s => [.v v, .v (.ptr σ.length 0), .v (.ptr (σ.length + 2) 0), .v (.bool s.2.2.2)]) (fun s => s.2.2.1) (fun s => 2 * cnt l s.1 + (if s.2.2.2 then 1 else 0)) (fun ⟨out, u, σi, more⟩ hI => ?_)
    ([], .sl (σ.length + 1) 0 0 true, σ2, true) ⟨⟨σ.length + 1, true, by omega, by omega, rfl, hS2, hC1, hc2, hLh2, by simp only; omega, (fun s hs => by cases hs), by simpa using cnt_le l []⟩, fun hm => by cases hm⟩
  obtain ⟨⟨q, lim, hB⟩, hmo⟩ := hI
  simp only at hB hmo ⊢
  refine W.to (fun k _ => by rw [impl_behind.L0_step]) ?_
  cases more with
  | false =>
    have hcnt := hB.cnt
    try simp only [q_bind_some, castInt_int, q_castBool, q_castStr, q_castPtr, q_castFn, q_castAgg, q_castTuple, q_uncons, q_isNil, q_sl, q_nils, q_emp, q_ptr, q_nilp, q_fn, q_cond_true, q_cond_false, Bool.not_true, Bool.not_false, decide_true, decide_false, List.cons_append, List.nil_append, impl_behind.A0_x0, hB.c2.rdc]
    rw [hB.hu]
    obtain ⟨σ3, out3, c3, hT⟩ := sort_ends (lim := lim) hB.row (by omega)
    refine W.run c3 ?_
    have hC3 : Cell1 σ3 (σ.length + 2) u := hB.c2.keep (hT.out _ (Ne.symm hB.q2))
    try simp only [q_bind_some, castInt_int, q_castBool, q_castStr, q_castPtr, q_castFn, q_castAgg, q_castTuple, q_uncons, q_isNil, q_sl, q_nils, q_emp, q_ptr, q_nilp, q_fn, q_cond_true, q_cond_false, Bool.not_true, Bool.not_false, decide_true, decide_false, List.cons_append, List.nil_append, hC3.rdc]
    have hR := hT.row.rep (P := StrRep) (fun _ => rfl) lim
    have hlen := hT.len
    rw [hlen, ← hB.hu] at hR
    refine W.ret ⟨out3, ⟨by rw [hT.hlen]; exact hB.lh.len, fun j row hj => ?_⟩, hR, by omega, fun x => ?_⟩
    · have := get_lt hj
      have := hB.q1
      rw [hT.out j (by omega)]
      exact hB.lh.row _ _ hj
    · exact (hT.mem x).trans (beh_iff hB.beh (hmo rfl) x)
  | true =>
  try simp only [q_bind_some, castInt_int, q_castBool, q_castStr, q_castPtr, q_castFn, q_castAgg, q_castTuple, q_uncons, q_isNil, q_sl, q_nils, q_emp, q_ptr, q_nilp, q_fn, q_cond_true, q_cond_false, Bool.not_true, Bool.not_false, decide_true, decide_false, List.cons_append, List.nil_append]
  refine B.len (h.mono hB.lh fun cs x _ hc => GraphNode.Rep.le hB.lh hc) ?_
  refine B.assoc ?_
  refine W.loop (S := Nat × List ByteArray × V × Heap × Bool) (fun s => s.1 ≤ l.length ∧ (∃ q lim, Bh l ns σ w q lim s.2.1 s.2.2.1 s.2.2.2.1) ∧ (s.2.2.2.2 = false → s.2.1 = out ∧ ∀ (j : Nat) n, j < s.1 → l[j]? = some n → hot ns out n = true → n.name ∈ out) ∧ (s.2.2.2.2 = true → cnt l s.2.1 < cnt l out))
    (fun s => [.v v, .v (.ptr σ.length 0), .v (.ptr (σ.length + 2) 0), .v (.bool s.2.2.2.2), .v v, .v (.int .i64 (l.length : Int)), .v (.int .i64 (s.1 : Int))]) (fun s => s.2.2.2.1) (fun s => l.length - s.1) (fun ⟨i, out', u', σj, mo⟩ hJ => ?_)
    (0, out, u, σi, false) ⟨Nat.zero_le _, ⟨q, lim, hB⟩, fun _ => ⟨rfl, fun j y hj => absurd hj (Nat.not_lt_zero _)⟩, fun h => by cases h⟩
  obtain ⟨hi, ⟨q', lim', hB'⟩, hf0, hf1⟩ := hJ
  simp only at hi hB' hf0 hf1 ⊢
  refine W.to (fun k _ => by rw [impl_behind.L1_step]) ?_
  have hmeas : ∀ σx : Heap, 2 * cnt l (out', u', σx, mo).1 + (if (out', u', σx, mo).2.2.2 then 1 else 0) < 2 * cnt l out + (if true then 1 else 0) := by
    intro σx
    simp only
    cases mo with
    | true => have := hf1 rfl; simp; omega
    | false => rw [(hf0 rfl).1]; simp
  refine B.ite (fun hlt => ?_) fun hlt => ?_
  rotate_left
  · try simp only [q_bind_some, castInt_int, q_castBool, q_castStr, q_castPtr, q_castFn, q_castAgg, q_castTuple, q_uncons, q_isNil, q_sl, q_nils, q_emp, q_ptr, q_nilp, q_fn, q_cond_true, q_cond_false, Bool.not_true, Bool.not_false, decide_true, decide_false, List.cons_append, List.nil_append, impl_behind.A1_x2]
    refine W.out' _ (W.again (out', u', σj, mo) ⟨⟨q', lim', hB'⟩, fun hm => ?_⟩ (hmeas _) rfl rfl) fun k j m => rfl
    simp only at hm ⊢
    obtain ⟨rfl, hno⟩ := hf0 hm
    exact fun j n hn => hno j n (by have := lt_of_get hn; omega) hn
  have hil : i < l.length := by omega
  have hx : l[i]? = some l[i] := List.getElem?_eq_getElem hil
  have hm := List.getElem_mem hil
  obtain ⟨r, o, hv, cs, hr, hP⟩ := (h.mono hB'.lh fun cs x _ hc => GraphNode.Rep.le hB'.lh hc).at hil
  generalize l[i] = x at hx hP hm
  cases hP with
  | mk h0 =>
  have hcnt := hB'.cnt
  try simp only [q_bind_some, castInt_int, q_castBool, q_castStr, q_castPtr, q_castFn, q_castAgg, q_castTuple, q_uncons, q_isNil, q_sl, q_nils, q_emp, q_ptr, q_nilp, q_fn, q_cond_true, q_cond_false, Bool.not_true, Bool.not_false, decide_true, decide_false, List.cons_append, List.nil_append, hv, hr]
  refine B.give (slices_ContainsFunc_string_string_gives (huses x hm) h0 n_impl_behind_1 [.ptr σ.length 0, .ptr (σ.length + 2) 0] (fun s => decide (s ∈ ns) || decide (s ∈ out')) fun s hs σ' hl => ⟨σ', Lh.refl _, by
    have hB2 := hB'.le hl
    have hR := hB2.row.rep (P := StrRep) (fun _ => rfl) lim'
    rw [← hB2.hu] at hR
    exact behind1_runs hB2.c1 hB2.c2 (by omega) (by omega) (hw.le hB2.lh) hR s⟩) fun σ3 l3 => ?_
  try simp only [q_bind_some, castInt_int, q_castBool, q_castStr, q_castPtr, q_castFn, q_castAgg, q_castTuple, q_uncons, q_isNil, q_sl, q_nils, q_emp, q_ptr, q_nilp, q_fn, q_cond_true, q_cond_false, Bool.not_true, Bool.not_false, decide_true, decide_false, List.cons_append, List.nil_append]
  have hB3 := hB'.le l3
  have hR3 := hB3.row.rep (P := StrRep) (fun _ => rfl) lim'
  rw [← hB3.hu] at hR3
  have ehot : (x.uses.any fun s => decide (s ∈ ns) || decide (s ∈ out')) = hot ns out' x := rfl
  rw [ehot]
  have go : (hot ns out' x = true → x.name ∈ out') → i + 1 ≤ l.length ∧ (∃ q lim, Bh l ns σ w q lim out' u' σ3) ∧ (mo = false → out' = out ∧ ∀ (j : Nat) n, j < i + 1 → l[j]? = some n → hot ns out n = true → n.name ∈ out) ∧ (mo = true → cnt l out' < cnt l out) := fun hno => ⟨hil, ⟨q', lim', hB3⟩, fun hmf => by
    obtain ⟨rfl, hp⟩ := hf0 hmf
    refine ⟨rfl, fun j n hj hn hh => ?_⟩
    by_cases hij : j = i
    · subst hij
      rw [hx] at hn
      injection hn with hn
      subst hn
      exact hno hh
    · exact hp j n (by omega) hn hh, hf1⟩
  cases hh : hot ns out' x with
  | false =>
    try simp only [q_bind_some, castInt_int, q_castBool, q_castStr, q_castPtr, q_castFn, q_castAgg, q_castTuple, q_uncons, q_isNil, q_sl, q_nils, q_emp, q_ptr, q_nilp, q_fn, q_cond_true, q_cond_false, Bool.not_true, Bool.not_false, decide_true, decide_false, List.cons_append, List.nil_append, wrap_next hil (by omega)]
    exact W.again (i + 1, out', u', σ3, mo) (go (fun hc => by rw [hh] at hc; cases hc)) (by simp only; omega) rfl rfl
  | true =>
  try simp only [q_bind_some, castInt_int, q_castBool, q_castStr, q_castPtr, q_castFn, q_castAgg, q_castTuple, q_uncons, q_isNil, q_sl, q_nils, q_emp, q_ptr, q_nilp, q_fn, q_cond_true, q_cond_false, Bool.not_true, Bool.not_false, decide_true, decide_false, List.cons_append, List.nil_append, hB3.c2.rdc]
  refine B.run (slices_Contains_string_string_runs (by omega) hR3 x.name) ?_
  try simp only [q_bind_some, castInt_int, q_castBool, q_castStr, q_castPtr, q_castFn, q_castAgg, q_castTuple, q_uncons, q_isNil, q_sl, q_nils, q_emp, q_ptr, q_nilp, q_fn, q_cond_true, q_cond_false, Bool.not_true, Bool.not_false, decide_true, decide_false, List.cons_append, List.nil_append]
  by_cases hin : x.name ∈ out'
  · try simp only [q_bind_some, castInt_int, q_castBool, q_castStr, q_castPtr, q_castFn, q_castAgg, q_castTuple, q_uncons, q_isNil, q_sl, q_nils, q_emp, q_ptr, q_nilp, q_fn, q_cond_true, q_cond_false, Bool.not_true, Bool.not_false, decide_true, decide_false, List.cons_append, List.nil_append, hin, wrap_next hil (by omega)]
    exact W.again (i + 1, out', u', σ3, mo) (go fun _ => hin) (by simp only; omega) rfl rfl
  have hdec := cnt_lt hm hin
  try simp only [q_bind_some, castInt_int, q_castBool, q_castStr, q_castPtr, q_castFn, q_castAgg, q_castTuple, q_uncons, q_isNil, q_sl, q_nils, q_emp, q_ptr, q_nilp, q_fn, q_cond_true, q_cond_false, Bool.not_true, Bool.not_false, decide_true, decide_false, List.cons_append, List.nil_append, hin, hB3.c2.rdc]
  rw [hB3.hu]
  obtain ⟨σ4, ha, hS4, hl4, hk4⟩ := GrS.app (lim := lim') hB3.row x.name (by omega)
  have q1 := hB3.q1
  have q2 := hB3.q2
  have hlen3 := hB3.len
  have hC4 : Cell1 σ4 (σ.length + 2) u' := hB3.c2.keep (hk4 _ (Ne.symm q2) (by omega))
  have hC41 : Cell1 σ4 σ.length w := hB3.c1.keep (hk4 _ (by omega) (by omega))
  obtain ⟨σ5, hw5, hC5, hl5, hk5⟩ := hC4.put (.sl σ3.length 0 (out' ++ [x.name]).length false)
  try simp only [q_bind_some, castInt_int, q_castBool, q_castStr, q_castPtr, q_castFn, q_castAgg, q_castTuple, q_uncons, q_isNil, q_sl, q_nils, q_emp, q_ptr, q_nilp, q_fn, q_cond_true, q_cond_false, Bool.not_true, Bool.not_false, decide_true, decide_false, List.cons_append, List.nil_append, ha, hw5, wrap_next hil (by omega)]
  have hcc : cnt l (out' ++ [x.name]) < cnt l out := by
    cases mo with
    | true => have := hf1 rfl; omega
    | false => rw [← (hf0 rfl).1]; exact hdec
  refine W.again (i + 1, out' ++ [x.name], .sl σ3.length 0 (out' ++ [x.name]).length false, σ5, true) ⟨by show i + 1 ≤ l.length; omega, ⟨σ3.length, false, by omega, by omega, rfl, hS4.keep (hk5 _ (by omega)), hC41.keep (hk5 _ (by omega)), hC5, ⟨by simp only; omega, fun j row hj => ?_⟩, by simp only; omega, fun s hs => ?_, by simp only [List.length_append, List.length_singleton]; omega⟩, (fun h => by cases h), fun _ => hcc⟩ (by simp only; omega) rfl rfl
  · have hjl := get_lt hj
    simp only
    rw [hk5 j (by omega), hk4 j (by omega) (by omega)]
    exact hB3.lh.row _ _ hj
  · simp only at hs
    rcases List.mem_append.1 hs with hs | hs
    · exact hB3.beh s hs
    · simp at hs
      subst hs
      exact Beh.of hB3.beh hm hh
theorem l5Uses_runs {σ : Heap} {v : V} {out : List ByteArray} (hlen : out.length ≤ 1073741824) (hu : RepS 1 StrRep σ v out) {n : GraphNode} (hn : n.uses.length ≤ 1073741824) {s0 : ByteArray} {a : V} (h0 : RepS 1 StrRep σ a n.uses) : Runs G n_spec_l5Uses [.agg [.str s0, a], v] σ (.bool (n.uses.any fun s => decide (s ∈ out))) σ := by
  refine Runs.of (W.to (fun k _ => spec_l5Uses.eq k _ _ _ _) ?_)
  refine W.loop (S := Nat) (fun i => i ≤ n.uses.length ∧ ∀ (j : Nat) x, j < i → n.uses[j]? = some x → ¬ x ∈ out) (fun i => [.v v, .box [.str s0, a], .v (.int .i64 (i : Int))]) (fun _ => σ) (fun i => n.uses.length - i) (fun i ⟨hi, hok⟩ => ?_)
    0 ⟨Nat.zero_le _, fun j y hj => absurd hj (Nat.not_lt_zero _)⟩
  refine W.to (fun k _ => by rw [spec_l5Uses.L0_step]) ?_
  refine B.len h0 (B.ite (fun hlt => ?_) fun hlt => ?_)
  · refine B.at h0 (Lh.refl _) (by omega) fun r o cs x hx hr hP => ?_
    unfold StrRep at hP
    subst hP
    try simp only [q_bind_some, castInt_int, q_castBool, q_castStr, q_castPtr, q_castFn, q_castAgg, q_castTuple, q_uncons, q_isNil, q_sl, q_nils, q_emp, q_ptr, q_nilp, q_fn, q_cond_true, q_cond_false, Bool.not_true, Bool.not_false, decide_true, decide_false, List.cons_append, List.nil_append, hr]
    refine B.run (l5Has_runs hlen hu x) ?_
    try simp only [q_bind_some, castInt_int, q_castBool, q_castStr, q_castPtr, q_castFn, q_castAgg, q_castTuple, q_uncons, q_isNil, q_sl, q_nils, q_emp, q_ptr, q_nilp, q_fn, q_cond_true, q_cond_false, Bool.not_true, Bool.not_false, decide_true, decide_false, List.cons_append, List.nil_append]
    by_cases hm : x ∈ out
    · try simp only [q_bind_some, castInt_int, q_castBool, q_castStr, q_castPtr, q_castFn, q_castAgg, q_castTuple, q_uncons, q_isNil, q_sl, q_nils, q_emp, q_ptr, q_nilp, q_fn, q_cond_true, q_cond_false, Bool.not_true, Bool.not_false, decide_true, decide_false, List.cons_append, List.nil_append, hm, spec_l5Uses.A0_ret]
      refine W.ret ⟨?_, rfl⟩
      rw [List.any_eq_true.2 ⟨x, List.mem_of_getElem? hx, by simp [hm]⟩]
    · try simp only [q_bind_some, castInt_int, q_castBool, q_castStr, q_castPtr, q_castFn, q_castAgg, q_castTuple, q_uncons, q_isNil, q_sl, q_nils, q_emp, q_ptr, q_nilp, q_fn, q_cond_true, q_cond_false, Bool.not_true, Bool.not_false, decide_true, decide_false, List.cons_append, List.nil_append, hm, wrap_next (show i < n.uses.length by omega) (by omega)]
      refine W.again (i + 1) ⟨by omega, fun j y hj hy => ?_⟩ (by omega) rfl rfl
      by_cases hij : j = i
      · subst hij
        rw [hx] at hy
        injection hy with hy
        rw [← hy]; exact hm
      · exact hok j y (by omega) hy
  · try simp only [q_bind_some, castInt_int, q_castBool, q_castStr, q_castPtr, q_castFn, q_castAgg, q_castTuple, q_uncons, q_isNil, q_sl, q_nils, q_emp, q_ptr, q_nilp, q_fn, q_cond_true, q_cond_false, Bool.not_true, Bool.not_false, decide_true, decide_false, List.cons_append, List.nil_append, spec_l5Uses.A0_x0]
    refine W.ret ⟨?_, rfl⟩
    rw [List.any_eq_false.2 fun x hx => by
      obtain ⟨j, hj, rfl⟩ := List.getElem_of_mem hx
      simpa using hok j _ (by omega) (List.getElem?_eq_getElem hj)]
end Go.B
