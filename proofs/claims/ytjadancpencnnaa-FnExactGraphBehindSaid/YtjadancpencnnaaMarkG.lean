/- Nodes are marked. -/
import Derived.Test.YtjadancpencnnaaMark
set_option linter.unusedVariables false
set_option linter.unusedSimpArgs false
namespace Go.A
open Go.HM Go.Proofs
def GraphNode.Sh (σ : Heap) (cs : List V) (x : GraphNode) : Prop := ∃ s a, cs = [.str s, a] ∧ RepS 1 StrSh σ a x.uses
theorem GraphNode.Rep.sh {lo hi : Nat} {σ : Heap} {cs : List V} {x : GraphNode} (h : GraphNode.Rep (win lo hi σ) cs x) : GraphNode.Sh (win lo hi σ) cs x := by
  cases h with
  | mk h0 => exact ⟨_, _, rfl, h0.mono (Lh.refl _) fun cs x _ hc => ⟨x, hc⟩⟩
theorem GraphNode.Sh.sm {lo hi : Nat} {σ σ' : Heap} (s : Sm lo hi σ σ') {cs cs' : List V} {x : GraphNode} (hc : CSame cs cs') (h : GraphNode.Sh (win lo hi σ) cs x) : GraphNode.Sh (win lo hi σ') cs' x := by
  obtain ⟨t, a, rfl, h⟩ := h
  obtain ⟨y, ys, rfl, k1, hc⟩ := csame_cons hc
  obtain ⟨z, zs, rfl, k2, hc⟩ := csame_cons hc
  obtain rfl := csame_nil hc
  obtain ⟨t', rfl⟩ := ksame_str k1
  obtain rfl := ksame_rep h k2
  exact ⟨t', z, rfl, s.rep h fun cs cs' x _ hc hp => by obtain ⟨u, rfl⟩ := hp; exact csame_str hc⟩
def mkG (x : GraphNode) : Nat := 1 + x.uses.length
theorem mkG_le (l : List GraphNode) : totS mkG l ≤ l.length + totS GraphNode.total l := by
  induction l with
  | nil => exact Nat.le_refl _
  | cons x l ih =>
    have e := GraphNode.total_eq x
    have e1 : mkG x = 1 + x.uses.length := rfl
    rw [totS, totS, List.length_cons]
    omega
theorem markGraphNodeS_ends {lo hi : Nat} {σ : Heap} {v : V} {l : List GraphNode} (h : RepS 2 (GraphNode.Sh (win lo hi σ)) (win lo hi σ) v l) {n : Nat} (h1 : 1 ≤ n) (h2 : n + totS mkG l ≤ 1099511627776) :
    ∃ σ', Runs G n_laws_markGraphNodeS [v, .int .i64 (n : Int)] σ (.int .i64 ((n + totS mkG l : Nat) : Int)) σ' ∧ Sm lo hi σ σ' := by
  suffices hE : HM.Ends G n_laws_markGraphNodeS [v, .int .i64 (n : Int)] σ (fun w σ' => w = .int .i64 ((n + totS mkG l : Nat) : Int) ∧ Sm lo hi σ σ') by
    obtain ⟨w, σ', ⟨rfl, hp⟩, hr⟩ := hE
    exact ⟨σ', hr, hp⟩
  have hlen : l.length ≤ totS mkG l := by
    clear h h2
    induction l with
    | nil => exact Nat.le_refl _
    | cons x l ih =>
      have e1 : mkG x = 1 + x.uses.length := rfl
      rw [totS, List.length_cons]; omega
  refine HM.Ends.mk (W.to (fun k _ => laws_markGraphNodeS.eq k _ _ _) ?_)
  refine W.loop (S := Nat × Heap) (fun s => s.1 ≤ l.length ∧ Sm lo hi σ s.2) (fun s => [.v v, .v (.int .i64 ((n + totS mkG (l.take s.1) : Nat) : Int)), .v (.int .i64 (s.1 : Int))]) (fun s => s.2) (fun s => l.length - s.1) (fun ⟨i, σi⟩ ⟨hi', hs⟩ => ?_)
    (0, σ) ⟨Nat.zero_le _, Sm.refl _ _ _⟩
  simp only at hi' hs ⊢
  refine W.to (fun k _ => by rw [laws_markGraphNodeS.L0_step]) ?_
  refine B.len h (B.ite (fun hlt => ?_) fun hlt => ?_)
  · have hil : i < l.length := by omega
    have hx : l[i]? = some l[i] := List.getElem?_eq_getElem hil
    generalize l[i] = x at hx
    have hnext : totS mkG (l.take (i + 1)) = totS mkG (l.take i) + (1 + x.uses.length) := by rw [take_next' hx, totS_append, totS, totS]; rfl
    have hle := totS_take_le mkG l (i + 1)
    obtain ⟨r, o, hv, ⟨cs, hr, hP⟩, hw⟩ := h.wat hx
    refine B.run (markText_runs σi (n := n + totS mkG (l.take i)) (by omega) (by omega)) ?_
    try simp only [q_bind_some, castInt_int, q_castBool, q_castStr, q_castPtr, q_castFn, q_castAgg, q_castTuple, q_uncons, q_isNil, q_sl, q_nils, q_emp, q_ptr, q_nilp, q_fn, q_cond_true, q_cond_false, Bool.not_true, Bool.not_false, decide_true, decide_false, List.cons_append, List.nil_append]
    obtain ⟨cs1, hr1, hc1⟩ := hs.rdc hr
    obtain ⟨t, a, rfl, hA⟩ := hP.sm hs hc1
    obtain ⟨σ2, hw2, hs2⟩ := hw σi hs 0 [.str (mText (n + totS mkG (l.take i)))] _ hr1 (by simp) ⟨rfl, fun j x y hx hy => by
      cases j with
      | zero => simp at hx hy; subst hx hy; trivial
      | succ j => simp at hy⟩
    have hs02 := hs.trans hs2
    obtain ⟨cs2, hr2, hc2⟩ := hs02.rdc hr
    obtain ⟨t2, a2, rfl, hA2⟩ := hP.sm hs02 hc2
    have e1 : rdc σ2 r (o + 1) 1 = some [a2] := rdc_sub hr2 1 1 (by omega)
    have w1 : IntKind.wrap .i64 (((n + totS mkG (l.take i) : Nat) : Int) + 1) = ((n + totS mkG (l.take i) + 1 : Nat) : Int) := by rw [wrap_id (by omega) (by omega)]; omega
    try simp only [q_bind_some, castInt_int, q_castBool, q_castStr, q_castPtr, q_castFn, q_castAgg, q_castTuple, q_uncons, q_isNil, q_sl, q_nils, q_emp, q_ptr, q_nilp, q_fn, q_cond_true, q_cond_false, Bool.not_true, Bool.not_false, decide_true, decide_false, List.cons_append, List.nil_append, hv, hw2, e1, w1]
    obtain ⟨σ3, c3, hs3⟩ := markStringS_ends hA2 (n := n + totS mkG (l.take i) + 1) (by omega) (by omega)
    refine B.run c3 ?_
    try simp only [q_bind_some, castInt_int, q_castBool, q_castStr, q_castPtr, q_castFn, q_castAgg, q_castTuple, q_uncons, q_isNil, q_sl, q_nils, q_emp, q_ptr, q_nilp, q_fn, q_cond_true, q_cond_false, Bool.not_true, Bool.not_false, decide_true, decide_false, List.cons_append, List.nil_append]
    exact W.again (i + 1, σ3) ⟨by show i + 1 ≤ l.length; omega, hs02.trans hs3⟩ (by simp only; omega) (by
      have : n + totS mkG (l.take i) + 1 + x.uses.length = n + totS mkG (l.take (i + 1)) := by omega
      rw [this, wrap_next hil (by omega)]) rfl
  · rw [List.take_of_length_le (by omega)]
    try simp only [q_bind_some, castInt_int, q_castBool, q_castStr, q_castPtr, q_castFn, q_castAgg, q_castTuple, q_uncons, q_isNil, q_sl, q_nils, q_emp, q_ptr, q_nilp, q_fn, q_cond_true, q_cond_false, Bool.not_true, Bool.not_false, decide_true, decide_false, List.cons_append, List.nil_append, laws_markGraphNodeS.A0_x0]
    exact W.ret ⟨rfl, hs⟩
end Go.A
