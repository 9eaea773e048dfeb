/- The program's GraphOk and the reference's answer the same at all nodes whose names and lists hold together at most 2^20 letters and parts, and the program leaves its argument as it was; at more of them the law says nothing. -/
import Derived.Test.YtlppcfjapmmkkaaFFnExactGraphOk
import Derived.Test.YtlppcfjapmmkkaaLib
namespace Go.Proofs.Ytlppcfjapmmkkaa.Pure
open Go.RowKit Go.Proofs.Ytlppcfjapmmkkaa.Q Go.Proofs.YtlppcfjapmmkkaaW.PrintWords Go.Proofs.YtlppcfjapmmkkaaW.PrintLast Go.Proofs.Ytlppcfjapmmkkaa.Lib Go.Proofs.Ytlppcfjapmmkkaa.Open

/-! ### lists of texts -/
def short (s : ByteArray) : Prop := s.size ≤ 1048576
def shorts (l : List ByteArray) : Prop := l.length ≤ 1048576 ∧ ∀ s, s ∈ l → short s
theorem rdOf_nth (xs : List ByteArray) (i : Nat) (h : i < xs.length) : rdOf ByteArray.empty xs (i : Int) = xs[i] := rdOf_get h
theorem szStrings_ev (l : List ByteArray) (hl : fitList strOk l) (acc : Int) (h0 : 0 ≤ acc) (h1 : acc ≤ 1048576) : ∃ r, Ev (fun k => laws_szStringS.f k l acc) r ∧ r ≤ acc ∧ (0 ≤ r → shorts l) := by
  refine sz_whole (L := laws_szStringS.l0) (g := fun _ s acc => some (wrap64 (acc - (s.size : Int)))) (rdx := rdOf ByteArray.empty) (P := short) rdOf_nth ?_ l hl.1 ?_ acc h0 h1
  · intro k xs acc i
    simp only [laws_szStringS.l0, Option.bind_some]
  · intro s hs acc h0 h1
    have := hl.2 s hs
    unfold strOk at this
    rw [wrap_id (by omega) (by omega)]
    exact ⟨_, Ev.now _, by omega, fun h => by unfold short; omega⟩
theorem toStrings_ev (l : List ByteArray) (hl : l.length ≤ 1048576) : Ev (fun k => laws_toStringS.f k l) l := by
  have := map_whole (L := laws_toStringS.l0) (g := fun _ s => some s) (rdx := rdOf ByteArray.empty) (f := id) (⟨#[]⟩ : ByteArray) 17592186044416 rdOf_nth (fun k xs out i => by simp only [laws_toStringS.l0, Option.bind_some]) l hl (by omega) (fun s _ => Ev.now _)
  rw [List.map_id] at this
  exact this
theorem eqStrings_ev (l : List ByteArray) (hl : l.length ≤ 4611686018427387904) : Ev (fun k => laws_eqStringS.f k l l) true := by
  refine eq_whole (L := laws_eqStringS.l0) (g := fun _ a b => if a.toList = b.toList then some true else some false) (rdx := rdOf ByteArray.empty) rdOf_nth ?_ l hl (fun s _ => Ev.const (by rw [if_pos rfl]))
  intro k xs ys i
  simp only [laws_eqStringS.l0]
  split
  · split
    · split
      · split <;> rfl
      · rfl
    · rfl
  · rfl

/-! ### ascending -/
def above : Option ByteArray → ByteArray → Bool
  | none, _ => true
  | some q, x => Op.bytesLess q.toList x.toList
theorem wrap_pred {i : Nat} (h : 0 < i) (hn : i ≤ 4611686018427387904) : wrap64 ((i : Int) - 1) = ((i - 1 : Nat) : Int) := by rw [wrap_id (by omega) (by omega)]; omega

/-! ### nodes -/
def shortN (x : S70) : Prop := short x.f0 ∧ shorts x.f1
def conN (x : S70) : S64 := ⟨x.f0, x.f1⟩
theorem rdLN (xs : List S70) (i : Nat) (h : i < xs.length) : rd_T70 xs (i : Int) = xs[i] := by simp [rd_T70, h]
theorem rdIN (xs : List S64) (i : Nat) (h : i < xs.length) : rd_T64 xs (i : Int) = xs[i] := by simp [rd_T64, h]
theorem szNode_ev (x : S70) (hx : fit70 x) (acc : Int) (h0 : 0 ≤ acc) (h1 : acc ≤ 1048576) : ∃ r, Ev (fun k => laws_szGraphNode.f k x.f0 x.f1 acc) r ∧ r ≤ acc ∧ (0 ≤ r → shortN x) := by
  obtain ⟨hs, hl⟩ := hx
  unfold strOk at hs
  unfold laws_szGraphNode.f
  rw [wrap_id (by omega) (by omega)]
  by_cases h : acc - (x.f0.size : Int) < 0
  · exact ⟨-1, Ev.pos h (Ev.now _), by omega, fun h => by omega⟩
  · obtain ⟨r, hr, hle, hP⟩ := szStrings_ev x.f1 hl (acc - x.f0.size) (by omega) (by omega)
    by_cases hn : r < 0
    · exact ⟨-1, Ev.neg h (Ev.bind hr (Ev.pos hn (Ev.now _))), by omega, fun h => by omega⟩
    · exact ⟨r, Ev.neg h (Ev.bind hr (Ev.neg hn (Ev.now _))), by omega, fun h => ⟨by unfold short; omega, hP h⟩⟩
theorem szNodes_ev (l : List S70) (hl : fitList fit70 l) (acc : Int) (h0 : 0 ≤ acc) (h1 : acc ≤ 1048576) : ∃ r, Ev (fun k => laws_szGraphNodeS.f k l acc) r ∧ r ≤ acc ∧ (0 ≤ r → l.length ≤ 1048576 ∧ ∀ x, x ∈ l → shortN x) :=
  sz_whole (L := laws_szGraphNodeS.l0) (g := fun k x acc => laws_szGraphNode.f k x.f0 x.f1 acc) (rdx := rd_T70) (P := shortN) rdLN (fun k xs acc i => by simp only [laws_szGraphNodeS.l0]) l hl.1 (fun x hx acc h0 h1 => szNode_ev x (hl.2 x hx) acc h0 h1) acc h0 h1
theorem toNodes_ev (l : List S70) (hl : l.length ≤ 1048576) (hs : ∀ x, x ∈ l → shortN x) : Ev (fun k => laws_toGraphNodeS.f k l) (l.map conN) := by
  refine map_whole (L := laws_toGraphNodeS.l0) (g := fun k x => (laws_toGraphNode.f k x.f0 x.f1).bind fun bt => some (⟨bt.1, bt.2⟩ : S64)) (rdx := rd_T70) (f := conN) z64 7036874417766 rdLN ?_ l hl (by omega) ?_
  · intro k xs out i
    simp only [laws_toGraphNodeS.l0]
    cases laws_toGraphNode.f k (rd_T70 xs i).f0 (rd_T70 xs i).f1 <;> rfl
  · intro x hx
    unfold laws_toGraphNode.f
    exact Ev.bind (Ev.bind (toStrings_ev x.f1 (hs x hx).2.1) (Ev.now _)) (Ev.now _)
theorem eqNodes_ev (l : List S64) (hl : l.length ≤ 4611686018427387904) (hs : ∀ x, x ∈ l → x.f1.length ≤ 4611686018427387904) : Ev (fun k => laws_eqGraphNodeS.f k l l) true := by
  refine eq_whole (L := laws_eqGraphNodeS.l0) (g := fun k x y => laws_eqGraphNode.f k x.f0 x.f1 y.f0 y.f1) (rdx := rd_T64) rdIN (fun k xs ys i => by simp only [laws_eqGraphNodeS.l0]) l hl (fun x hx => ?_)
  unfold laws_eqGraphNode.f
  exact Ev.pos rfl (Ev.bind (eqStrings_ev x.f1 (hs x hx)) (Ev.pos rfl (Ev.now _)))
/-! ### a graph is ok -/
/-- From place i on: few uses, and each name above the one ahead. -/
def okFrom : List S64 → Option ByteArray → Bool
  | [], _ => true
  | x :: r, p => decide (x.f1.length ≤ 4) && (above p x.f0 && okFrom r (some x.f0))
def before (l : List S64) (i : Nat) : Option ByteArray := if h : i - 1 < l.length then (if 0 < i then some (l[i - 1].f0) else none) else none
theorem before_pos {l : List S64} {i : Nat} (h0 : 0 < i) (h : i - 1 < l.length) : before l i = some (l[i - 1].f0) := by rw [before, dif_pos h, if_pos h0]
theorem before_zero (l : List S64) : before l 0 = none := by simp [before]
theorem specOk_loop (l : List S64) (hs : l.length ≤ 4611686018427387904) : ∀ (d i : Nat), l.length = i + d → Ev (fun k => spec_GraphOk.l0 k l (i : Int)) (okFrom (l.drop i) (before l i)) := by
  intro d
  induction d with
  | zero =>
    intro i hi
    refine Ev.eq (Ev.step (f := fun _ => some true) (fun k => by simp only [spec_GraphOk.l0]; rw [if_neg (by omega)]) (Ev.now _)) ?_
    rw [drop_end (by omega)]
    rfl
  | succ d ih =>
    intro i hi
    have hl : i < l.length := by omega
    have hb := before_pos (l := l) (i := i + 1) (by omega) (by omega)
    have hrec := ih (i + 1) (by omega)
    rw [hb] at hrec
    simp only [Nat.add_sub_cancel] at hrec
    rw [drop_cons hl, okFrom]
    refine Ev.step (fun k => by simp only [spec_GraphOk.l0]; rw [if_pos (by omega), rdIN l i hl, wrap_succ hl hs]) ?_
    by_cases h0 : 0 < i
    · rw [before_pos h0 (by omega)]
      refine Ev.pos (by omega) (Ev.pos (by omega) ?_)
      rw [wrap_pred h0 (by omega), rdIN l (i - 1) (by omega)]
      refine Ev.pos (by omega) (Ev.pos (by omega) ?_)
      by_cases hb : Op.bytesLess (l[i - 1].f0).toList (l[i].f0).toList = true
      · refine Ev.pos hb ?_
        by_cases h4 : (l[i].f1.length : Int) > 4
        · refine Ev.pos h4 (Ev.eq (Ev.now _) ?_)
          rw [decide_eq_false (by omega)]
          rfl
        · refine Ev.neg h4 (Ev.eq hrec ?_)
          simp only [above, hb, Bool.true_and, decide_eq_true (show l[i].f1.length ≤ 4 by omega)]
      · refine Ev.neg hb (Ev.eq (Ev.now _) ?_)
        simp only [above, Bool.eq_false_iff.mpr hb, Bool.false_and, Bool.and_false]
    · obtain rfl : i = 0 := by omega
      rw [before_zero]
      refine Ev.neg (by omega) (Ev.pos (by omega) ?_)
      by_cases h4 : (l[0].f1.length : Int) > 4
      · refine Ev.pos h4 (Ev.eq (Ev.now _) ?_)
        rw [decide_eq_false (by omega)]
        rfl
      · refine Ev.neg h4 (Ev.eq hrec ?_)
        simp only [above, Bool.true_and, decide_eq_true (show l[0].f1.length ≤ 4 by omega)]
theorem implOk_loop (l : List S64) (hs : l.length ≤ 4611686018427387904) : ∀ (d i : Nat), l.length = i + d → Ev (fun k => impl_GraphOk.l0 k l l (l.length : Int) (i : Int)) (okFrom (l.drop i) (before l i) && decide (l.length ≤ 8)) := by
  intro d
  induction d with
  | zero =>
    intro i hi
    refine Ev.eq (Ev.step (f := fun _ => some (decide ((l.length : Int) ≤ 8))) (fun k => by simp only [impl_GraphOk.l0]; rw [if_neg (by omega)]) (Ev.now _)) ?_
    rw [drop_end (by omega), okFrom, Bool.true_and, decide_eq_decide]
    omega
  | succ d ih =>
    intro i hi
    have hl : i < l.length := by omega
    have hb := before_pos (l := l) (i := i + 1) (by omega) (by omega)
    have hrec := ih (i + 1) (by omega)
    rw [hb] at hrec
    simp only [Nat.add_sub_cancel] at hrec
    rw [drop_cons hl, okFrom]
    refine Ev.step (fun k => by simp only [impl_GraphOk.l0]; rw [if_pos (by omega), if_pos (by omega), if_pos (by omega), rdIN l i hl, wrap_succ hl hs]) ?_
    by_cases h4 : (l[i].f1.length : Int) > 4
    · refine Ev.pos h4 (Ev.eq (Ev.now _) ?_)
      rw [decide_eq_false (by omega)]
      rfl
    · refine Ev.neg h4 ?_
      rw [decide_eq_true (show l[i].f1.length ≤ 4 by omega), Bool.true_and]
      by_cases h0 : 0 < i
      · rw [before_pos h0 (by omega)]
        refine Ev.pos (by omega) ?_
        rw [wrap_pred h0 (by omega), rdIN l (i - 1) (by omega)]
        refine Ev.pos (by omega) (Ev.pos (by omega) ?_)
        by_cases hb : Op.bytesLess (l[i - 1].f0).toList (l[i].f0).toList = true
        · refine Ev.pos hb (Ev.eq hrec ?_)
          simp only [above, hb, Bool.true_and]
        · refine Ev.neg hb (Ev.eq (Ev.now _) ?_)
          simp only [above, Bool.eq_false_iff.mpr hb, Bool.false_and]
      · obtain rfl : i = 0 := by omega
        rw [before_zero]
        exact Ev.neg (by omega) (Ev.eq hrec (by rw [above, Bool.true_and]))
def graphOk (l : List S64) : Bool := okFrom l none && decide (l.length ≤ 8)
theorem implOk_ev (l : List S64) (hs : l.length ≤ 4611686018427387904) : Ev (fun k => impl_GraphOk.f k l) (graphOk l) := by
  have := implOk_loop l hs l.length 0 (by omega)
  rw [before_zero] at this
  exact this
theorem specOk_ev (l : List S64) (hs : l.length ≤ 4611686018427387904) : Ev (fun k => spec_GraphOk.f k l) (graphOk l) := by
  unfold spec_GraphOk.f graphOk
  by_cases h : (l.length : Int) > 8
  · refine Ev.pos h (Ev.eq (Ev.now _) ?_)
    rw [decide_eq_false (by omega), Bool.and_false]
  · have := specOk_loop l hs l.length 0 (by omega)
    rw [before_zero] at this
    refine Ev.neg h (Ev.eq this ?_)
    rw [decide_eq_true (show l.length ≤ 8 by omega), Bool.and_true]
    rfl

theorem FnExactGraphOk : laws_FnExactGraphOk.PureF := by
  intro l hl
  apply Ev.rounds
  unfold laws_FnExactGraphOk.f
  obtain ⟨r, hr, hle, hP⟩ := szNodes_ev l hl 1048576 (by omega) (by omega)
  refine Ev.bind hr ?_
  by_cases h : r < 0
  · exact Ev.pos h (Ev.now _)
  · obtain ⟨h1, h2⟩ := hP (by omega)
    have hlen : (l.map conN).length ≤ 4611686018427387904 := by rw [List.length_map]; omega
    refine Ev.neg h (Ev.bind (toNodes_ev l h1 h2) (Ev.bind (specOk_ev _ hlen) (Ev.bind (toNodes_ev l h1 h2) (Ev.bind (implOk_ev _ hlen) (Ev.neg (by simp) (Ev.bind (toNodes_ev l h1 h2) (Ev.bind (eqNodes_ev _ hlen ?_) (Ev.pos rfl (Ev.now _)))))))))
    intro x hx
    obtain ⟨y, hy, rfl⟩ := List.mem_map.mp hx
    have := (h2 y hy).2.1
    show y.f1.length ≤ _
    omega

end Go.Proofs.Ytlppcfjapmmkkaa.Pure
