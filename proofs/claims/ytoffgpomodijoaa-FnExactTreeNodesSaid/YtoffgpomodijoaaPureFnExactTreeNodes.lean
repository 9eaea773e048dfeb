/- The program's TreeNodes and the reference's answer the same at all trees of at most 2^20 parts and bytes, and the program leaves its argument as it was; at more of them the law says nothing. -/
import Derived.Test.YtoffgpomodijoaaFFnExactTreeNodes
import Derived.Test.YtoffgpomodijoaaOpen
import Derived.Test.YtoffgpomodijoaaLib
namespace Go.Proofs.Ytoffgpomodijoaa.Pure
open Go.RowKit Go.Proofs.Ytoffgpomodijoaa.Q Go.Proofs.YtoffgpomodijoaaW.PrintWords Go.Proofs.YtoffgpomodijoaaW.PrintLast Go.Proofs.Ytoffgpomodijoaa.Lib Go.Proofs.Ytoffgpomodijoaa.Open

/-! ### TreeExpr: trees -/
abbrev TL := S38
abbrev TI := S44
theorem TL.ind {P : TL → Prop} (h : ∀ x, (∀ y, y ∈ x.f4 → P y) → P x) (x : TL) : P x := by
  apply h
  intro y hy
  exact TL.ind h y
termination_by SizeOf.sizeOf x
decreasing_by
  have := List.sizeOf_lt_of_mem hy
  cases x
  simp at *
  omega
theorem TI.ind {P : TI → Prop} (h : ∀ x, (∀ y, y ∈ x.f4 → P y) → P x) (x : TI) : P x := by
  apply h
  intro y hy
  exact TI.ind h y
termination_by SizeOf.sizeOf x
decreasing_by
  have := List.sizeOf_lt_of_mem hy
  cases x
  simp at *
  omega
theorem TL.lt {x y : TL} (hy : y ∈ x.f4) : SizeOf.sizeOf y < SizeOf.sizeOf x := by
  have := List.sizeOf_lt_of_mem hy
  cases x
  simp at *
  omega
/-- What a tree is measured with: its texts' bytes and the number of what is in it. -/
def wtT (x : TL) : Nat := x.f2.size + x.f3.size + x.f4.length + (x.f4.attach.map fun y => wtT y.1).sum
termination_by SizeOf.sizeOf x
decreasing_by exact TL.lt y.2
theorem wtT_eq (x : TL) : (wtT x) = x.f2.size + x.f3.size + x.f4.length + (x.f4.map wtT).sum := by
  rw [wtT]
  simp
def conT (x : TL) : TI := ⟨x.f0, x.f1, x.f2, x.f3, x.f4.attach.map fun y => conT y.1⟩
termination_by SizeOf.sizeOf x
decreasing_by exact TL.lt y.2
theorem conT_eq (x : TL) : conT x = ⟨x.f0, x.f1, x.f2, x.f3, x.f4.map conT⟩ := by
  rw [conT]
  simp
theorem le_sum : ∀ (l : List Nat) (a : Nat), a ∈ l → a ≤ l.sum
  | [], _, h => by cases h
  | b :: l, a, h => by
    rw [List.sum_cons]
    rcases List.mem_cons.mp h with rfl | h
    · omega
    · have := le_sum l a h
      omega
def meas (w : Nat) (acc : Int) : Int := if (w : Int) ≤ acc then acc - w else -1
theorem meas_le {w : Nat} {acc : Int} (h : -1 ≤ acc) : meas w acc ≤ acc := by unfold meas; split <;> omega
theorem meas_ge {w : Nat} {acc : Int} (h : 0 ≤ meas w acc) : (w : Int) ≤ acc := by unfold meas at h; split at h <;> omega
theorem meas_of {w : Nat} {acc : Int} (h : (w : Int) ≤ acc) : meas w acc = acc - w := if_pos h
theorem meas_not {w : Nat} {acc : Int} (h : ¬ (w : Int) ≤ acc) : meas w acc = -1 := if_neg h
/-- A loop that measures: each part takes its measure from what is left. -/
theorem mz_loop {α : Type} {L : Nat → List α → Int → Int → Option Int} {g : Nat → α → Int → Option Int} {rdx : List α → Int → α} {w : α → Nat} (hrd : ∀ (xs : List α) (i : Nat) (h : i < xs.length), rdx xs (i : Int) = xs[i])
    (hL : ∀ k xs acc i, L (k + 1) xs acc i = if i < (xs.length : Int) then (if 0 ≤ i then ((g k (rdx xs i) acc).bind fun t => if t < 0 then some (-1) else L k xs t (wrap64 (i + 1))) else none) else some acc)
    (xs : List α) (hs : xs.length ≤ 4611686018427387904) (hg : ∀ x, x ∈ xs → ∀ acc, 0 ≤ acc → acc ≤ 1048576 → Ev (fun k => g k x acc) (meas (w x) acc)) :
    ∀ (d i : Nat) (acc : Int), xs.length = i + d → 0 ≤ acc → acc ≤ 1048576 → Ev (fun k => L k xs acc (i : Int)) (meas ((xs.drop i).map w).sum acc) := by
  intro d
  induction d with
  | zero =>
    intro i acc hi h0 h1
    rw [drop_end (by omega)]
    exact Ev.eq (Ev.step (fun k => hL k xs acc i) (Ev.neg (by omega) (Ev.now _))) (by simp [meas, h0])
  | succ d ih =>
    intro i acc hi h0 h1
    have hl : i < xs.length := by omega
    have ht := hg xs[i] (List.getElem_mem hl) acc h0 h1
    rw [drop_cons hl, List.map_cons, List.sum_cons]
    refine Ev.step (fun k => hL k xs acc i) (Ev.pos (by omega) (Ev.pos (by omega) ?_))
    rw [hrd xs i hl]
    refine Ev.bind ht ?_
    by_cases hn : (w xs[i] : Int) ≤ acc
    · rw [meas_of hn, wrap_succ hl hs]
      refine Ev.neg (by omega) (Ev.eq (ih (i + 1) _ (by omega) (by omega) (by omega)) ?_)
      unfold meas
      split <;> split <;> omega
    · rw [meas_not hn]
      refine Ev.pos (by omega) (Ev.eq (Ev.now _) ?_)
      rw [meas_not (by omega)]
theorem szTree_ev (x : TL) (hx : fit38 x) (acc : Int) (h0 : 0 ≤ acc) (h1 : acc ≤ 1048576) : Ev (fun k => laws_szTreeExpr.f k x.f0 x.f1 x.f2 x.f3 x.f4 acc) (meas (wtT x) acc) := by
  induction x using TL.ind generalizing acc with
  | h x ih =>
  obtain ⟨_, _, _, hs2, hs3, hl4, hk⟩ := hx
  unfold strOk at hs2 hs3
  unfold lenOk at hl4
  refine Ev.step (fun k => by rw [laws_szTreeExpr.f]) ?_
  rw [wrap_id (by omega) (by omega), wtT_eq x]
  by_cases c2 : acc - (x.f2.size : Int) < 0
  · exact Ev.pos c2 (Ev.eq (Ev.now _) (meas_not (by omega)).symm)
  refine Ev.neg c2 ?_
  rw [wrap_id (by omega) (by omega)]
  by_cases c3 : acc - (x.f2.size : Int) - (x.f3.size : Int) < 0
  · exact Ev.pos c3 (Ev.eq (Ev.now _) (meas_not (by omega)).symm)
  refine Ev.neg c3 ?_
  have key : Ev (fun k => laws_szTreeExprS.f k x.f4 (acc - (x.f2.size : Int) - (x.f3.size : Int))) (meas (x.f4.length + (x.f4.map wtT).sum) (acc - (x.f2.size : Int) - (x.f3.size : Int))) := by
    refine Ev.step (fun k => by rw [laws_szTreeExprS.f]) ?_
    rw [wrap_id (by omega) (by omega)]
    by_cases c4 : acc - (x.f2.size : Int) - (x.f3.size : Int) - (x.f4.length : Int) < 0
    · exact Ev.pos c4 (Ev.eq (Ev.now _) (meas_not (by omega)).symm)
    refine Ev.neg c4 ?_
    have := mz_loop (L := laws_szTreeExprS.l0) (g := fun k y acc => laws_szTreeExpr.f k y.f0 y.f1 y.f2 y.f3 y.f4 acc) (w := wtT) (rdx := rd_T38) (fun xs i h => by simp [rd_T38, h]) (fun _ _ _ _ => rfl) x.f4 (by omega) (fun y hy acc h0 h1 => ih y hy (hk y hy) acc h0 h1) x.f4.length 0 (acc - (x.f2.size : Int) - (x.f3.size : Int) - (x.f4.length : Int)) (by omega) (by omega) (by omega)
    refine Ev.eq this ?_
    rw [List.drop_zero]
    unfold meas
    split <;> split <;> omega
  refine Ev.bind key ?_
  by_cases c : ((x.f4.length + (x.f4.map wtT).sum : Nat) : Int) ≤ acc - (x.f2.size : Int) - (x.f3.size : Int)
  · rw [meas_of c, meas_of (by omega)]
    exact Ev.neg (by omega) (Ev.eq (Ev.now _) (by omega))
  · rw [meas_not c, meas_not (by omega)]
    exact Ev.pos (by omega) (Ev.now _)
theorem wt_kid {x y : TL} (hy : y ∈ x.f4) : (wtT y) + 1 ≤ (wtT x) := by
  rw [wtT_eq x]
  have h1 : (wtT y) ≤ (x.f4.map wtT).sum := le_sum _ _ (List.mem_map.mpr ⟨y, hy, rfl⟩)
  have h2 := List.length_pos_of_mem hy
  omega
theorem wt_len (x : TL) : x.f4.length ≤ (wtT x) := by rw [wtT_eq x]; omega
theorem toTree_ev (x : TL) (hw : (wtT x) ≤ 1048576) : Ev (fun k => laws_toTreeExpr.f k x.f0 x.f1 x.f2 x.f3 x.f4) (x.f0, x.f1, x.f2, x.f3, x.f4.map conT) := by
  induction x using TL.ind with
  | h x ih =>
  have hl := wt_len x
  refine Ev.step (fun k => by rw [laws_toTreeExpr.f]) ?_
  refine Ev.bind (a := x.f4.map conT) ?_ (Ev.now _)
  refine Ev.step (fun k => by rw [laws_toTreeExprS.f]) ?_
  refine map_whole (L := laws_toTreeExprS.l0) (g := fun k y => (laws_toTreeExpr.f k y.f0 y.f1 y.f2 y.f3 y.f4).bind fun b => some (⟨b.1, b.2.1, b.2.2.1, b.2.2.2.1, b.2.2.2.2⟩ : TI)) (rdx := rd_T38) _ _ (fun xs i h => by simp [rd_T38, h]) (fun k xs out i => ?_) x.f4 (by omega) (by omega) (fun y hy => ?_)
  · rw [laws_toTreeExprS.l0]
    congr 1
    congr 1
    cases laws_toTreeExpr.f k (rd_T38 xs i).f0 (rd_T38 xs i).f1 (rd_T38 xs i).f2 (rd_T38 xs i).f3 (rd_T38 xs i).f4 <;> rfl
  · have := wt_kid hy
    refine Ev.bind (ih y hy (by omega)) (Ev.eq (Ev.now _) (conT_eq y).symm)
/-- All rows in a tree are of a length that can be counted. -/
inductive okT : TI → Prop where
  | mk (x : TI) (h : x.f4.length ≤ 4611686018427387904) (g : ∀ y, y ∈ x.f4 → okT y) : okT x
theorem okT_con (x : TL) (hw : (wtT x) ≤ 1048576) : okT (conT x) := by
  induction x using TL.ind with
  | h x ih =>
  have hl := wt_len x
  rw [conT_eq]
  refine .mk _ (by simp; omega) (fun y hy => ?_)
  obtain ⟨z, hz, rfl⟩ := List.mem_map.mp hy
  have := wt_kid hz
  exact ih z hz (by omega)
theorem eqTree_ev (x : TI) (hx : okT x) : Ev (fun k => laws_eqTreeExpr.f k x.f0 x.f1 x.f2 x.f3 x.f4 x.f0 x.f1 x.f2 x.f3 x.f4) true := by
  induction x using TI.ind with
  | h x ih =>
  obtain ⟨_, hl, hk⟩ := hx
  refine Ev.step (fun k => by rw [laws_eqTreeExpr.f]) ?_
  refine Ev.pos rfl (Ev.pos rfl (Ev.pos rfl (Ev.pos rfl (Ev.bind (a := true) ?_ (Ev.pos rfl (Ev.now _))))))
  refine Ev.step (fun k => by rw [laws_eqTreeExprS.f]) ?_
  exact eq_whole (L := laws_eqTreeExprS.l0) (g := fun k y z => laws_eqTreeExpr.f k y.f0 y.f1 y.f2 y.f3 y.f4 z.f0 z.f1 z.f2 z.f3 z.f4) (rdx := rd_T44) (fun xs i h => by simp [rd_T44, h]) (fun _ _ _ _ => rfl) x.f4 hl (fun y hy => ih y hy (hk y hy))

theorem nodes_ev (x : TI) (hx : okT x) : ∃ r, Ev (fun k => spec_TreeNodes.f k x.f0 x.f1 x.f2 x.f3 x.f4) r ∧ Ev (fun k => impl_TreeNodes.f k x.f0 x.f1 x.f2 x.f3 x.f4) r := by
  induction x using TI.ind with
  | h x ih =>
  obtain ⟨_, hl, hk⟩ := hx
  have loop : ∀ (d i : Nat) (n e : Int), x.f4.length = i + d → ∃ r, Ev (fun k => spec_TreeNodes.l0 k n e (i : Int) x.f0 x.f1 x.f2 x.f3 x.f4) r ∧ Ev (fun k => impl_TreeNodes.l0 k n e x.f4 (x.f4.length : Int) (i : Int)) r := by
    intro d
    induction d with
    | zero => exact fun i n e hi => ⟨_, Ev.step (fun k => by rw [spec_TreeNodes.l0]) (Ev.neg (by omega) (Ev.now _)), Ev.step (fun k => by rw [impl_TreeNodes.l0]) (Ev.neg (by omega) (Ev.now _))⟩
    | succ d jh =>
      intro i n e hi
      have hi' : i < x.f4.length := by omega
      obtain ⟨t, hs, hm⟩ := ih x.f4[i] (List.getElem_mem hi') (hk _ (List.getElem_mem hi'))
      obtain ⟨r, ha, hb⟩ := jh (i + 1) (wrap64 (n + t.1)) (mx e t.2) (by omega)
      have hrd : rd_T44 x.f4 (i : Int) = x.f4[i] := by simp [rd_T44, hi']
      refine ⟨r, Ev.step (fun k => by rw [spec_TreeNodes.l0]) (Ev.pos (by omega) (Ev.pos (by omega) ?_)), Ev.step (fun k => by rw [impl_TreeNodes.l0]) (Ev.pos (by omega) (Ev.pos (by omega) (Ev.pos (by omega) ?_)))⟩
      · rw [hrd, wrap_succ hi' hl]
        refine Ev.bind hs ?_
        by_cases c : t.2 > e
        · rw [show mx e t.2 = t.2 by simp [mx]; omega] at ha
          exact Ev.pos c ha
        · rw [show mx e t.2 = e by simp [mx]; omega] at ha
          exact Ev.neg c ha
      · rw [hrd, wrap_succ hi' hl]
        exact Ev.bind hm hb
  obtain ⟨r, ha, hb⟩ := loop x.f4.length 0 1 0 (by omega)
  exact ⟨r, Ev.step (fun k => by rw [spec_TreeNodes.f]; rfl) ha, Ev.step (fun k => by rw [impl_TreeNodes.f]; rfl) hb⟩
theorem FnExactTreeNodes : laws_FnExactTreeNodes.PureF := by
  intro x hx
  apply Ev.rounds
  unfold laws_FnExactTreeNodes.f
  refine Ev.bind (szTree_ev x hx 1048576 (by omega) (by omega)) ?_
  by_cases h : ((wtT x) : Int) ≤ 1048576
  · rw [meas_of h]
    refine Ev.neg (by omega) ?_
    have hw : (wtT x) ≤ 1048576 := by omega
    have ho := okT_con x hw
    obtain ⟨r, ha, hb⟩ := nodes_ev _ ho
    have he := eqTree_ev _ ho
    rw [conT_eq] at ha hb he
    refine Ev.bind (toTree_ev x hw) (Ev.bind ha (Ev.bind (toTree_ev x hw) (Ev.bind hb (Ev.pos rfl ?_))))
    refine Ev.step (fun k => by rw [laws_FnExactTreeNodes.j0]) (Ev.neg (by simp) (Ev.bind (toTree_ev x hw) (Ev.bind he (Ev.pos rfl (Ev.now _)))))
  · rw [meas_not h]
    exact Ev.pos (by omega) (Ev.now _)

end Go.Proofs.Ytoffgpomodijoaa.Pure
