/- The program's TreeSame and the reference's both tell whether two modules are one, and the program leaves its arguments as they were. -/
import Derived.Test.YthcinellhbmcoaaFFnExactTreeSame
import Derived.Test.YthcinellhbmcoaaOpen
import Derived.Test.YthcinellhbmcoaaLib
namespace Go.Proofs.Ythcinellhbmcoaa.Pure
open Go.RowKit Go.Proofs.Ythcinellhbmcoaa.Q Go.Proofs.YthcinellhbmcoaaW.PrintWords Go.Proofs.YthcinellhbmcoaaW.PrintLast Go.Proofs.Ythcinellhbmcoaa.Lib Go.Proofs.Ythcinellhbmcoaa.Open
set_option linter.unusedVariables false

/-! ### lists of texts -/
def short (s : ByteArray) : Prop := s.size ≤ 1048576
def shorts (l : List ByteArray) : Prop := l.length ≤ 1048576 ∧ ∀ s, s ∈ l → short s

theorem rdOf_nth (xs : List ByteArray) (i : Nat) (h : i < xs.length) : rdOf ByteArray.empty xs (i : Int) = xs[i] := rdOf_get h
theorem szStrings_ev (l : List ByteArray) (hl : fitList strOk l) (acc : Int) (h0 : 0 ≤ acc) (h1 : acc ≤ 1048576) : ∃ r, Ev (fun k => laws_szStringS.f k l acc) r ∧ r ≤ acc ∧ (0 ≤ r → shorts l) := by
  refine sz_whole (L := laws_szStringS.l0) (g := fun _ s acc => some (wrap64 (acc - (s.size : Int)))) (rdx := rdOf ByteArray.empty) (P := short) rdOf_nth ?_ l hl.1 ?_ acc h0 h1
  · intro k xs acc i
    simp only [laws_szStringS.l0, Option.bind_some]
  · intro s hs acc h0 h1
    have := hl.2 s hs
    unfold strOk at this
    rw [wrap_id (by omega) (by omega)]
    exact ⟨_, Ev.now _, by omega, fun h => by unfold short; omega⟩
theorem toStrings_ev (l : List ByteArray) (hl : l.length ≤ 1048576) : Ev (fun k => laws_toStringS.f k l) l := by
  have := map_whole (L := laws_toStringS.l0) (g := fun _ s => some s) (rdx := rdOf ByteArray.empty) (f := id) (⟨#[]⟩ : ByteArray) 17592186044416 rdOf_nth (fun k xs out i => by simp only [laws_toStringS.l0, Option.bind_some]) l hl (by omega) (fun s _ => Ev.now _)
  rw [List.map_id] at this
  exact this
theorem eqStrings_ev (l : List ByteArray) (hl : l.length ≤ 4611686018427387904) : Ev (fun k => laws_eqStringS.f k l l) true := by
  refine eq_whole (L := laws_eqStringS.l0) (g := fun _ a b => if a.toList = b.toList then some true else some false) (rdx := rdOf ByteArray.empty) rdOf_nth ?_ l hl (fun s _ => Ev.const (by rw [if_pos rfl]))
  intro k xs ys i
  simp only [laws_eqStringS.l0]
  split
  · split
    · split
      · split <;> rfl
      · rfl
    · rfl
  · rfl

/-! ### TreeExpr: trees -/
abbrev TL := S78
abbrev TI := S43
theorem TL.ind {P : TL → Prop} (h : ∀ x, (∀ y, y ∈ x.f4 → P y) → P x) (x : TL) : P x := by
  apply h
  intro y hy
  exact TL.ind h y
termination_by SizeOf.sizeOf x
decreasing_by
  have := List.sizeOf_lt_of_mem hy
  cases x
  simp at *
  omega
theorem TI.ind {P : TI → Prop} (h : ∀ x, (∀ y, y ∈ x.f4 → P y) → P x) (x : TI) : P x := by
  apply h
  intro y hy
  exact TI.ind h y
termination_by SizeOf.sizeOf x
decreasing_by
  have := List.sizeOf_lt_of_mem hy
  cases x
  simp at *
  omega
theorem TL.lt {x y : TL} (hy : y ∈ x.f4) : SizeOf.sizeOf y < SizeOf.sizeOf x := by
  have := List.sizeOf_lt_of_mem hy
  cases x
  simp at *
  omega
/-- What a tree is measured with: its texts' bytes and the number of what is in it. -/
def wtT (x : TL) : Nat := x.f2.size + x.f3.size + x.f4.length + (x.f4.attach.map fun y => wtT y.1).sum
termination_by SizeOf.sizeOf x
decreasing_by exact TL.lt y.2
theorem wtT_eq (x : TL) : (wtT x) = x.f2.size + x.f3.size + x.f4.length + (x.f4.map wtT).sum := by
  rw [wtT]
  simp
def conT (x : TL) : TI := ⟨x.f0, x.f1, x.f2, x.f3, x.f4.attach.map fun y => conT y.1⟩
termination_by SizeOf.sizeOf x
decreasing_by exact TL.lt y.2
theorem conT_eq (x : TL) : conT x = ⟨x.f0, x.f1, x.f2, x.f3, x.f4.map conT⟩ := by
  rw [conT]
  simp
theorem le_sum : ∀ (l : List Nat) (a : Nat), a ∈ l → a ≤ l.sum
  | [], _, h => by cases h
  | b :: l, a, h => by
    rw [List.sum_cons]
    rcases List.mem_cons.mp h with rfl | h
    · omega
    · have := le_sum l a h
      omega
def meas (w : Nat) (acc : Int) : Int := if (w : Int) ≤ acc then acc - w else -1
theorem meas_le {w : Nat} {acc : Int} (h : -1 ≤ acc) : meas w acc ≤ acc := by unfold meas; split <;> omega
theorem meas_ge {w : Nat} {acc : Int} (h : 0 ≤ meas w acc) : (w : Int) ≤ acc := by unfold meas at h; split at h <;> omega
theorem meas_of {w : Nat} {acc : Int} (h : (w : Int) ≤ acc) : meas w acc = acc - w := if_pos h
theorem meas_not {w : Nat} {acc : Int} (h : ¬ (w : Int) ≤ acc) : meas w acc = -1 := if_neg h
/-- A loop that measures: each part takes its measure from what is left. -/
theorem mz_loop {α : Type} {L : Nat → List α → Int → Int → Option Int} {g : Nat → α → Int → Option Int} {rdx : List α → Int → α} {w : α → Nat} (hrd : ∀ (xs : List α) (i : Nat) (h : i < xs.length), rdx xs (i : Int) = xs[i])
    (hL : ∀ k xs acc i, L (k + 1) xs acc i = if i < (xs.length : Int) then (if 0 ≤ i then ((g k (rdx xs i) acc).bind fun t => if t < 0 then some (-1) else L k xs t (wrap64 (i + 1))) else none) else some acc)
    (xs : List α) (hs : xs.length ≤ 4611686018427387904) (hg : ∀ x, x ∈ xs → ∀ acc, 0 ≤ acc → acc ≤ 1048576 → Ev (fun k => g k x acc) (meas (w x) acc)) :
    ∀ (d i : Nat) (acc : Int), xs.length = i + d → 0 ≤ acc → acc ≤ 1048576 → Ev (fun k => L k xs acc (i : Int)) (meas ((xs.drop i).map w).sum acc) := by
  intro d
  induction d with
  | zero =>
    intro i acc hi h0 h1
    rw [drop_end (by omega)]
    exact Ev.eq (Ev.step (fun k => hL k xs acc i) (Ev.neg (by omega) (Ev.now _))) (by simp [meas, h0])
  | succ d ih =>
    intro i acc hi h0 h1
    have hl : i < xs.length := by omega
    have ht := hg xs[i] (List.getElem_mem hl) acc h0 h1
    rw [drop_cons hl, List.map_cons, List.sum_cons]
    refine Ev.step (fun k => hL k xs acc i) (Ev.pos (by omega) (Ev.pos (by omega) ?_))
    rw [hrd xs i hl]
    refine Ev.bind ht ?_
    by_cases hn : (w xs[i] : Int) ≤ acc
    · rw [meas_of hn, wrap_succ hl hs]
      refine Ev.neg (by omega) (Ev.eq (ih (i + 1) _ (by omega) (by omega) (by omega)) ?_)
      unfold meas
      split <;> split <;> omega
    · rw [meas_not hn]
      refine Ev.pos (by omega) (Ev.eq (Ev.now _) ?_)
      rw [meas_not (by omega)]
theorem szTree_ev (x : TL) (hx : fit78 x) (acc : Int) (h0 : 0 ≤ acc) (h1 : acc ≤ 1048576) : Ev (fun k => laws_szTreeExpr.f k x.f0 x.f1 x.f2 x.f3 x.f4 acc) (meas (wtT x) acc) := by
  induction x using TL.ind generalizing acc with
  | h x ih =>
  obtain ⟨_, _, _, hs2, hs3, hl4, hk⟩ := hx
  unfold strOk at hs2 hs3
  unfold lenOk at hl4
  refine Ev.step (fun k => by rw [laws_szTreeExpr.f]) ?_
  rw [wrap_id (by omega) (by omega), wtT_eq x]
  by_cases c2 : acc - (x.f2.size : Int) < 0
  · exact Ev.pos c2 (Ev.eq (Ev.now _) (meas_not (by omega)).symm)
  refine Ev.neg c2 ?_
  rw [wrap_id (by omega) (by omega)]
  by_cases c3 : acc - (x.f2.size : Int) - (x.f3.size : Int) < 0
  · exact Ev.pos c3 (Ev.eq (Ev.now _) (meas_not (by omega)).symm)
  refine Ev.neg c3 ?_
  have key : Ev (fun k => laws_szTreeExprS.f k x.f4 (acc - (x.f2.size : Int) - (x.f3.size : Int))) (meas (x.f4.length + (x.f4.map wtT).sum) (acc - (x.f2.size : Int) - (x.f3.size : Int))) := by
    refine Ev.step (fun k => by rw [laws_szTreeExprS.f]) ?_
    rw [wrap_id (by omega) (by omega)]
    by_cases c4 : acc - (x.f2.size : Int) - (x.f3.size : Int) - (x.f4.length : Int) < 0
    · exact Ev.pos c4 (Ev.eq (Ev.now _) (meas_not (by omega)).symm)
    refine Ev.neg c4 ?_
    have := mz_loop (L := laws_szTreeExprS.l0) (g := fun k y acc => laws_szTreeExpr.f k y.f0 y.f1 y.f2 y.f3 y.f4 acc) (w := wtT) (rdx := rd_T78) (fun xs i h => by simp [rd_T78, h]) (fun _ _ _ _ => rfl) x.f4 (by omega) (fun y hy acc h0 h1 => ih y hy (hk y hy) acc h0 h1) x.f4.length 0 (acc - (x.f2.size : Int) - (x.f3.size : Int) - (x.f4.length : Int)) (by omega) (by omega) (by omega)
    refine Ev.eq this ?_
    rw [List.drop_zero]
    unfold meas
    split <;> split <;> omega
  refine Ev.bind key ?_
  by_cases c : ((x.f4.length + (x.f4.map wtT).sum : Nat) : Int) ≤ acc - (x.f2.size : Int) - (x.f3.size : Int)
  · rw [meas_of c, meas_of (by omega)]
    exact Ev.neg (by omega) (Ev.eq (Ev.now _) (by omega))
  · rw [meas_not c, meas_not (by omega)]
    exact Ev.pos (by omega) (Ev.now _)
theorem wt_kid {x y : TL} (hy : y ∈ x.f4) : (wtT y) + 1 ≤ (wtT x) := by
  rw [wtT_eq x]
  have h1 : (wtT y) ≤ (x.f4.map wtT).sum := le_sum _ _ (List.mem_map.mpr ⟨y, hy, rfl⟩)
  have h2 := List.length_pos_of_mem hy
  omega
theorem wt_len (x : TL) : x.f4.length ≤ (wtT x) := by rw [wtT_eq x]; omega
theorem toTree_ev (x : TL) (hw : (wtT x) ≤ 1048576) : Ev (fun k => laws_toTreeExpr.f k x.f0 x.f1 x.f2 x.f3 x.f4) (x.f0, x.f1, x.f2, x.f3, x.f4.map conT) := by
  induction x using TL.ind with
  | h x ih =>
  have hl := wt_len x
  refine Ev.step (fun k => by rw [laws_toTreeExpr.f]) ?_
  refine Ev.bind (a := x.f4.map conT) ?_ (Ev.now _)
  refine Ev.step (fun k => by rw [laws_toTreeExprS.f]) ?_
  refine map_whole (L := laws_toTreeExprS.l0) (g := fun k y => (laws_toTreeExpr.f k y.f0 y.f1 y.f2 y.f3 y.f4).bind fun b => some (⟨b.1, b.2.1, b.2.2.1, b.2.2.2.1, b.2.2.2.2⟩ : TI)) (rdx := rd_T78) _ _ (fun xs i h => by simp [rd_T78, h]) (fun k xs out i => ?_) x.f4 (by omega) (by omega) (fun y hy => ?_)
  · rw [laws_toTreeExprS.l0]
    congr 1
    congr 1
    cases laws_toTreeExpr.f k (rd_T78 xs i).f0 (rd_T78 xs i).f1 (rd_T78 xs i).f2 (rd_T78 xs i).f3 (rd_T78 xs i).f4 <;> rfl
  · have := wt_kid hy
    refine Ev.bind (ih y hy (by omega)) (Ev.eq (Ev.now _) (conT_eq y).symm)
/-- All rows in a tree are of a length that can be counted. -/
inductive okT : TI → Prop where
  | mk (x : TI) (h : x.f4.length ≤ 4611686018427387904) (g : ∀ y, y ∈ x.f4 → okT y) : okT x
theorem okT_con (x : TL) (hw : (wtT x) ≤ 1048576) : okT (conT x) := by
  induction x using TL.ind with
  | h x ih =>
  have hl := wt_len x
  rw [conT_eq]
  refine .mk _ (by simp; omega) (fun y hy => ?_)
  obtain ⟨z, hz, rfl⟩ := List.mem_map.mp hy
  have := wt_kid hz
  exact ih z hz (by omega)
theorem eqTree_ev (x : TI) (hx : okT x) : Ev (fun k => laws_eqTreeExpr.f k x.f0 x.f1 x.f2 x.f3 x.f4 x.f0 x.f1 x.f2 x.f3 x.f4) true := by
  induction x using TI.ind with
  | h x ih =>
  obtain ⟨_, hl, hk⟩ := hx
  refine Ev.step (fun k => by rw [laws_eqTreeExpr.f]) ?_
  refine Ev.pos rfl (Ev.pos rfl (Ev.pos rfl (Ev.pos rfl (Ev.bind (a := true) ?_ (Ev.pos rfl (Ev.now _))))))
  refine Ev.step (fun k => by rw [laws_eqTreeExprS.f]) ?_
  exact eq_whole (L := laws_eqTreeExprS.l0) (g := fun k y z => laws_eqTreeExpr.f k y.f0 y.f1 y.f2 y.f3 y.f4 z.f0 z.f1 z.f2 z.f3 z.f4) (rdx := rd_T43) (fun xs i h => by simp [rd_T43, h]) (fun _ _ _ _ => rfl) x.f4 hl (fun y hy => ih y hy (hk y hy))

/-! ### trees, under the names that conversions of what holds them ask for -/
def shortTreeExpr (x : TL) : Prop := wtT x ≤ 1048576
def conTreeExpr (x : TL) : TI := ⟨x.f0, x.f1, x.f2, x.f3, x.f4.map conT⟩
theorem conT_fun : conT = conTreeExpr := funext conT_eq
theorem rdLTreeExpr (xs : List TL) (i : Nat) (h : i < xs.length) : rd_T78 xs (i : Int) = xs[i] := by simp [rd_T78, h]
theorem rdITreeExpr (xs : List TI) (i : Nat) (h : i < xs.length) : rd_T43 xs (i : Int) = xs[i] := by simp [rd_T43, h]
theorem szTreeExpr_ev (x : TL) (hx : fit78 x) (acc : Int) (h0 : 0 ≤ acc) (h1 : acc ≤ 1048576) : ∃ r, Ev (fun k => laws_szTreeExpr.f k x.f0 x.f1 x.f2 x.f3 x.f4 acc) r ∧ r ≤ acc ∧ (0 ≤ r → shortTreeExpr x) := by
  refine ⟨_, szTree_ev x hx acc h0 h1, meas_le (by omega), fun h => ?_⟩
  have := meas_ge h
  unfold shortTreeExpr
  omega
theorem szTreeExprS_ev (l : List TL) (hl : fitList fit78 l) (acc : Int) (h0 : 0 ≤ acc) (h1 : acc ≤ 1048576) : ∃ r, Ev (fun k => laws_szTreeExprS.f k l acc) r ∧ r ≤ acc ∧ (0 ≤ r → l.length ≤ 1048576 ∧ ∀ x, x ∈ l → shortTreeExpr x) := by
  obtain ⟨r, hr, h⟩ := sz_whole (L := laws_szTreeExprS.l0) (g := fun k x acc => laws_szTreeExpr.f k x.f0 x.f1 x.f2 x.f3 x.f4 acc) (rdx := rd_T78) (P := shortTreeExpr) rdLTreeExpr (fun _ _ _ _ => rfl) l hl.1 (fun x hx acc h0 h1 => szTreeExpr_ev x (hl.2 x hx) acc h0 h1) acc h0 h1
  exact ⟨r, Ev.step (fun k => by rw [laws_szTreeExprS.f]) hr, h⟩
theorem toTreeExpr_ev (x : TL) (hx : shortTreeExpr x) : Ev (fun k => laws_toTreeExpr.f k x.f0 x.f1 x.f2 x.f3 x.f4) ((conTreeExpr x).f0, (conTreeExpr x).f1, (conTreeExpr x).f2, (conTreeExpr x).f3, (conTreeExpr x).f4) := toTree_ev x hx
theorem toTreeExprS_ev (l : List TL) (hl : l.length ≤ 1048576) (hs : ∀ x, x ∈ l → shortTreeExpr x) : Ev (fun k => laws_toTreeExprS.f k l) (l.map conTreeExpr) := by
  refine Ev.step (fun k => by rw [laws_toTreeExprS.f]) ?_
  refine map_whole (L := laws_toTreeExprS.l0) (g := fun k y => (laws_toTreeExpr.f k y.f0 y.f1 y.f2 y.f3 y.f4).bind fun b => some (⟨b.1, b.2.1, b.2.2.1, b.2.2.2.1, b.2.2.2.2⟩ : TI)) (rdx := rd_T78) _ _ rdLTreeExpr (fun k xs out i => ?_) l hl (by omega) (fun y hy => Ev.bind (toTreeExpr_ev y (hs y hy)) (Ev.now _))
  rw [laws_toTreeExprS.l0]
  congr 1
  congr 1
  cases laws_toTreeExpr.f k (rd_T78 xs i).f0 (rd_T78 xs i).f1 (rd_T78 xs i).f2 (rd_T78 xs i).f3 (rd_T78 xs i).f4 <;> rfl
abbrev fewTreeExpr (x : TI) : Prop := okT x
theorem fewTreeExpr_con (x : TL) (hx : shortTreeExpr x) : fewTreeExpr (conTreeExpr x) := by
  have := okT_con x hx
  rw [conT_fun] at this
  exact this
theorem eqTreeExpr_ev (x : TI) (hx : fewTreeExpr x) : Ev (fun k => laws_eqTreeExpr.f k x.f0 x.f1 x.f2 x.f3 x.f4 x.f0 x.f1 x.f2 x.f3 x.f4) true := eqTree_ev x hx
theorem eqTreeExprS_ev (l : List TI) (hl : l.length ≤ 4611686018427387904) (hs : ∀ x, x ∈ l → fewTreeExpr x) : Ev (fun k => laws_eqTreeExprS.f k l l) true :=
  Ev.step (fun k => by rw [laws_eqTreeExprS.f]) (eq_whole (L := laws_eqTreeExprS.l0) (g := fun k y z => laws_eqTreeExpr.f k y.f0 y.f1 y.f2 y.f3 y.f4 z.f0 z.f1 z.f2 z.f3 z.f4) (rdx := rd_T43) rdITreeExpr (fun _ _ _ _ => rfl) l hl (fun x hx => eqTreeExpr_ev x (hs x hx)))

/-! ### TreeArg -/
def shortTreeArg (x : S205) : Prop := short x.f0
def conTreeArg (x : S205) : S66 := ⟨x.f0, x.f1⟩
theorem rdLTreeArg (xs : List S205) (i : Nat) (h : i < xs.length) : rd_T205 xs (i : Int) = xs[i] := by simp [rd_T205, h]
theorem rdITreeArg (xs : List S66) (i : Nat) (h : i < xs.length) : rd_T66 xs (i : Int) = xs[i] := by simp [rd_T66, h]
theorem szTreeArg_ev (x : S205) (hx : fit205 x) (acc : Int) (h0 : 0 ≤ acc) (h1 : acc ≤ 1048576) : ∃ r, Ev (fun _ => laws_szTreeArg.f x.f0 x.f1 acc) r ∧ r ≤ acc ∧ (0 ≤ r → shortTreeArg x) := by
  unfold laws_szTreeArg.f
  have hs0 : x.f0.size ≤ 9223372036854775807 := hx.1
  rw [wrap_id (by omega) (by omega)]
  refine ExEv.ite (fun h => ExEv.less _ (by omega)) (fun h0 => ?_)
  exact ⟨_, Ev.now _, by omega, fun _ => (by show x.f0.size ≤ 1048576; omega)⟩
theorem szTreeArgS_ev (l : List S205) (hl : fitList fit205 l) (acc : Int) (h0 : 0 ≤ acc) (h1 : acc ≤ 1048576) : ∃ r, Ev (fun k => laws_szTreeArgS.f k l acc) r ∧ r ≤ acc ∧ (0 ≤ r → l.length ≤ 1048576 ∧ ∀ x, x ∈ l → shortTreeArg x) := by
  exact sz_whole (L := laws_szTreeArgS.l0) (g := fun _ x acc => laws_szTreeArg.f x.f0 x.f1 acc) (rdx := rd_T205) (P := shortTreeArg) rdLTreeArg (fun k xs acc i => by simp only [laws_szTreeArgS.l0]) l hl.1 (fun x hx acc h0 h1 => szTreeArg_ev x (hl.2 x hx) acc h0 h1) acc h0 h1
theorem toTreeArg_ev (x : S205) (hx : shortTreeArg x) : Ev (fun _ => laws_toTreeArg.f x.f0 x.f1) ((conTreeArg x).f0, (conTreeArg x).f1) := by
  unfold laws_toTreeArg.f
  exact Ev.now _
theorem toTreeArgS_ev (l : List S205) (hl : l.length ≤ 1048576) (hs : ∀ x, x ∈ l → shortTreeArg x) : Ev (fun k => laws_toTreeArgS.f k l) (l.map conTreeArg) := by
  refine map_whole (L := laws_toTreeArgS.l0) (g := fun _ x => (laws_toTreeArg.f x.f0 x.f1).bind fun bt => some (⟨bt.1, bt.2⟩ : S66)) (rdx := rd_T205) (f := conTreeArg) z66 11728124029610 rdLTreeArg ?_ l hl (by omega) ?_
  · intro k xs out i
    simp only [laws_toTreeArgS.l0]
    cases laws_toTreeArg.f (rd_T205 xs i).f0 (rd_T205 xs i).f1 <;> rfl
  · intro x hx
    exact Ev.bind (toTreeArg_ev x (hs x hx)) (Ev.now _)
def fewTreeArg (x : S66) : Prop := True
theorem eqTreeArg_ev (x : S66) : Ev (fun _ => laws_eqTreeArg.f x.f0 x.f1 x.f0 x.f1) true := by
  unfold laws_eqTreeArg.f
  refine Ev.pos rfl ?_
  refine Ev.pos rfl ?_
  exact Ev.now _
theorem eqTreeArgS_ev (l : List S66) (hl : l.length ≤ 4611686018427387904) : Ev (fun k => laws_eqTreeArgS.f k l l) true :=
  eq_whole (L := laws_eqTreeArgS.l0) (g := fun _ x y => laws_eqTreeArg.f x.f0 x.f1 y.f0 y.f1) (rdx := rd_T66) rdITreeArg (fun k xs ys i => by simp only [laws_eqTreeArgS.l0]) l hl (fun x hx => eqTreeArg_ev x)
/-! ### TreeFun -/
def shortTreeFun (x : S149) : Prop := short x.f0 ∧ (x.f2.length ≤ 1048576 ∧ ∀ y, y ∈ x.f2 → shortTreeArg y) ∧ shortTreeExpr x.f4
def conTreeFun (x : S149) : S45 := ⟨x.f0, x.f1, x.f2.map conTreeArg, x.f3, conTreeExpr x.f4⟩
theorem rdLTreeFun (xs : List S149) (i : Nat) (h : i < xs.length) : rd_T149 xs (i : Int) = xs[i] := by simp [rd_T149, h]
theorem rdITreeFun (xs : List S45) (i : Nat) (h : i < xs.length) : rd_T45 xs (i : Int) = xs[i] := by simp [rd_T45, h]
theorem szTreeFun_ev (x : S149) (hx : fit149 x) (acc : Int) (h0 : 0 ≤ acc) (h1 : acc ≤ 1048576) : ∃ r, Ev (fun k => laws_szTreeFun.f k x.f0 x.f1 x.f2 x.f3 x.f4.f0 x.f4.f1 x.f4.f2 x.f4.f3 x.f4.f4 acc) r ∧ r ≤ acc ∧ (0 ≤ r → shortTreeFun x) := by
  unfold laws_szTreeFun.f
  have hs0 : x.f0.size ≤ 9223372036854775807 := hx.1
  rw [wrap_id (by omega) (by omega)]
  refine ExEv.ite (fun h => ExEv.less _ (by omega)) (fun h0 => ?_)
  refine ExEv.bind (szTreeArgS_ev x.f2 (hx.2.2.1) _ (by omega) (by omega)) (fun t2 ⟨hl2, hP2⟩ => ?_)
  refine ExEv.ite (fun h => ExEv.less _ (by omega)) (fun h2 => ?_)
  refine ExEv.bind (szTreeExpr_ev x.f4 (hx.2.2.2.2) _ (by omega) (by omega)) (fun t4 ⟨hl4, hP4⟩ => ?_)
  refine ExEv.ite (fun h => ExEv.less _ (by omega)) (fun h4 => ?_)
  exact ⟨_, Ev.now _, by omega, fun _ => ⟨(by show x.f0.size ≤ 1048576; omega), (hP2 (by omega)), (hP4 (by omega))⟩⟩
theorem szTreeFunS_ev (l : List S149) (hl : fitList fit149 l) (acc : Int) (h0 : 0 ≤ acc) (h1 : acc ≤ 1048576) : ∃ r, Ev (fun k => laws_szTreeFunS.f k l acc) r ∧ r ≤ acc ∧ (0 ≤ r → l.length ≤ 1048576 ∧ ∀ x, x ∈ l → shortTreeFun x) := by
  exact sz_whole (L := laws_szTreeFunS.l0) (g := fun k x acc => laws_szTreeFun.f k x.f0 x.f1 x.f2 x.f3 x.f4.f0 x.f4.f1 x.f4.f2 x.f4.f3 x.f4.f4 acc) (rdx := rd_T149) (P := shortTreeFun) rdLTreeFun (fun k xs acc i => by simp only [laws_szTreeFunS.l0]) l hl.1 (fun x hx acc h0 h1 => szTreeFun_ev x (hl.2 x hx) acc h0 h1) acc h0 h1
theorem toTreeFun_ev (x : S149) (hx : shortTreeFun x) : Ev (fun k => laws_toTreeFun.f k x.f0 x.f1 x.f2 x.f3 x.f4.f0 x.f4.f1 x.f4.f2 x.f4.f3 x.f4.f4) ((conTreeFun x).f0, (conTreeFun x).f1, (conTreeFun x).f2, (conTreeFun x).f3, (conTreeFun x).f4.f0, (conTreeFun x).f4.f1, (conTreeFun x).f4.f2, (conTreeFun x).f4.f3, (conTreeFun x).f4.f4) := by
  unfold laws_toTreeFun.f
  exact Ev.bind (toTreeArgS_ev x.f2 (hx.2.1).1 (hx.2.1).2) (Ev.bind (toTreeExpr_ev x.f4 hx.2.2) (Ev.now _))
theorem toTreeFunS_ev (l : List S149) (hl : l.length ≤ 1048576) (hs : ∀ x, x ∈ l → shortTreeFun x) : Ev (fun k => laws_toTreeFunS.f k l) (l.map conTreeFun) := by
  refine map_whole (L := laws_toTreeFunS.l0) (g := fun k x => (laws_toTreeFun.f k x.f0 x.f1 x.f2 x.f3 x.f4.f0 x.f4.f1 x.f4.f2 x.f4.f3 x.f4.f4).bind fun bt => some (⟨bt.1, bt.2.1, bt.2.2.1, bt.2.2.2.1, (⟨bt.2.2.2.2.1, bt.2.2.2.2.2.1, bt.2.2.2.2.2.2.1, bt.2.2.2.2.2.2.2.1, bt.2.2.2.2.2.2.2.2⟩ : S43)⟩ : S45)) (rdx := rd_T149) (f := conTreeFun) z45 2199023255552 rdLTreeFun ?_ l hl (by omega) ?_
  · intro k xs out i
    simp only [laws_toTreeFunS.l0]
    cases laws_toTreeFun.f k (rd_T149 xs i).f0 (rd_T149 xs i).f1 (rd_T149 xs i).f2 (rd_T149 xs i).f3 (rd_T149 xs i).f4.f0 (rd_T149 xs i).f4.f1 (rd_T149 xs i).f4.f2 (rd_T149 xs i).f4.f3 (rd_T149 xs i).f4.f4 <;> rfl
  · intro x hx
    exact Ev.bind (toTreeFun_ev x (hs x hx)) (Ev.now _)
def fewTreeFun (x : S45) : Prop := x.f2.length ≤ 4611686018427387904 ∧ fewTreeExpr x.f4
theorem fewTreeFun_con (x : S149) (hx : shortTreeFun x) : fewTreeFun (conTreeFun x) := ⟨(by have := (hx.2.1).1; show (x.f2.map conTreeArg).length ≤ _; rw [List.length_map]; omega), (fewTreeExpr_con x.f4 hx.2.2)⟩
theorem eqTreeFun_ev (x : S45) (hx : fewTreeFun x) : Ev (fun k => laws_eqTreeFun.f k x.f0 x.f1 x.f2 x.f3 x.f4.f0 x.f4.f1 x.f4.f2 x.f4.f3 x.f4.f4 x.f0 x.f1 x.f2 x.f3 x.f4.f0 x.f4.f1 x.f4.f2 x.f4.f3 x.f4.f4) true := by
  unfold laws_eqTreeFun.f
  refine Ev.pos rfl ?_
  refine Ev.neg (by simp) ?_
  refine Ev.bind (eqTreeArgS_ev x.f2 hx.1) (Ev.pos rfl ?_)
  refine Ev.pos rfl ?_
  refine Ev.bind (eqTreeExpr_ev x.f4 hx.2) (Ev.pos rfl ?_)
  exact Ev.now _
theorem eqTreeFunS_ev (l : List S45) (hl : l.length ≤ 4611686018427387904) (hs : ∀ x, x ∈ l → fewTreeFun x) : Ev (fun k => laws_eqTreeFunS.f k l l) true :=
  eq_whole (L := laws_eqTreeFunS.l0) (g := fun k x y => laws_eqTreeFun.f k x.f0 x.f1 x.f2 x.f3 x.f4.f0 x.f4.f1 x.f4.f2 x.f4.f3 x.f4.f4 y.f0 y.f1 y.f2 y.f3 y.f4.f0 y.f4.f1 y.f4.f2 y.f4.f3 y.f4.f4) (rdx := rd_T45) rdITreeFun (fun k xs ys i => by simp only [laws_eqTreeFunS.l0]) l hl (fun x hx => eqTreeFun_ev x (hs x hx))
/-! ### TreeMod -/
structure S32 where
  f0 : List (ByteArray)
  f1 : List (S45)
  f2 : List (S43)
def shortTreeMod (x : S26) : Prop := shorts x.f0 ∧ (x.f1.length ≤ 1048576 ∧ ∀ y, y ∈ x.f1 → shortTreeFun y) ∧ (x.f2.length ≤ 1048576 ∧ ∀ y, y ∈ x.f2 → shortTreeExpr y)
def conTreeMod (x : S26) : S32 := ⟨x.f0, x.f1.map conTreeFun, x.f2.map conTreeExpr⟩
theorem rdLTreeMod (xs : List S26) (i : Nat) (h : i < xs.length) : rd_T26 xs (i : Int) = xs[i] := by simp [rd_T26, h]
theorem szTreeMod_ev (x : S26) (hx : fit26 x) (acc : Int) (h0 : 0 ≤ acc) (h1 : acc ≤ 1048576) : ∃ r, Ev (fun k => laws_szTreeMod.f k x.f0 x.f1 x.f2 acc) r ∧ r ≤ acc ∧ (0 ≤ r → shortTreeMod x) := by
  unfold laws_szTreeMod.f
  refine ExEv.bind (szStrings_ev x.f0 (hx.1) _ (by omega) (by omega)) (fun t0 ⟨hl0, hP0⟩ => ?_)
  refine ExEv.ite (fun h => ExEv.less _ (by omega)) (fun h0 => ?_)
  refine ExEv.bind (szTreeFunS_ev x.f1 (hx.2.1) _ (by omega) (by omega)) (fun t1 ⟨hl1, hP1⟩ => ?_)
  refine ExEv.ite (fun h => ExEv.less _ (by omega)) (fun h1 => ?_)
  refine ExEv.bind (szTreeExprS_ev x.f2 (hx.2.2) _ (by omega) (by omega)) (fun t2 ⟨hl2, hP2⟩ => ?_)
  refine ExEv.ite (fun h => ExEv.less _ (by omega)) (fun h2 => ?_)
  exact ⟨_, Ev.now _, by omega, fun _ => ⟨(hP0 (by omega)), (hP1 (by omega)), (hP2 (by omega))⟩⟩
theorem toTreeMod_ev (x : S26) (hx : shortTreeMod x) : Ev (fun k => laws_toTreeMod.f k x.f0 x.f1 x.f2) ((conTreeMod x).f0, (conTreeMod x).f1, (conTreeMod x).f2) := by
  unfold laws_toTreeMod.f
  exact Ev.bind (toStrings_ev x.f0 (hx.1).1) (Ev.bind (toTreeFunS_ev x.f1 (hx.2.1).1 (hx.2.1).2) (Ev.bind (toTreeExprS_ev x.f2 (hx.2.2).1 (hx.2.2).2) (Ev.now _)))
def fewTreeMod (x : S32) : Prop := x.f0.length ≤ 4611686018427387904 ∧ x.f1.length ≤ 4611686018427387904 ∧ (∀ y, y ∈ x.f1 → fewTreeFun y) ∧ x.f2.length ≤ 4611686018427387904 ∧ (∀ y, y ∈ x.f2 → fewTreeExpr y)
theorem fewTreeMod_con (x : S26) (hx : shortTreeMod x) : fewTreeMod (conTreeMod x) := ⟨(by have := (hx.1).1; show x.f0.length ≤ _; omega), (by have := (hx.2.1).1; show (x.f1.map conTreeFun).length ≤ _; rw [List.length_map]; omega), (fun y hy => by obtain ⟨z, hz, rfl⟩ := List.mem_map.mp hy; exact fewTreeFun_con z ((hx.2.1).2 z hz)), (by have := (hx.2.2).1; show (x.f2.map conTreeExpr).length ≤ _; rw [List.length_map]; omega), (fun y hy => by obtain ⟨z, hz, rfl⟩ := List.mem_map.mp hy; exact fewTreeExpr_con z ((hx.2.2).2 z hz))⟩
theorem eqTreeMod_ev (x : S32) (hx : fewTreeMod x) : Ev (fun k => laws_eqTreeMod.f k x.f0 x.f1 x.f2 x.f0 x.f1 x.f2) true := by
  unfold laws_eqTreeMod.f
  refine Ev.bind (eqStrings_ev x.f0 hx.1) (Ev.pos rfl ?_)
  refine Ev.bind (eqTreeFunS_ev x.f1 hx.2.1 hx.2.2.1) (Ev.pos rfl ?_)
  refine Ev.bind (eqTreeExprS_ev x.f2 hx.2.2.2.1 hx.2.2.2.2) (Ev.pos rfl ?_)
  exact Ev.now _

/-! ### whether two are one -/
noncomputable def same {α : Type} (x y : α) : Bool := @decide (x = y) (Classical.propDecidable _)
theorem sameI {α : Type} {x y : α} (h : x = y) : same x y = true := @decide_eq_true _ (Classical.propDecidable _) h
theorem sameN {α : Type} {x y : α} (h : x ≠ y) : same x y = false := @decide_eq_false _ (Classical.propDecidable _) h
theorem same_iff {α β : Type} {x y : α} {a b : β} (h : x = y ↔ a = b) : same x y = same a b := by
  by_cases c : x = y
  · rw [sameI c, sameI (h.mp c)]
  · rw [sameN c, sameN (fun z => c (h.mpr z))]
theorem same_and {α β γ : Type} {x y : α} {a b : β} {c d : γ} (h : x = y ↔ a = b ∧ c = d) : same x y = (same a b && same c d) := by
  by_cases c1 : a = b
  · by_cases c2 : c = d
    · rw [sameI (h.mpr ⟨c1, c2⟩), sameI c1, sameI c2]; rfl
    · rw [sameN (fun z => c2 (h.mp z).2), sameI c1, sameN c2]; rfl
  · rw [sameN (fun z => c1 (h.mp z).1), sameN c1]; rfl
theorem same_cons {α : Type} (x y : α) (xs ys : List α) : same (x :: xs) (y :: ys) = (same x y && same xs ys) := same_and (by simp)
theorem Ev.and {A : Nat → Option Bool} {t r : Bool} (h : Ev A r) : Ev (fun k => if t = true then A k else some false) (t && r) := by
  cases t
  · exact Ev.neg (by simp) (Ev.now _)
  · exact Ev.pos rfl h
theorem Ev.nand {A : Nat → Option Bool} {t r : Bool} (h : Ev A r) : Ev (fun k => if (!t) = true then some false else A k) (t && r) := by
  cases t
  · exact Ev.pos rfl (Ev.now _)
  · exact Ev.neg (by simp) h
theorem same_str (a b : ByteArray) : same a.toList b.toList = same a b := same_iff str_iff
theorem Ev.same {α : Type} {A : Nat → Option Bool} {x y : α} [Decidable (x = y)] {r : Bool} (h : Ev A r) : Ev (fun k => if x = y then A k else some false) (same x y && r) := by
  by_cases c : x = y
  · rw [sameI c]; exact Ev.pos c h
  · rw [sameN c]; exact Ev.neg c (Ev.now _)
/-- A loop that compares two lists of one length, part by part; r is what comes behind it. -/
theorem same_loop {α : Type} (xs ys : List α) (hxy : xs.length = ys.length) (F : Nat → Nat → Option Bool) (r : Bool) (hend : Ev (F xs.length) r)
    (hstep : ∀ (i : Nat) (h : i < xs.length) (h' : i < ys.length) (r' : Bool), Ev (F (i + 1)) r' → Ev (F i) (same xs[i] ys[i] && r')) : ∀ (d i : Nat), xs.length = i + d → Ev (F i) (same (xs.drop i) (ys.drop i) && r) := by
  intro d
  induction d with
  | zero =>
    intro i hi
    rw [drop_end (by omega), drop_end (by omega), sameI rfl]
    obtain rfl : i = xs.length := by omega
    exact hend
  | succ d ih =>
    intro i hi
    have h : i < xs.length := by omega
    have h' : i < ys.length := by omega
    rw [drop_cons h, drop_cons h', same_cons, Bool.and_assoc]
    exact hstep i h h' _ (ih (i + 1) (by omega))
theorem same_whole {α : Type} (xs ys : List α) (hxy : xs.length = ys.length) (F : Nat → Nat → Option Bool) (r : Bool) (hend : Ev (F xs.length) r)
    (hstep : ∀ (i : Nat) (h : i < xs.length) (h' : i < ys.length) (r' : Bool), Ev (F (i + 1)) r' → Ev (F i) (same xs[i] ys[i] && r')) : Ev (F 0) (same xs ys && r) := by
  simpa using same_loop xs ys hxy F r hend hstep xs.length 0 (by omega)
theorem same_len {α : Type} {xs ys : List α} (h : ¬ ((xs.length : Int) = (ys.length : Int))) : same xs ys = false := sameN (fun e => h (by rw [e]))

theorem specStrings_ev (xs ys : List ByteArray) (hs : xs.length ≤ 4611686018427387904) : Ev (fun k => spec_l2Strings.f k xs ys) (same xs ys) := by
  unfold spec_l2Strings.f
  by_cases c : (xs.length : Int) = (ys.length : Int)
  · refine Ev.pos c (Ev.eq (same_whole xs ys (by omega) (fun i k => spec_l2Strings.l0 k xs ys (i : Int)) true ?_ ?_) (Bool.and_true _))
    · exact Ev.step (fun k => by rw [spec_l2Strings.l0]) (Ev.neg (by omega) (Ev.now _))
    · intro i h h' r hr
      refine Ev.step (fun k => by rw [spec_l2Strings.l0]) (Ev.pos (by omega) (Ev.pos (by omega) (Ev.pos (by omega) ?_)))
      rw [rdOf_get h, rdOf_get h', wrap_succ h hs, ← same_str]
      exact Ev.same hr
  · rw [same_len c]
    exact Ev.neg c (Ev.now _)
theorem implStrings_ev (xs ys : List ByteArray) (hs : xs.length ≤ 4611686018427387904) : Ev (fun k => slices_Equal_string_string.f k xs ys) (same xs ys) := by
  unfold slices_Equal_string_string.f
  by_cases c : (xs.length : Int) = (ys.length : Int)
  · refine Ev.pos c (Ev.eq (same_whole xs ys (by omega) (fun i k => slices_Equal_string_string.l0 k xs ys (xs.length : Int) (i : Int)) true ?_ ?_) (Bool.and_true _))
    · exact Ev.step (fun k => by rw [slices_Equal_string_string.l0]) (Ev.neg (by omega) (Ev.now _))
    · intro i h h' r hr
      refine Ev.step (fun k => by rw [slices_Equal_string_string.l0]) (Ev.pos (by omega) (Ev.pos (by omega) (Ev.pos (by omega) (Ev.pos (by omega) ?_))))
      rw [rdOf_get h, rdOf_get h', wrap_succ h hs, ← same_str]
      exact Ev.same hr
  · rw [same_len c]
    exact Ev.neg c (Ev.now _)
abbrev AI := S66
theorem rdArg (xs : List AI) (i : Nat) (h : i < xs.length) : rd_T66 xs (i : Int) = xs[i] := by simp [rd_T66, h]
theorem argTest (x y : AI) : (!((x.f0.toList) == (y.f0.toList)) || (!(x.f1 == y.f1))) = !(same x y) := by
  by_cases c : x = y
  · subst c
    rw [sameI rfl]
    simp
  · rw [sameN c]
    obtain ⟨a, b⟩ := x
    obtain ⟨a', b'⟩ := y
    simp only [S66.mk.injEq, not_and] at c
    simp
    by_cases h : a.toList = a'.toList
    · exact .inr (c (str_inj h))
    · exact .inl h
theorem implArgs_ev (xs ys : List AI) (hs : xs.length ≤ 4611686018427387904) : Ev (fun k => impl_TreeArg.f k xs ys) (same xs ys) := by
  unfold impl_TreeArg.f
  by_cases c : (xs.length : Int) = (ys.length : Int)
  · refine Ev.pos c (Ev.eq (same_whole xs ys (by omega) (fun i k => impl_TreeArg.l0 k xs ys (xs.length : Int) (i : Int)) true ?_ ?_) (Bool.and_true _))
    · exact Ev.step (fun k => by rw [impl_TreeArg.l0]) (Ev.neg (by omega) (Ev.now _))
    · intro i h h' r hr
      refine Ev.step (fun k => by rw [impl_TreeArg.l0]) (Ev.pos (by omega) (Ev.pos (by omega) (Ev.pos (by omega) (Ev.pos (by omega) ?_))))
      rw [rdArg xs i h, rdArg ys i h', wrap_succ h hs, argTest]
      exact Ev.nand hr
  · rw [same_len c]
    exact Ev.neg c (Ev.now _)
theorem tree_eq (x y : TI) (h0 : x.f0 = y.f0) (h1 : x.f1 = y.f1) (h2 : x.f2.toList = y.f2.toList) (h3 : x.f3.toList = y.f3.toList) : same x y = same x.f4 y.f4 := by
  have h2 := str_inj h2
  have h3 := str_inj h3
  cases x
  cases y
  exact same_iff (by simp_all)
theorem specExpr_ev (x : TI) (hx : okT x) : ∀ y : TI, Ev (fun k => spec_l2SameExpr.f k x.f0 x.f1 x.f2 x.f3 x.f4 y.f0 y.f1 y.f2 y.f3 y.f4) (same x y) := by
  induction x using TI.ind with
  | h x ih =>
  obtain ⟨_, hl, hk⟩ := hx
  intro y
  have jt : Ev (fun k => spec_l2SameExpr.j0 k true x.f0 x.f1 x.f2 x.f3 x.f4 y.f0 y.f1 y.f2 y.f3 y.f4) false := Ev.step (fun k => by rw [spec_l2SameExpr.j0]) (Ev.pos rfl (Ev.now _))
  refine Ev.step (fun k => by rw [spec_l2SameExpr.f]) ?_
  by_cases c0 : x.f0 = y.f0
  case neg => exact Ev.neg c0 (Ev.eq jt (sameN (fun e => c0 (by rw [e]))).symm)
  refine Ev.pos c0 ?_
  by_cases c1 : x.f1 = y.f1
  case neg => exact Ev.neg c1 (Ev.eq jt (sameN (fun e => c1 (by rw [e]))).symm)
  refine Ev.pos c1 ?_
  by_cases c2 : x.f2.toList = y.f2.toList
  case neg => exact Ev.neg c2 (Ev.eq jt (sameN (fun e => c2 (by rw [e]))).symm)
  refine Ev.pos c2 ?_
  by_cases c3 : x.f3.toList = y.f3.toList
  case neg => exact Ev.neg c3 (Ev.eq jt (sameN (fun e => c3 (by rw [e]))).symm)
  refine Ev.pos c3 ?_
  rw [tree_eq x y c0 c1 c2 c3]
  by_cases c4 : (x.f4.length : Int) = (y.f4.length : Int)
  case neg =>
    rw [show ((x.f4.length : Int) != (y.f4.length : Int)) = true by simpa using c4, same_len c4]
    exact jt
  rw [show ((x.f4.length : Int) != (y.f4.length : Int)) = false by simpa using c4]
  refine Ev.step (fun k => by rw [spec_l2SameExpr.j0]) (Ev.neg (by simp) ?_)
  refine Ev.eq (same_whole x.f4 y.f4 (by omega) (fun i k => spec_l2SameExpr.l0 k (i : Int) x.f0 x.f1 x.f2 x.f3 x.f4 y.f0 y.f1 y.f2 y.f3 y.f4) true ?_ ?_) (Bool.and_true _)
  · exact Ev.step (fun k => by rw [spec_l2SameExpr.l0]) (Ev.neg (by omega) (Ev.now _))
  · intro i h h' r hr
    refine Ev.step (fun k => by rw [spec_l2SameExpr.l0]) (Ev.pos (by omega) (Ev.pos (by omega) (Ev.pos (by omega) ?_)))
    rw [rdITreeExpr x.f4 i h, rdITreeExpr y.f4 i h', wrap_succ h hl]
    exact Ev.bind (ih x.f4[i] (List.getElem_mem h) (hk _ (List.getElem_mem h)) y.f4[i]) (Ev.and hr)
theorem implExprs_of (xs ys : List TI) (hl : xs.length ≤ 4611686018427387904) (ih : ∀ x, x ∈ xs → ∀ y : TI, Ev (fun k => impl_sameExpr.f k x.f0 x.f1 x.f2 x.f3 x.f4 y.f0 y.f1 y.f2 y.f3 y.f4) (same x y)) : Ev (fun k => slices_EqualFunc_impl_TreeExpr__impl_sameExpr.f k xs ys) (same xs ys) := by
  refine Ev.step (fun k => by rw [slices_EqualFunc_impl_TreeExpr__impl_sameExpr.f]) ?_
  by_cases c : (xs.length : Int) = (ys.length : Int)
  · refine Ev.pos c (Ev.eq (same_whole xs ys (by omega) (fun i k => slices_EqualFunc_impl_TreeExpr__impl_sameExpr.l0 k ys xs (xs.length : Int) (i : Int)) true ?_ ?_) (Bool.and_true _))
    · exact Ev.step (fun k => by rw [slices_EqualFunc_impl_TreeExpr__impl_sameExpr.l0]) (Ev.neg (by omega) (Ev.now _))
    · intro i h h' r hr
      refine Ev.step (fun k => by rw [slices_EqualFunc_impl_TreeExpr__impl_sameExpr.l0]) (Ev.pos (by omega) (Ev.pos (by omega) (Ev.pos (by omega) (Ev.pos (by omega) ?_))))
      rw [rdITreeExpr xs i h, rdITreeExpr ys i h', wrap_succ h hl]
      exact Ev.bind (ih xs[i] (List.getElem_mem h) ys[i]) (Ev.and hr)
  · rw [same_len c]
    exact Ev.neg c (Ev.now _)
theorem implExpr_ev (x : TI) (hx : okT x) : ∀ y : TI, Ev (fun k => impl_sameExpr.f k x.f0 x.f1 x.f2 x.f3 x.f4 y.f0 y.f1 y.f2 y.f3 y.f4) (same x y) := by
  induction x using TI.ind with
  | h x ih =>
  obtain ⟨_, hl, hk⟩ := hx
  intro y
  refine Ev.step (fun k => by rw [impl_sameExpr.f]) ?_
  by_cases c0 : x.f0 = y.f0
  case neg => exact Ev.neg c0 (Ev.eq (Ev.now _) (sameN (fun e => c0 (by rw [e]))).symm)
  refine Ev.pos c0 ?_
  by_cases c1 : x.f1 = y.f1
  case neg => exact Ev.neg c1 (Ev.eq (Ev.now _) (sameN (fun e => c1 (by rw [e]))).symm)
  refine Ev.pos c1 ?_
  by_cases c2 : x.f2.toList = y.f2.toList
  case neg => exact Ev.neg c2 (Ev.eq (Ev.now _) (sameN (fun e => c2 (by rw [e]))).symm)
  refine Ev.pos c2 ?_
  by_cases c3 : x.f3.toList = y.f3.toList
  case neg => exact Ev.neg c3 (Ev.eq (Ev.now _) (sameN (fun e => c3 (by rw [e]))).symm)
  refine Ev.pos c3 ?_
  rw [tree_eq x y c0 c1 c2 c3]
  exact Ev.bind (implExprs_of x.f4 y.f4 hl (fun z hz => ih z hz (hk z hz))) (Ev.now _)
abbrev FI := S45
theorem rdFun (xs : List FI) (i : Nat) (h : i < xs.length) : rd_T45 xs (i : Int) = xs[i] := by simp [rd_T45, h]
theorem fun_eq (x y : FI) (h0 : x.f0.toList = y.f0.toList) (h1 : x.f1 = y.f1) (h3 : x.f3 = y.f3) : same x y = (same x.f2 y.f2 && same x.f4 y.f4) := by
  have h0 := str_inj h0
  cases x
  cases y
  exact same_and (by simp_all)
theorem specFun_ev (x y : FI) (hx : fewTreeFun x) : Ev (fun k => spec_l2SameFun.f k x.f0 x.f1 x.f2 x.f3 x.f4.f0 x.f4.f1 x.f4.f2 x.f4.f3 x.f4.f4 y.f0 y.f1 y.f2 y.f3 y.f4.f0 y.f4.f1 y.f4.f2 y.f4.f3 y.f4.f4) (same x y) := by
  have jt : Ev (fun k => spec_l2SameFun.j0 k true x.f0 x.f1 x.f2 x.f3 x.f4.f0 x.f4.f1 x.f4.f2 x.f4.f3 x.f4.f4 y.f0 y.f1 y.f2 y.f3 y.f4.f0 y.f4.f1 y.f4.f2 y.f4.f3 y.f4.f4) false := Ev.step (fun k => by rw [spec_l2SameFun.j0]) (Ev.pos rfl (Ev.now _))
  have hl : x.f2.length ≤ 4611686018427387904 := hx.1
  unfold spec_l2SameFun.f
  by_cases c0 : x.f0.toList = y.f0.toList
  case neg => exact Ev.neg c0 (Ev.eq jt (sameN (fun e => c0 (by rw [e]))).symm)
  refine Ev.pos c0 ?_
  by_cases c1 : x.f1 = y.f1
  case neg => exact Ev.pos (by simpa using c1) (Ev.eq jt (sameN (fun e => c1 (by rw [e]))).symm)
  refine Ev.neg (by simpa using c1) ?_
  by_cases c3 : x.f3 = y.f3
  case neg => exact Ev.neg c3 (Ev.eq jt (sameN (fun e => c3 (by rw [e]))).symm)
  refine Ev.pos c3 ?_
  rw [fun_eq x y c0 c1 c3]
  by_cases c2 : (x.f2.length : Int) = (y.f2.length : Int)
  case neg =>
    rw [same_len c2]
    exact Ev.neg c2 jt
  refine Ev.pos c2 (Ev.bind (specExpr_ev x.f4 hx.2 y.f4) ?_)
  by_cases c4 : x.f4 = y.f4
  case neg =>
    rw [sameN c4, Bool.and_false]
    exact jt
  rw [sameI c4, Bool.and_true]
  refine Ev.step (fun k => by rw [spec_l2SameFun.j0]) (Ev.neg (by simp) ?_)
  refine Ev.eq (same_whole x.f2 y.f2 (by omega) (fun i k => spec_l2SameFun.l0 k (i : Int) x.f0 x.f1 x.f2 x.f3 x.f4.f0 x.f4.f1 x.f4.f2 x.f4.f3 x.f4.f4 y.f0 y.f1 y.f2 y.f3 y.f4.f0 y.f4.f1 y.f4.f2 y.f4.f3 y.f4.f4) true ?_ ?_) (Bool.and_true _)
  · exact Ev.step (fun k => by rw [spec_l2SameFun.l0]) (Ev.neg (by omega) (Ev.now _))
  · intro i h h' r hr
    refine Ev.step (fun k => by rw [spec_l2SameFun.l0]) (Ev.pos (by omega) (Ev.pos (by omega) (Ev.pos (by omega) ?_)))
    rw [rdArg x.f2 i h, rdArg y.f2 i h', wrap_succ h hl, argTest]
    exact Ev.nand hr
theorem implFun_ev (x y : FI) (hx : fewTreeFun x) : Ev (fun k => impl_sameFun.f k x.f0 x.f1 x.f2 x.f3 x.f4.f0 x.f4.f1 x.f4.f2 x.f4.f3 x.f4.f4 y.f0 y.f1 y.f2 y.f3 y.f4.f0 y.f4.f1 y.f4.f2 y.f4.f3 y.f4.f4) (same x y) := by
  unfold impl_sameFun.f
  by_cases c0 : x.f0.toList = y.f0.toList
  case neg => exact Ev.neg c0 (Ev.eq (Ev.now _) (sameN (fun e => c0 (by rw [e]))).symm)
  refine Ev.pos c0 ?_
  by_cases c1 : x.f1 = y.f1
  case neg => exact Ev.neg (by simpa using c1) (Ev.eq (Ev.now _) (sameN (fun e => c1 (by rw [e]))).symm)
  refine Ev.pos (by simpa using c1) ?_
  refine Ev.bind (implArgs_ev x.f2 y.f2 hx.1) ?_
  by_cases c3 : x.f3 = y.f3
  case neg =>
    rw [sameN (show x ≠ y from fun e => c3 (by rw [e]))]
    exact Ev.eq (Ev.and (Ev.neg c3 (Ev.now _))) (Bool.and_false _)
  rw [fun_eq x y c0 c1 c3]
  exact Ev.and (Ev.pos c3 (Ev.bind (implExpr_ev x.f4 hx.2 y.f4) (Ev.now _)))
theorem implFuns_ev (xs ys : List FI) (hs : xs.length ≤ 4611686018427387904) (hx : ∀ x, x ∈ xs → fewTreeFun x) : Ev (fun k => slices_EqualFunc_impl_TreeFun__impl_sameFun.f k xs ys) (same xs ys) := by
  unfold slices_EqualFunc_impl_TreeFun__impl_sameFun.f
  by_cases c : (xs.length : Int) = (ys.length : Int)
  · refine Ev.pos c (Ev.eq (same_whole xs ys (by omega) (fun i k => slices_EqualFunc_impl_TreeFun__impl_sameFun.l0 k ys xs (xs.length : Int) (i : Int)) true ?_ ?_) (Bool.and_true _))
    · exact Ev.step (fun k => by rw [slices_EqualFunc_impl_TreeFun__impl_sameFun.l0]) (Ev.neg (by omega) (Ev.now _))
    · intro i h h' r hr
      refine Ev.step (fun k => by rw [slices_EqualFunc_impl_TreeFun__impl_sameFun.l0]) (Ev.pos (by omega) (Ev.pos (by omega) (Ev.pos (by omega) (Ev.pos (by omega) ?_))))
      rw [rdFun xs i h, rdFun ys i h', wrap_succ h hs]
      exact Ev.bind (implFun_ev xs[i] ys[i] (hx _ (List.getElem_mem h))) (Ev.and hr)
  · rw [same_len c]
    exact Ev.neg c (Ev.now _)
abbrev MI := S32
theorem specSame_ev (a0 b0 : List ByteArray) (a1 b1 : List FI) (a2 b2 : List TI) (h0 : a0.length ≤ 4611686018427387904) (h1 : a1.length ≤ 4611686018427387904) (g1 : ∀ x, x ∈ a1 → fewTreeFun x) (h2 : a2.length ≤ 4611686018427387904) (g2 : ∀ x, x ∈ a2 → okT x) :
    Ev (fun k => spec_TreeSame.f k a0 a1 a2 b0 b1 b2) (same a0 b0 && (same a1 b1 && same a2 b2)) := by
  have jt : Ev (fun k => spec_TreeSame.j0 k true a0 a1 a2 b0 b1 b2) false := Ev.step (fun k => by rw [spec_TreeSame.j0]) (Ev.pos rfl (Ev.now _))
  unfold spec_TreeSame.f
  refine Ev.bind (specStrings_ev a0 b0 h0) ?_
  by_cases c0 : a0 = b0
  case neg =>
    rw [sameN c0]
    exact Ev.neg (by simp) jt
  rw [sameI c0]
  refine Ev.pos rfl ?_
  by_cases c1 : (a1.length : Int) = (b1.length : Int)
  case neg =>
    rw [same_len c1]
    exact Ev.neg c1 jt
  refine Ev.pos c1 ?_
  by_cases c2 : (a2.length : Int) = (b2.length : Int)
  case neg =>
    rw [show ((a2.length : Int) != (b2.length : Int)) = true by simpa using c2, same_len c2, Bool.and_false]
    exact jt
  rw [show ((a2.length : Int) != (b2.length : Int)) = false by simpa using c2]
  refine Ev.step (fun k => by rw [spec_TreeSame.j0]) (Ev.neg (by simp) ?_)
  refine same_whole a1 b1 (by omega) (fun i k => spec_TreeSame.l0 k (i : Int) a0 a1 a2 b0 b1 b2) _ ?_ ?_
  · refine Ev.step (fun k => by rw [spec_TreeSame.l0]) (Ev.neg (by omega) ?_)
    refine Ev.eq (same_whole a2 b2 (by omega) (fun i k => spec_TreeSame.l1 k (i : Int) a0 a1 a2 b0 b1 b2) true ?_ ?_) (Bool.and_true _)
    · exact Ev.step (fun k => by rw [spec_TreeSame.l1]) (Ev.neg (by omega) (Ev.now _))
    · intro i h h' r hr
      refine Ev.step (fun k => by rw [spec_TreeSame.l1]) (Ev.pos (by omega) (Ev.pos (by omega) (Ev.pos (by omega) ?_)))
      rw [rdITreeExpr a2 i h, rdITreeExpr b2 i h', wrap_succ h h2]
      exact Ev.bind (specExpr_ev a2[i] (g2 _ (List.getElem_mem h)) b2[i]) (Ev.and hr)
  · intro i h h' r hr
    refine Ev.step (fun k => by rw [spec_TreeSame.l0]) (Ev.pos (by omega) (Ev.pos (by omega) (Ev.pos (by omega) ?_)))
    rw [rdFun a1 i h, rdFun b1 i h', wrap_succ h h1]
    exact Ev.bind (specFun_ev a1[i] b1[i] (g1 _ (List.getElem_mem h))) (Ev.and hr)
theorem implSame_ev (a0 b0 : List ByteArray) (a1 b1 : List FI) (a2 b2 : List TI) (h0 : a0.length ≤ 4611686018427387904) (h1 : a1.length ≤ 4611686018427387904) (g1 : ∀ x, x ∈ a1 → fewTreeFun x) (h2 : a2.length ≤ 4611686018427387904) (g2 : ∀ x, x ∈ a2 → okT x) :
    Ev (fun k => impl_TreeSame.f k a0 a1 a2 b0 b1 b2) (same a0 b0 && (same a1 b1 && same a2 b2)) := by
  unfold impl_TreeSame.f
  exact Ev.bind (implStrings_ev a0 b0 h0) (Ev.and (Ev.bind (implFuns_ev a1 b1 h1 g1) (Ev.and (Ev.bind (implExprs_of a2 b2 h2 (fun x hx => implExpr_ev x (g2 x hx))) (Ev.now _)))))
theorem FnExactTreeSame : laws_FnExactTreeSame.PureF := by
  intro x y hx hy
  apply Ev.rounds
  unfold laws_FnExactTreeSame.f
  obtain ⟨r, hr, hle, hP⟩ := szTreeMod_ev x hx 1048576 (by omega) (by omega)
  refine Ev.bind hr ?_
  by_cases h : r < 0
  · exact Ev.pos h (Ev.now _)
  obtain ⟨s, hs, hle2, hQ⟩ := szTreeMod_ev y hy r (by omega) (by omega)
  refine Ev.neg h (Ev.bind hs ?_)
  by_cases h2 : s < 0
  · exact Ev.pos h2 (Ev.now _)
  have px := hP (by omega)
  have py := hQ (by omega)
  have fx := fewTreeMod_con x px
  have fy := fewTreeMod_con y py
  have tx := toTreeMod_ev x px
  have ty := toTreeMod_ev y py
  refine Ev.neg h2 (Ev.bind tx (Ev.bind ty (Ev.bind (specSame_ev _ _ _ _ _ _ fx.1 fx.2.1 fx.2.2.1 fx.2.2.2.1 fx.2.2.2.2) (Ev.bind tx (Ev.bind ty (Ev.bind (implSame_ev _ _ _ _ _ _ fx.1 fx.2.1 fx.2.2.1 fx.2.2.2.1 fx.2.2.2.2) ?_))))))
  exact Ev.neg (by simp) (Ev.bind tx (Ev.bind (eqTreeMod_ev _ fx) (Ev.pos rfl (Ev.bind ty (Ev.bind (eqTreeMod_ev _ fy) (Ev.pos rfl (Ev.now _)))))))

end Go.Proofs.Ythcinellhbmcoaa.Pure
