/- The program's CodeSame and the reference's both tell whether two objects are one, and the program leaves its arguments as they were. -/
import Derived.Test.YtnebeklmfenikaaFFnExactCodeSame
import Derived.Test.YtnebeklmfenikaaOpen
import Derived.Test.YtnebeklmfenikaaLib
namespace Go.Proofs.Ytnebeklmfenikaa.Pure
open Go.RowKit Go.Proofs.Ytnebeklmfenikaa.Q Go.Proofs.YtnebeklmfenikaaW.PrintWords Go.Proofs.YtnebeklmfenikaaW.PrintLast Go.Proofs.Ytnebeklmfenikaa.Lib Go.Proofs.Ytnebeklmfenikaa.Open
set_option linter.unusedVariables false

/-! ### lists of texts -/
def short (s : ByteArray) : Prop := s.size ≤ 1048576
def shorts (l : List ByteArray) : Prop := l.length ≤ 1048576 ∧ ∀ s, s ∈ l → short s

/-! ### lists of whole numbers -/
theorem rd_nth (xs : List Int) (i : Nat) (h : i < xs.length) : rd xs (i : Int) = xs[i] := rd_get h
theorem szInts_ev (l : List Int) (hl : fitList rng l) (acc : Int) (h0 : 0 ≤ acc) (h1 : acc ≤ 1048576) : ∃ r, Ev (fun _ => laws_szIntS.f l acc) r ∧ r ≤ acc ∧ (0 ≤ r → l.length ≤ 1048576) := by
  have hs : l.length ≤ 9223372036854775807 := hl.1
  unfold laws_szIntS.f
  rw [wrap_id (by omega) (by omega)]
  exact ExEv.ite (fun h => ExEv.less _ (by omega)) (fun h => ⟨_, Ev.now _, by omega, fun _ => by omega⟩)
theorem toInts_ev (l : List Int) (hl : l.length ≤ 1048576) : Ev (fun k => laws_toIntS.f k l) l := by
  have := map_whole (L := laws_toIntS.l0) (g := fun _ s => some s) (rdx := rd) (f := id) (0 : Int) 35184372088832 rd_nth (fun k xs out i => by simp only [laws_toIntS.l0, Option.bind_some]) l hl (by omega) (fun s _ => Ev.now _)
  rw [List.map_id] at this
  exact this
theorem eqInts_ev (l : List Int) (hl : l.length ≤ 4611686018427387904) : Ev (fun k => laws_eqIntS.f k l l) true := by
  refine eq_whole (L := laws_eqIntS.l0) (g := fun _ a b => if a = b then some true else some false) (rdx := rd) rd_nth ?_ l hl (fun s _ => Ev.const (by rw [if_pos rfl]))
  intro k xs ys i
  simp only [laws_eqIntS.l0]
  split
  · split
    · split
      · split <;> rfl
      · rfl
    · rfl
  · rfl

/-! ### CodeRef -/
def shortCodeRef (x : S123) : Prop := short x.f0 ∧ short x.f1
def conCodeRef (x : S123) : S70 := ⟨x.f0, x.f1⟩
theorem rdLCodeRef (xs : List S123) (i : Nat) (h : i < xs.length) : rd_T123 xs (i : Int) = xs[i] := by simp [rd_T123, h]
theorem rdICodeRef (xs : List S70) (i : Nat) (h : i < xs.length) : rd_T70 xs (i : Int) = xs[i] := by simp [rd_T70, h]
theorem szCodeRef_ev (x : S123) (hx : fit123 x) (acc : Int) (h0 : 0 ≤ acc) (h1 : acc ≤ 1048576) : ∃ r, Ev (fun _ => laws_szCodeRef.f x.f0 x.f1 acc) r ∧ r ≤ acc ∧ (0 ≤ r → shortCodeRef x) := by
  unfold laws_szCodeRef.f
  have hs0 : x.f0.size ≤ 9223372036854775807 := hx.1
  rw [wrap_id (by omega) (by omega)]
  refine ExEv.ite (fun h => ExEv.less _ (by omega)) (fun h0 => ?_)
  have hs1 : x.f1.size ≤ 9223372036854775807 := hx.2
  rw [wrap_id (by omega) (by omega)]
  refine ExEv.ite (fun h => ExEv.less _ (by omega)) (fun h1 => ?_)
  exact ⟨_, Ev.now _, by omega, fun _ => ⟨(by show x.f0.size ≤ 1048576; omega), (by show x.f1.size ≤ 1048576; omega)⟩⟩
theorem szCodeRefS_ev (l : List S123) (hl : fitList fit123 l) (acc : Int) (h0 : 0 ≤ acc) (h1 : acc ≤ 1048576) : ∃ r, Ev (fun k => laws_szCodeRefS.f k l acc) r ∧ r ≤ acc ∧ (0 ≤ r → l.length ≤ 1048576 ∧ ∀ x, x ∈ l → shortCodeRef x) := by
  exact sz_whole (L := laws_szCodeRefS.l0) (g := fun _ x acc => laws_szCodeRef.f x.f0 x.f1 acc) (rdx := rd_T123) (P := shortCodeRef) rdLCodeRef (fun k xs acc i => by simp only [laws_szCodeRefS.l0]) l hl.1 (fun x hx acc h0 h1 => szCodeRef_ev x (hl.2 x hx) acc h0 h1) acc h0 h1
theorem toCodeRef_ev (x : S123) (hx : shortCodeRef x) : Ev (fun _ => laws_toCodeRef.f x.f0 x.f1) ((conCodeRef x).f0, (conCodeRef x).f1) := by
  unfold laws_toCodeRef.f
  exact Ev.now _
theorem toCodeRefS_ev (l : List S123) (hl : l.length ≤ 1048576) (hs : ∀ x, x ∈ l → shortCodeRef x) : Ev (fun k => laws_toCodeRefS.f k l) (l.map conCodeRef) := by
  refine map_whole (L := laws_toCodeRefS.l0) (g := fun _ x => (laws_toCodeRef.f x.f0 x.f1).bind fun bt => some (⟨bt.1, bt.2⟩ : S70)) (rdx := rd_T123) (f := conCodeRef) z70 8796093022208 rdLCodeRef ?_ l hl (by omega) ?_
  · intro k xs out i
    simp only [laws_toCodeRefS.l0]
    cases laws_toCodeRef.f (rd_T123 xs i).f0 (rd_T123 xs i).f1 <;> rfl
  · intro x hx
    exact Ev.bind (toCodeRef_ev x (hs x hx)) (Ev.now _)
def fewCodeRef (x : S70) : Prop := True
theorem eqCodeRef_ev (x : S70) : Ev (fun _ => laws_eqCodeRef.f x.f0 x.f1 x.f0 x.f1) true := by
  unfold laws_eqCodeRef.f
  refine Ev.pos rfl ?_
  refine Ev.pos rfl ?_
  exact Ev.now _
theorem eqCodeRefS_ev (l : List S70) (hl : l.length ≤ 4611686018427387904) : Ev (fun k => laws_eqCodeRefS.f k l l) true :=
  eq_whole (L := laws_eqCodeRefS.l0) (g := fun _ x y => laws_eqCodeRef.f x.f0 x.f1 y.f0 y.f1) (rdx := rd_T70) rdICodeRef (fun k xs ys i => by simp only [laws_eqCodeRefS.l0]) l hl (fun x hx => eqCodeRef_ev x)
/-! ### CodeIns -/
def shortCodeIns (x : S162) : Prop := True
def conCodeIns (x : S162) : S85 := ⟨x.f0, x.f1⟩
theorem rdLCodeIns (xs : List S162) (i : Nat) (h : i < xs.length) : rd_T162 xs (i : Int) = xs[i] := by simp [rd_T162, h]
theorem rdICodeIns (xs : List S85) (i : Nat) (h : i < xs.length) : rd_T85 xs (i : Int) = xs[i] := by simp [rd_T85, h]
theorem szCodeInsS_ev (l : List S162) (hl : fitList fit162 l) (acc : Int) (h0 : 0 ≤ acc) (h1 : acc ≤ 1048576) : ∃ r, Ev (fun _ => laws_szCodeInsS.f l acc) r ∧ r ≤ acc ∧ (0 ≤ r → l.length ≤ 1048576 ∧ ∀ x, x ∈ l → shortCodeIns x) := by
  have hs : l.length ≤ 9223372036854775807 := hl.1
  unfold laws_szCodeInsS.f
  rw [wrap_id (by omega) (by omega)]
  exact ExEv.ite (fun h => ExEv.less _ (by omega)) (fun h => ⟨_, Ev.now _, by omega, fun _ => ⟨by omega, fun _ _ => trivial⟩⟩)
theorem toCodeIns_ev (x : S162) : Ev (fun _ => laws_toCodeIns.f x.f0 x.f1) ((conCodeIns x).f0, (conCodeIns x).f1) := by
  unfold laws_toCodeIns.f
  exact Ev.now _
theorem toCodeInsS_ev (l : List S162) (hl : l.length ≤ 1048576) : Ev (fun k => laws_toCodeInsS.f k l) (l.map conCodeIns) := by
  refine map_whole (L := laws_toCodeInsS.l0) (g := fun _ x => (laws_toCodeIns.f x.f0 x.f1).bind fun bt => some (⟨bt.1, bt.2⟩ : S85)) (rdx := rd_T162) (f := conCodeIns) z85 17592186044416 rdLCodeIns ?_ l hl (by omega) ?_
  · intro k xs out i
    simp only [laws_toCodeInsS.l0]
    cases laws_toCodeIns.f (rd_T162 xs i).f0 (rd_T162 xs i).f1 <;> rfl
  · intro x hx
    exact Ev.bind (toCodeIns_ev x) (Ev.now _)
def fewCodeIns (x : S85) : Prop := True
theorem eqCodeIns_ev (x : S85) : Ev (fun _ => laws_eqCodeIns.f x.f0 x.f1 x.f0 x.f1) true := by
  unfold laws_eqCodeIns.f
  refine Ev.pos rfl ?_
  refine Ev.pos rfl ?_
  exact Ev.now _
theorem eqCodeInsS_ev (l : List S85) (hl : l.length ≤ 4611686018427387904) : Ev (fun k => laws_eqCodeInsS.f k l l) true :=
  eq_whole (L := laws_eqCodeInsS.l0) (g := fun _ x y => laws_eqCodeIns.f x.f0 x.f1 y.f0 y.f1) (rdx := rd_T85) rdICodeIns (fun k xs ys i => by simp only [laws_eqCodeInsS.l0]) l hl (fun x hx => eqCodeIns_ev x)
/-! ### CodeFun -/
def shortCodeFun (x : S127) : Prop := short x.f0 ∧ x.f2.length ≤ 1048576 ∧ (x.f5.length ≤ 1048576 ∧ ∀ y, y ∈ x.f5 → shortCodeIns y)
def conCodeFun (x : S127) : S74 := ⟨x.f0, x.f1, x.f2, x.f3, x.f4, x.f5.map conCodeIns⟩
theorem rdLCodeFun (xs : List S127) (i : Nat) (h : i < xs.length) : rd_T127 xs (i : Int) = xs[i] := by simp [rd_T127, h]
theorem rdICodeFun (xs : List S74) (i : Nat) (h : i < xs.length) : rd_T74 xs (i : Int) = xs[i] := by simp [rd_T74, h]
theorem szCodeFun_ev (x : S127) (hx : fit127 x) (acc : Int) (h0 : 0 ≤ acc) (h1 : acc ≤ 1048576) : ∃ r, Ev (fun _ => laws_szCodeFun.f x.f0 x.f1 x.f2 x.f3 x.f4 x.f5 acc) r ∧ r ≤ acc ∧ (0 ≤ r → shortCodeFun x) := by
  unfold laws_szCodeFun.f
  have hs0 : x.f0.size ≤ 9223372036854775807 := hx.1
  rw [wrap_id (by omega) (by omega)]
  refine ExEv.ite (fun h => ExEv.less _ (by omega)) (fun h0 => ?_)
  refine ExEv.bind (szInts_ev x.f2 (hx.2.2.1) _ (by omega) (by omega)) (fun t2 ⟨hl2, hP2⟩ => ?_)
  refine ExEv.ite (fun h => ExEv.less _ (by omega)) (fun h2 => ?_)
  refine ExEv.bind (szCodeInsS_ev x.f5 (hx.2.2.2.2.2) _ (by omega) (by omega)) (fun t5 ⟨hl5, hP5⟩ => ?_)
  refine ExEv.ite (fun h => ExEv.less _ (by omega)) (fun h5 => ?_)
  exact ⟨_, Ev.now _, by omega, fun _ => ⟨(by show x.f0.size ≤ 1048576; omega), (hP2 (by omega)), (hP5 (by omega))⟩⟩
theorem szCodeFunS_ev (l : List S127) (hl : fitList fit127 l) (acc : Int) (h0 : 0 ≤ acc) (h1 : acc ≤ 1048576) : ∃ r, Ev (fun k => laws_szCodeFunS.f k l acc) r ∧ r ≤ acc ∧ (0 ≤ r → l.length ≤ 1048576 ∧ ∀ x, x ∈ l → shortCodeFun x) := by
  exact sz_whole (L := laws_szCodeFunS.l0) (g := fun _ x acc => laws_szCodeFun.f x.f0 x.f1 x.f2 x.f3 x.f4 x.f5 acc) (rdx := rd_T127) (P := shortCodeFun) rdLCodeFun (fun k xs acc i => by simp only [laws_szCodeFunS.l0]) l hl.1 (fun x hx acc h0 h1 => szCodeFun_ev x (hl.2 x hx) acc h0 h1) acc h0 h1
theorem toCodeFun_ev (x : S127) (hx : shortCodeFun x) : Ev (fun k => laws_toCodeFun.f k x.f0 x.f1 x.f2 x.f3 x.f4 x.f5) ((conCodeFun x).f0, (conCodeFun x).f1, (conCodeFun x).f2, (conCodeFun x).f3, (conCodeFun x).f4, (conCodeFun x).f5) := by
  unfold laws_toCodeFun.f
  exact Ev.bind (toInts_ev x.f2 hx.2.1) (Ev.bind (toCodeInsS_ev x.f5 (hx.2.2).1) (Ev.now _))
theorem toCodeFunS_ev (l : List S127) (hl : l.length ≤ 1048576) (hs : ∀ x, x ∈ l → shortCodeFun x) : Ev (fun k => laws_toCodeFunS.f k l) (l.map conCodeFun) := by
  refine map_whole (L := laws_toCodeFunS.l0) (g := fun k x => (laws_toCodeFun.f k x.f0 x.f1 x.f2 x.f3 x.f4 x.f5).bind fun bt => some (⟨bt.1, bt.2.1, bt.2.2.1, bt.2.2.2.1, bt.2.2.2.2.1, bt.2.2.2.2.2⟩ : S74)) (rdx := rd_T127) (f := conCodeFun) z74 3198579280802 rdLCodeFun ?_ l hl (by omega) ?_
  · intro k xs out i
    simp only [laws_toCodeFunS.l0]
    cases laws_toCodeFun.f k (rd_T127 xs i).f0 (rd_T127 xs i).f1 (rd_T127 xs i).f2 (rd_T127 xs i).f3 (rd_T127 xs i).f4 (rd_T127 xs i).f5 <;> rfl
  · intro x hx
    exact Ev.bind (toCodeFun_ev x (hs x hx)) (Ev.now _)
def fewCodeFun (x : S74) : Prop := x.f2.length ≤ 4611686018427387904 ∧ x.f5.length ≤ 4611686018427387904
theorem fewCodeFun_con (x : S127) (hx : shortCodeFun x) : fewCodeFun (conCodeFun x) := ⟨(by have := hx.2.1; show x.f2.length ≤ _; omega), (by have := (hx.2.2).1; show (x.f5.map conCodeIns).length ≤ _; rw [List.length_map]; omega)⟩
theorem eqCodeFun_ev (x : S74) (hx : fewCodeFun x) : Ev (fun k => laws_eqCodeFun.f k x.f0 x.f1 x.f2 x.f3 x.f4 x.f5 x.f0 x.f1 x.f2 x.f3 x.f4 x.f5) true := by
  unfold laws_eqCodeFun.f
  refine Ev.pos rfl ?_
  refine Ev.neg (by simp) ?_
  refine Ev.bind (eqInts_ev x.f2 hx.1) (Ev.pos rfl ?_)
  refine Ev.pos rfl ?_
  refine Ev.pos rfl ?_
  refine Ev.bind (eqCodeInsS_ev x.f5 hx.2) (Ev.pos rfl ?_)
  exact Ev.now _
theorem eqCodeFunS_ev (l : List S74) (hl : l.length ≤ 4611686018427387904) (hs : ∀ x, x ∈ l → fewCodeFun x) : Ev (fun k => laws_eqCodeFunS.f k l l) true :=
  eq_whole (L := laws_eqCodeFunS.l0) (g := fun k x y => laws_eqCodeFun.f k x.f0 x.f1 x.f2 x.f3 x.f4 x.f5 y.f0 y.f1 y.f2 y.f3 y.f4 y.f5) (rdx := rd_T74) rdICodeFun (fun k xs ys i => by simp only [laws_eqCodeFunS.l0]) l hl (fun x hx => eqCodeFun_ev x (hs x hx))
/-! ### CodeObj -/
structure S31 where
  f0 : List (S70)
  f1 : List (S74)
def shortCodeObj (x : S25) : Prop := (x.f0.length ≤ 1048576 ∧ ∀ y, y ∈ x.f0 → shortCodeRef y) ∧ (x.f1.length ≤ 1048576 ∧ ∀ y, y ∈ x.f1 → shortCodeFun y)
def conCodeObj (x : S25) : S31 := ⟨x.f0.map conCodeRef, x.f1.map conCodeFun⟩
theorem rdLCodeObj (xs : List S25) (i : Nat) (h : i < xs.length) : rd_T25 xs (i : Int) = xs[i] := by simp [rd_T25, h]
theorem szCodeObj_ev (x : S25) (hx : fit25 x) (acc : Int) (h0 : 0 ≤ acc) (h1 : acc ≤ 1048576) : ∃ r, Ev (fun k => laws_szCodeObj.f k x.f0 x.f1 acc) r ∧ r ≤ acc ∧ (0 ≤ r → shortCodeObj x) := by
  unfold laws_szCodeObj.f
  refine ExEv.bind (szCodeRefS_ev x.f0 (hx.1) _ (by omega) (by omega)) (fun t0 ⟨hl0, hP0⟩ => ?_)
  refine ExEv.ite (fun h => ExEv.less _ (by omega)) (fun h0 => ?_)
  refine ExEv.bind (szCodeFunS_ev x.f1 (hx.2) _ (by omega) (by omega)) (fun t1 ⟨hl1, hP1⟩ => ?_)
  refine ExEv.ite (fun h => ExEv.less _ (by omega)) (fun h1 => ?_)
  exact ⟨_, Ev.now _, by omega, fun _ => ⟨(hP0 (by omega)), (hP1 (by omega))⟩⟩
theorem toCodeObj_ev (x : S25) (hx : shortCodeObj x) : Ev (fun k => laws_toCodeObj.f k x.f0 x.f1) ((conCodeObj x).f0, (conCodeObj x).f1) := by
  unfold laws_toCodeObj.f
  exact Ev.bind (toCodeRefS_ev x.f0 (hx.1).1 (hx.1).2) (Ev.bind (toCodeFunS_ev x.f1 (hx.2).1 (hx.2).2) (Ev.now _))
def fewCodeObj (x : S31) : Prop := x.f0.length ≤ 4611686018427387904 ∧ x.f1.length ≤ 4611686018427387904 ∧ (∀ y, y ∈ x.f1 → fewCodeFun y)
theorem fewCodeObj_con (x : S25) (hx : shortCodeObj x) : fewCodeObj (conCodeObj x) := ⟨(by have := (hx.1).1; show (x.f0.map conCodeRef).length ≤ _; rw [List.length_map]; omega), (by have := (hx.2).1; show (x.f1.map conCodeFun).length ≤ _; rw [List.length_map]; omega), (fun y hy => by obtain ⟨z, hz, rfl⟩ := List.mem_map.mp hy; exact fewCodeFun_con z ((hx.2).2 z hz))⟩
theorem eqCodeObj_ev (x : S31) (hx : fewCodeObj x) : Ev (fun k => laws_eqCodeObj.f k x.f0 x.f1 x.f0 x.f1) true := by
  unfold laws_eqCodeObj.f
  refine Ev.bind (eqCodeRefS_ev x.f0 hx.1) (Ev.pos rfl ?_)
  refine Ev.bind (eqCodeFunS_ev x.f1 hx.2.1 hx.2.2) (Ev.pos rfl ?_)
  exact Ev.now _

/-! ### whether two are one -/
noncomputable def same {α : Type} (x y : α) : Bool := @decide (x = y) (Classical.propDecidable _)
theorem sameI {α : Type} {x y : α} (h : x = y) : same x y = true := @decide_eq_true _ (Classical.propDecidable _) h
theorem sameN {α : Type} {x y : α} (h : x ≠ y) : same x y = false := @decide_eq_false _ (Classical.propDecidable _) h
theorem same_iff {α β : Type} {x y : α} {a b : β} (h : x = y ↔ a = b) : same x y = same a b := by
  by_cases c : x = y
  · rw [sameI c, sameI (h.mp c)]
  · rw [sameN c, sameN (fun z => c (h.mpr z))]
theorem same_and {α β γ : Type} {x y : α} {a b : β} {c d : γ} (h : x = y ↔ a = b ∧ c = d) : same x y = (same a b && same c d) := by
  by_cases c1 : a = b
  · by_cases c2 : c = d
    · rw [sameI (h.mpr ⟨c1, c2⟩), sameI c1, sameI c2]; rfl
    · rw [sameN (fun z => c2 (h.mp z).2), sameI c1, sameN c2]; rfl
  · rw [sameN (fun z => c1 (h.mp z).1), sameN c1]; rfl
theorem same_cons {α : Type} (x y : α) (xs ys : List α) : same (x :: xs) (y :: ys) = (same x y && same xs ys) := same_and (by simp)
theorem Ev.and {A : Nat → Option Bool} {t r : Bool} (h : Ev A r) : Ev (fun k => if t = true then A k else some false) (t && r) := by
  cases t
  · exact Ev.neg (by simp) (Ev.now _)
  · exact Ev.pos rfl h
theorem Ev.nand {A : Nat → Option Bool} {t r : Bool} (h : Ev A r) : Ev (fun k => if (!t) = true then some false else A k) (t && r) := by
  cases t
  · exact Ev.pos rfl (Ev.now _)
  · exact Ev.neg (by simp) h
theorem same_str (a b : ByteArray) : same a.toList b.toList = same a b := same_iff str_iff
theorem Ev.same {α : Type} {A : Nat → Option Bool} {x y : α} [Decidable (x = y)] {r : Bool} (h : Ev A r) : Ev (fun k => if x = y then A k else some false) (same x y && r) := by
  by_cases c : x = y
  · rw [sameI c]; exact Ev.pos c h
  · rw [sameN c]; exact Ev.neg c (Ev.now _)
/-- A loop that compares two lists of one length, part by part; r is what comes behind it. -/
theorem same_loop {α : Type} (xs ys : List α) (hxy : xs.length = ys.length) (F : Nat → Nat → Option Bool) (r : Bool) (hend : Ev (F xs.length) r)
    (hstep : ∀ (i : Nat) (h : i < xs.length) (h' : i < ys.length) (r' : Bool), Ev (F (i + 1)) r' → Ev (F i) (same xs[i] ys[i] && r')) : ∀ (d i : Nat), xs.length = i + d → Ev (F i) (same (xs.drop i) (ys.drop i) && r) := by
  intro d
  induction d with
  | zero =>
    intro i hi
    rw [drop_end (by omega), drop_end (by omega), sameI rfl]
    obtain rfl : i = xs.length := by omega
    exact hend
  | succ d ih =>
    intro i hi
    have h : i < xs.length := by omega
    have h' : i < ys.length := by omega
    rw [drop_cons h, drop_cons h', same_cons, Bool.and_assoc]
    exact hstep i h h' _ (ih (i + 1) (by omega))
theorem same_whole {α : Type} (xs ys : List α) (hxy : xs.length = ys.length) (F : Nat → Nat → Option Bool) (r : Bool) (hend : Ev (F xs.length) r)
    (hstep : ∀ (i : Nat) (h : i < xs.length) (h' : i < ys.length) (r' : Bool), Ev (F (i + 1)) r' → Ev (F i) (same xs[i] ys[i] && r')) : Ev (F 0) (same xs ys && r) := by
  simpa using same_loop xs ys hxy F r hend hstep xs.length 0 (by omega)
theorem same_len {α : Type} {xs ys : List α} (h : ¬ ((xs.length : Int) = (ys.length : Int))) : same xs ys = false := sameN (fun e => h (by rw [e]))

abbrev RefI := S70
abbrev InsI := S85
abbrev CfI := S74
theorem rdRef (xs : List RefI) (i : Nat) (h : i < xs.length) : rd_T70 xs (i : Int) = xs[i] := by simp [rd_T70, h]
theorem rdIns (xs : List InsI) (i : Nat) (h : i < xs.length) : rd_T85 xs (i : Int) = xs[i] := by simp [rd_T85, h]
theorem rdCf (xs : List CfI) (i : Nat) (h : i < xs.length) : rd_T74 xs (i : Int) = xs[i] := by simp [rd_T74, h]
theorem refTest (x y : RefI) : (!((x.f0.toList) == (y.f0.toList)) || (!((x.f1.toList) == (y.f1.toList)))) = !(same x y) := by
  by_cases c : x = y
  · subst c
    rw [sameI rfl]
    simp
  · rw [sameN c]
    obtain ⟨a, b⟩ := x
    obtain ⟨a', b'⟩ := y
    simp only [S70.mk.injEq, not_and] at c
    simp
    by_cases h : a.toList = a'.toList
    · exact .inr (fun z => c (str_inj h) (str_inj z))
    · exact .inl h
theorem insTest (x y : InsI) : (!(x.f0 == y.f0) || (!(x.f1 == y.f1))) = !(same x y) := by
  by_cases c : x = y
  · subst c
    rw [sameI rfl]
    simp
  · rw [sameN c]
    obtain ⟨a, b⟩ := x
    obtain ⟨a', b'⟩ := y
    simp only [S85.mk.injEq, not_and] at c
    simp
    by_cases h : a = a'
    · exact .inr (c h)
    · exact .inl h
theorem implRefs_ev (xs ys : List RefI) (hs : xs.length ≤ 4611686018427387904) : Ev (fun k => impl_CodeRef.f k xs ys) (same xs ys) := by
  unfold impl_CodeRef.f
  by_cases c : (xs.length : Int) = (ys.length : Int)
  · refine Ev.pos c (Ev.eq (same_whole xs ys (by omega) (fun i k => impl_CodeRef.l0 k xs ys (xs.length : Int) (i : Int)) true ?_ ?_) (Bool.and_true _))
    · exact Ev.step (fun k => by rw [impl_CodeRef.l0]) (Ev.neg (by omega) (Ev.now _))
    · intro i h h' r hr
      refine Ev.step (fun k => by rw [impl_CodeRef.l0]) (Ev.pos (by omega) (Ev.pos (by omega) (Ev.pos (by omega) (Ev.pos (by omega) ?_))))
      rw [rdRef xs i h, rdRef ys i h', wrap_succ h hs, refTest]
      exact Ev.nand hr
  · rw [same_len c]
    exact Ev.neg c (Ev.now _)
theorem implIns_ev (xs ys : List InsI) (hs : xs.length ≤ 4611686018427387904) : Ev (fun k => impl_CodeIns.f k xs ys) (same xs ys) := by
  unfold impl_CodeIns.f
  by_cases c : (xs.length : Int) = (ys.length : Int)
  · refine Ev.pos c (Ev.eq (same_whole xs ys (by omega) (fun i k => impl_CodeIns.l0 k xs ys (xs.length : Int) (i : Int)) true ?_ ?_) (Bool.and_true _))
    · exact Ev.step (fun k => by rw [impl_CodeIns.l0]) (Ev.neg (by omega) (Ev.now _))
    · intro i h h' r hr
      refine Ev.step (fun k => by rw [impl_CodeIns.l0]) (Ev.pos (by omega) (Ev.pos (by omega) (Ev.pos (by omega) (Ev.pos (by omega) ?_))))
      rw [rdIns xs i h, rdIns ys i h', wrap_succ h hs, insTest]
      exact Ev.nand hr
  · rw [same_len c]
    exact Ev.neg c (Ev.now _)
theorem implInts_ev (xs ys : List Int) (hs : xs.length ≤ 4611686018427387904) : Ev (fun k => slices_Equal_int_int.f k xs ys) (same xs ys) := by
  unfold slices_Equal_int_int.f
  by_cases c : (xs.length : Int) = (ys.length : Int)
  · refine Ev.pos c (Ev.eq (same_whole xs ys (by omega) (fun i k => slices_Equal_int_int.l0 k xs ys (xs.length : Int) (i : Int)) true ?_ ?_) (Bool.and_true _))
    · exact Ev.step (fun k => by rw [slices_Equal_int_int.l0]) (Ev.neg (by omega) (Ev.now _))
    · intro i h h' r hr
      refine Ev.step (fun k => by rw [slices_Equal_int_int.l0]) (Ev.pos (by omega) (Ev.pos (by omega) (Ev.pos (by omega) (Ev.pos (by omega) ?_))))
      rw [rd_get h, rd_get h', wrap_succ h hs]
      exact Ev.same hr
  · rw [same_len c]
    exact Ev.neg c (Ev.now _)

theorem code_eq (x y : CfI) (h0 : x.f0.toList = y.f0.toList) (h1 : x.f1 = y.f1) (h3 : x.f3 = y.f3) (h4 : x.f4 = y.f4) : same x y = (same x.f2 y.f2 && same x.f5 y.f5) := by
  have h0 := str_inj h0
  cases x
  cases y
  exact same_and (by simp_all)
theorem specCode_ev (x y : CfI) (hx : fewCodeFun x) : Ev (fun k => spec_l7SameFun.f k x.f0 x.f1 x.f2 x.f3 x.f4 x.f5 y.f0 y.f1 y.f2 y.f3 y.f4 y.f5) (same x y) := by
  have jt : Ev (fun k => spec_l7SameFun.j0 k true x.f0 x.f1 x.f2 x.f3 x.f4 x.f5 y.f0 y.f1 y.f2 y.f3 y.f4 y.f5) false := Ev.step (fun k => by rw [spec_l7SameFun.j0]) (Ev.pos rfl (Ev.now _))
  have hl : x.f2.length ≤ 4611686018427387904 := hx.1
  have hl5 : x.f5.length ≤ 4611686018427387904 := hx.2
  unfold spec_l7SameFun.f
  by_cases c0 : x.f0.toList = y.f0.toList
  case neg => exact Ev.neg c0 (Ev.eq jt (sameN (fun e => c0 (by rw [e]))).symm)
  refine Ev.pos c0 ?_
  by_cases c1 : x.f1 = y.f1
  case neg => exact Ev.pos (by simpa using c1) (Ev.eq jt (sameN (fun e => c1 (by rw [e]))).symm)
  refine Ev.neg (by simpa using c1) ?_
  by_cases c3 : x.f3 = y.f3
  case neg => exact Ev.neg c3 (Ev.eq jt (sameN (fun e => c3 (by rw [e]))).symm)
  refine Ev.pos c3 ?_
  by_cases c4 : x.f4 = y.f4
  case neg => exact Ev.neg c4 (Ev.eq jt (sameN (fun e => c4 (by rw [e]))).symm)
  refine Ev.pos c4 ?_
  rw [code_eq x y c0 c1 c3 c4]
  by_cases c2 : (x.f2.length : Int) = (y.f2.length : Int)
  case neg =>
    rw [same_len c2]
    exact Ev.neg c2 jt
  refine Ev.pos c2 ?_
  by_cases c5 : (x.f5.length : Int) = (y.f5.length : Int)
  case neg =>
    rw [show ((x.f5.length : Int) != (y.f5.length : Int)) = true by simpa using c5, same_len c5, Bool.and_false]
    exact jt
  rw [show ((x.f5.length : Int) != (y.f5.length : Int)) = false by simpa using c5]
  refine Ev.step (fun k => by rw [spec_l7SameFun.j0]) (Ev.neg (by simp) ?_)
  refine same_whole x.f2 y.f2 (by omega) (fun i k => spec_l7SameFun.l0 k (i : Int) x.f0 x.f1 x.f2 x.f3 x.f4 x.f5 y.f0 y.f1 y.f2 y.f3 y.f4 y.f5) _ ?_ ?_
  · refine Ev.step (fun k => by rw [spec_l7SameFun.l0]) (Ev.neg (by omega) ?_)
    refine Ev.eq (same_whole x.f5 y.f5 (by omega) (fun i k => spec_l7SameFun.l1 k (i : Int) x.f0 x.f1 x.f2 x.f3 x.f4 x.f5 y.f0 y.f1 y.f2 y.f3 y.f4 y.f5) true ?_ ?_) (Bool.and_true _)
    · exact Ev.step (fun k => by rw [spec_l7SameFun.l1]) (Ev.neg (by omega) (Ev.now _))
    · intro i h h' r hr
      refine Ev.step (fun k => by rw [spec_l7SameFun.l1]) (Ev.pos (by omega) (Ev.pos (by omega) (Ev.pos (by omega) ?_)))
      rw [rdIns x.f5 i h, rdIns y.f5 i h', wrap_succ h hl5, insTest]
      exact Ev.nand hr
  · intro i h h' r hr
    refine Ev.step (fun k => by rw [spec_l7SameFun.l0]) (Ev.pos (by omega) (Ev.pos (by omega) (Ev.pos (by omega) ?_)))
    rw [rd_get h, rd_get h', wrap_succ h hl]
    exact Ev.same hr
theorem implCode_ev (x y : CfI) (hx : fewCodeFun x) : Ev (fun k => impl_sameCode.f k x.f0 x.f1 x.f2 x.f3 x.f4 x.f5 y.f0 y.f1 y.f2 y.f3 y.f4 y.f5) (same x y) := by
  unfold impl_sameCode.f
  by_cases c0 : x.f0.toList = y.f0.toList
  case neg => exact Ev.neg c0 (Ev.eq (Ev.now _) (sameN (fun e => c0 (by rw [e]))).symm)
  refine Ev.pos c0 ?_
  by_cases c1 : x.f1 = y.f1
  case neg => exact Ev.neg (by simpa using c1) (Ev.eq (Ev.now _) (sameN (fun e => c1 (by rw [e]))).symm)
  refine Ev.pos (by simpa using c1) ?_
  refine Ev.bind (implInts_ev x.f2 y.f2 hx.1) ?_
  by_cases c3 : x.f3 = y.f3
  case neg =>
    rw [sameN (show x ≠ y from fun e => c3 (by rw [e]))]
    exact Ev.eq (Ev.and (Ev.neg c3 (Ev.now _))) (Bool.and_false _)
  by_cases c4 : x.f4 = y.f4
  case neg =>
    rw [sameN (show x ≠ y from fun e => c4 (by rw [e]))]
    exact Ev.eq (Ev.and (Ev.pos c3 (Ev.neg c4 (Ev.now _)))) (Bool.and_false _)
  rw [code_eq x y c0 c1 c3 c4]
  exact Ev.and (Ev.pos c3 (Ev.pos c4 (Ev.bind (implIns_ev x.f5 y.f5 hx.2) (Ev.now _))))
theorem implCodes_ev (xs ys : List CfI) (hs : xs.length ≤ 4611686018427387904) (hx : ∀ x, x ∈ xs → fewCodeFun x) : Ev (fun k => slices_EqualFunc_impl_CodeFun__impl_sameCode.f k xs ys) (same xs ys) := by
  unfold slices_EqualFunc_impl_CodeFun__impl_sameCode.f
  by_cases c : (xs.length : Int) = (ys.length : Int)
  · refine Ev.pos c (Ev.eq (same_whole xs ys (by omega) (fun i k => slices_EqualFunc_impl_CodeFun__impl_sameCode.l0 k ys xs (xs.length : Int) (i : Int)) true ?_ ?_) (Bool.and_true _))
    · exact Ev.step (fun k => by rw [slices_EqualFunc_impl_CodeFun__impl_sameCode.l0]) (Ev.neg (by omega) (Ev.now _))
    · intro i h h' r hr
      refine Ev.step (fun k => by rw [slices_EqualFunc_impl_CodeFun__impl_sameCode.l0]) (Ev.pos (by omega) (Ev.pos (by omega) (Ev.pos (by omega) (Ev.pos (by omega) ?_))))
      rw [rdCf xs i h, rdCf ys i h', wrap_succ h hs]
      exact Ev.bind (implCode_ev xs[i] ys[i] (hx _ (List.getElem_mem h))) (Ev.and hr)
  · rw [same_len c]
    exact Ev.neg c (Ev.now _)
theorem specSame_ev (a0 b0 : List RefI) (a1 b1 : List CfI) (h0 : a0.length ≤ 4611686018427387904) (h1 : a1.length ≤ 4611686018427387904) (g1 : ∀ x, x ∈ a1 → fewCodeFun x) :
    Ev (fun k => spec_CodeSame.f k a0 a1 b0 b1) (same a0 b0 && same a1 b1) := by
  have jt : Ev (fun k => spec_CodeSame.j0 k true a0 a1 b0 b1) false := Ev.step (fun k => by rw [spec_CodeSame.j0]) (Ev.pos rfl (Ev.now _))
  unfold spec_CodeSame.f
  by_cases c0 : (a0.length : Int) = (b0.length : Int)
  case neg =>
    rw [same_len c0]
    exact Ev.neg c0 jt
  refine Ev.pos c0 ?_
  by_cases c1 : (a1.length : Int) = (b1.length : Int)
  case neg =>
    rw [show ((a1.length : Int) != (b1.length : Int)) = true by simpa using c1, same_len c1, Bool.and_false]
    exact jt
  rw [show ((a1.length : Int) != (b1.length : Int)) = false by simpa using c1]
  refine Ev.step (fun k => by rw [spec_CodeSame.j0]) (Ev.neg (by simp) ?_)
  refine same_whole a0 b0 (by omega) (fun i k => spec_CodeSame.l0 k (i : Int) a0 a1 b0 b1) _ ?_ ?_
  · refine Ev.step (fun k => by rw [spec_CodeSame.l0]) (Ev.neg (by omega) ?_)
    refine Ev.eq (same_whole a1 b1 (by omega) (fun i k => spec_CodeSame.l1 k (i : Int) a0 a1 b0 b1) true ?_ ?_) (Bool.and_true _)
    · exact Ev.step (fun k => by rw [spec_CodeSame.l1]) (Ev.neg (by omega) (Ev.now _))
    · intro i h h' r hr
      refine Ev.step (fun k => by rw [spec_CodeSame.l1]) (Ev.pos (by omega) (Ev.pos (by omega) (Ev.pos (by omega) ?_)))
      rw [rdCf a1 i h, rdCf b1 i h', wrap_succ h h1]
      exact Ev.bind (specCode_ev a1[i] b1[i] (g1 _ (List.getElem_mem h))) (Ev.and hr)
  · intro i h h' r hr
    refine Ev.step (fun k => by rw [spec_CodeSame.l0]) (Ev.pos (by omega) (Ev.pos (by omega) (Ev.pos (by omega) ?_)))
    rw [rdRef a0 i h, rdRef b0 i h', wrap_succ h h0, refTest]
    exact Ev.nand hr
theorem implSame_ev (a0 b0 : List RefI) (a1 b1 : List CfI) (h0 : a0.length ≤ 4611686018427387904) (h1 : a1.length ≤ 4611686018427387904) (g1 : ∀ x, x ∈ a1 → fewCodeFun x) :
    Ev (fun k => impl_CodeSame.f k a0 a1 b0 b1) (same a0 b0 && same a1 b1) := by
  unfold impl_CodeSame.f
  exact Ev.bind (implRefs_ev a0 b0 h0) (Ev.and (Ev.bind (implCodes_ev a1 b1 h1 g1) (Ev.now _)))
theorem FnExactCodeSame : laws_FnExactCodeSame.PureF := by
  intro x y hx hy
  apply Ev.rounds
  unfold laws_FnExactCodeSame.f
  obtain ⟨r, hr, hle, hP⟩ := szCodeObj_ev x hx 1048576 (by omega) (by omega)
  refine Ev.bind hr ?_
  by_cases h : r < 0
  · exact Ev.pos h (Ev.now _)
  obtain ⟨s, hs, hle2, hQ⟩ := szCodeObj_ev y hy r (by omega) (by omega)
  refine Ev.neg h (Ev.bind hs ?_)
  by_cases h2 : s < 0
  · exact Ev.pos h2 (Ev.now _)
  have px := hP (by omega)
  have py := hQ (by omega)
  have fx := fewCodeObj_con x px
  have fy := fewCodeObj_con y py
  have tx := toCodeObj_ev x px
  have ty := toCodeObj_ev y py
  refine Ev.neg h2 (Ev.bind tx (Ev.bind ty (Ev.bind (specSame_ev _ _ _ _ fx.1 fx.2.1 fx.2.2) (Ev.bind tx (Ev.bind ty (Ev.bind (implSame_ev _ _ _ _ fx.1 fx.2.1 fx.2.2) ?_))))))
  exact Ev.neg (by simp) (Ev.bind tx (Ev.bind (eqCodeObj_ev _ fx) (Ev.pos rfl (Ev.bind ty (Ev.bind (eqCodeObj_ev _ fy) (Ev.pos rfl (Ev.now _)))))))

end Go.Proofs.Ytnebeklmfenikaa.Pure
