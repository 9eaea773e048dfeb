/- The program's ObjOk and the reference's answer the same at all objects whose parts and texts hold together at most 2^20, and the program leaves its argument as it was. -/
import Derived.Test.YtnebeklmfenikaaFFnExactObjOk
import Derived.Test.YtnebeklmfenikaaOpen
import Derived.Test.YtnebeklmfenikaaLib
namespace Go.Proofs.Ytnebeklmfenikaa.Pure
open Go.RowKit Go.Proofs.Ytnebeklmfenikaa.Q Go.Proofs.YtnebeklmfenikaaW.PrintWords Go.Proofs.YtnebeklmfenikaaW.PrintLast Go.Proofs.Ytnebeklmfenikaa.Lib Go.Proofs.Ytnebeklmfenikaa.Open
set_option linter.unusedVariables false

/-! ### lists of texts -/
def short (s : ByteArray) : Prop := s.size ≤ 1048576
def shorts (l : List ByteArray) : Prop := l.length ≤ 1048576 ∧ ∀ s, s ∈ l → short s

/-! ### lists of whole numbers -/
theorem rd_nth (xs : List Int) (i : Nat) (h : i < xs.length) : rd xs (i : Int) = xs[i] := rd_get h
theorem szInts_ev (l : List Int) (hl : fitList rng l) (acc : Int) (h0 : 0 ≤ acc) (h1 : acc ≤ 1048576) : ∃ r, Ev (fun _ => laws_szIntS.f l acc) r ∧ r ≤ acc ∧ (0 ≤ r → l.length ≤ 1048576) := by
  have hs : l.length ≤ 9223372036854775807 := hl.1
  unfold laws_szIntS.f
  rw [wrap_id (by omega) (by omega)]
  exact ExEv.ite (fun h => ExEv.less _ (by omega)) (fun h => ⟨_, Ev.now _, by omega, fun _ => by omega⟩)
theorem toInts_ev (l : List Int) (hl : l.length ≤ 1048576) : Ev (fun k => laws_toIntS.f k l) l := by
  have := map_whole (L := laws_toIntS.l0) (g := fun _ s => some s) (rdx := rd) (f := id) (0 : Int) 35184372088832 rd_nth (fun k xs out i => by simp only [laws_toIntS.l0, Option.bind_some]) l hl (by omega) (fun s _ => Ev.now _)
  rw [List.map_id] at this
  exact this
theorem eqInts_ev (l : List Int) (hl : l.length ≤ 4611686018427387904) : Ev (fun k => laws_eqIntS.f k l l) true := by
  refine eq_whole (L := laws_eqIntS.l0) (g := fun _ a b => if a = b then some true else some false) (rdx := rd) rd_nth ?_ l hl (fun s _ => Ev.const (by rw [if_pos rfl]))
  intro k xs ys i
  simp only [laws_eqIntS.l0]
  split
  · split
    · split
      · split <;> rfl
      · rfl
    · rfl
  · rfl

theorem range_ev (a b c : Int) : impl_inRange.f a b c = some (decide (b ≤ a) && decide (a ≤ c)) := by
  unfold impl_inRange.f
  split
  · rename_i h; simp [h]
  · rename_i h; simp [h]
/-! ### names -/
def low (b : UInt8) : Bool := decide (97 ≤ b.toNat) && decide (b.toNat ≤ 122)
def ownWords : List ByteArray := [(⟨#[117, 115, 101]⟩ : ByteArray), (⟨#[102, 117, 110]⟩ : ByteArray), (⟨#[112, 117, 98]⟩ : ByteArray), (⟨#[109, 97, 105, 110]⟩ : ByteArray), (⟨#[105, 110, 116]⟩ : ByteArray), (⟨#[98, 111, 111, 108]⟩ : ByteArray), (⟨#[114, 111, 119]⟩ : ByteArray), (⟨#[105, 102]⟩ : ByteArray), (⟨#[108, 101, 116]⟩ : ByteArray), (⟨#[116, 114, 117, 101]⟩ : ByteArray), (⟨#[102, 97, 108, 115, 101]⟩ : ByteArray), (⟨#[97, 110, 100]⟩ : ByteArray), (⟨#[111, 114]⟩ : ByteArray), (⟨#[110, 111, 116]⟩ : ByteArray), (⟨#[97, 116]⟩ : ByteArray), (⟨#[108, 101, 110]⟩ : ByteArray), (⟨#[112, 117, 116]⟩ : ByteArray), (⟨#[106, 111, 105, 110]⟩ : ByteArray), (⟨#[112, 114, 105, 110, 116]⟩ : ByteArray)]
/-- A word is a name. -/
def isName (s : ByteArray) : Bool := decide (1 ≤ s.size) && (decide (s.size ≤ 8) && ((from_ s 0).all low && !decide (s ∈ ownWords)))
theorem kept_loop (s : ByteArray) (xs : List ByteArray) (hx : xs.length ≤ 4611686018427387904) : ∀ (d k i : Nat), xs.length = i + d → d < k → spec_l1Kept.l0 k s xs (i : Int) = some (decide (s ∈ xs.drop i)) := by
  intro d
  induction d with
  | zero =>
    intro k i hi hk
    obtain ⟨k, rfl⟩ := less k (by omega)
    simp only [spec_l1Kept.l0]
    rw [if_neg (by omega), drop_end (by omega)]
    rfl
  | succ d ih =>
    intro k i hi hk
    obtain ⟨k, rfl⟩ := less k (by omega)
    have hl : i < xs.length := by omega
    simp only [spec_l1Kept.l0]
    rw [if_pos (by omega), if_pos (by omega), rdOf_get hl, drop_cons hl, wrap_succ hl hx, ih k (i + 1) (by omega) (by omega)]
    by_cases h : xs[i] = s
    · rw [if_pos (by rw [h]), decide_eq_true (List.mem_cons.mpr (.inl h.symm))]
    · rw [if_neg (fun e => h (str_inj e))]
      congr 1
      rw [decide_eq_decide, List.mem_cons]
      exact ⟨.inr, fun e => e.resolve_left (Ne.symm h)⟩
/-- The place of a text in a list, from i on; -1, if it isn't there. -/
def place (s : ByteArray) : List ByteArray → Int → Int
  | [], _ => -1
  | x :: r, i => if s = x then i else place s r (i + 1)
theorem place_mem (s : ByteArray) : ∀ (xs : List ByteArray) (i : Int), 0 ≤ i → (0 ≤ place s xs i ↔ s ∈ xs)
  | [], i, _ => by simp [place]
  | x :: r, i, h => by
    rw [place]
    split
    · rename_i e; simp [e, h]
    · rename_i e; rw [place_mem s r (i + 1) (by omega)]; simp [e]
theorem index_loop (xs : List ByteArray) (s : ByteArray) (hx : xs.length ≤ 4611686018427387904) : ∀ (d k i : Nat), xs.length = i + d → d < k → slices_Index_string_string.l0 k xs s (xs.length : Int) (i : Int) = some (place s (xs.drop i) (i : Int)) := by
  intro d
  induction d with
  | zero =>
    intro k i hi hk
    obtain ⟨k, rfl⟩ := less k (by omega)
    simp only [slices_Index_string_string.l0]
    rw [if_neg (by omega), drop_end (by omega)]
    rfl
  | succ d ih =>
    intro k i hi hk
    obtain ⟨k, rfl⟩ := less k (by omega)
    have hl : i < xs.length := by omega
    simp only [slices_Index_string_string.l0]
    rw [if_pos (by omega), if_pos (by omega), if_pos (by omega), rdOf_get hl, drop_cons hl, wrap_succ hl hx, ih k (i + 1) (by omega) (by omega), place]
    by_cases h : s = xs[i]
    · rw [if_pos h, if_pos (by rw [h])]
    · rw [if_neg h, if_neg (fun e => h (str_inj e))]
      rfl
theorem contains_ev (xs : List ByteArray) (s : ByteArray) (hx : xs.length ≤ 4611686018427387904) {k : Nat} (hk : xs.length < k) : slices_Contains_string_string.f k xs s = some (decide (s ∈ xs)) := by
  unfold slices_Contains_string_string.f slices_Index_string_string.f
  rw [show (0 : Int) = ((0 : Nat) : Int) from rfl, index_loop xs s hx xs.length k 0 (by omega) hk, Option.bind_some]
  have := place_mem s xs 0 (by omega)
  simp only [List.drop_zero, ge_iff_le]
  congr 1
  rw [decide_eq_decide]
  exact this
theorem ownWords_length : ownWords.length = 19 := rfl
theorem own_ev (s : ByteArray) {k : Nat} (hk : 19 < k) : impl_isOwn.f k s = some (decide (s ∈ ownWords)) := by
  have h := contains_ev ownWords s (by rw [ownWords_length]; omega) (k := k) (by rw [ownWords_length]; exact hk)
  unfold impl_isOwn.f
  show (slices_Contains_string_string.f k ownWords s).bind _ = _
  rw [h]
  rfl
theorem kept_ev (s : ByteArray) {k : Nat} (hk : 19 < k) : spec_l1Kept.f k s = some (decide (s ∈ ownWords)) := by
  unfold spec_l1Kept.f
  exact kept_loop s ownWords (by rw [ownWords_length]; omega) 19 k 0 (by rw [ownWords_length]) hk
theorem low_no {b : UInt8} (h : (b.toNat : Int) < 97 ∨ (b.toNat : Int) > 122) : low b = false := by
  simp only [low, Bool.and_eq_false_iff, decide_eq_false_iff_not]
  omega
theorem low_yes {b : UInt8} (h : ¬ (b.toNat : Int) < 97) (h' : ¬ (b.toNat : Int) > 122) : low b = true := by
  simp only [low, Bool.and_eq_true, decide_eq_true_eq]
  omega
theorem specName_loop (s : ByteArray) (hs : s.size ≤ 4611686018427387904) : ∀ (d k i : Nat), s.size = i + d → d < k → spec_LexName.l0 k s (i : Int) = some ((from_ s i).all low) := by
  intro d
  induction d with
  | zero =>
    intro k i hi hk
    obtain ⟨k, rfl⟩ := less k (by omega)
    simp only [spec_LexName.l0]
    rw [if_neg (by omega), from_end (by omega)]
    rfl
  | succ d ih =>
    intro k i hi hk
    obtain ⟨k, rfl⟩ := less k (by omega)
    have hl : i < s.size := by omega
    simp only [spec_LexName.l0]
    rw [if_pos (by omega), if_pos (by omega), bt_get hl, from_cons hl, wrap_succ hl hs, ih k (i + 1) (by omega) (by omega)]
    by_cases h : (s.data[i].toNat : Int) < 97
    · rw [if_pos h, List.all_cons, low_no (.inl h)]; rfl
    · rw [if_neg h]
      by_cases h' : (s.data[i].toNat : Int) > 122
      · rw [if_pos h', List.all_cons, low_no (.inr h')]; rfl
      · rw [if_neg h', List.all_cons, low_yes h h']; rfl
theorem implName_loop (s : ByteArray) (hs : s.size ≤ 4611686018427387904) : ∀ (d k i : Nat), s.size = i + d → d + 20 < k → impl_LexName.l0 k s (s.size : Int) (i : Int) = some ((from_ s i).all low && (decide (1 ≤ s.size) && (decide (s.size ≤ 8) && !decide (s ∈ ownWords)))) := by
  intro d
  induction d with
  | zero =>
    intro k i hi hk
    obtain ⟨k, rfl⟩ := less k (by omega)
    simp only [impl_LexName.l0]
    rw [if_neg (by omega), from_end (by omega), range_ev, Option.bind_some, own_ev s (by omega)]
    have e1 : decide (1 ≤ (s.size : Int)) = decide (1 ≤ s.size) := by rw [decide_eq_decide]; omega
    have e2 : decide ((s.size : Int) ≤ 8) = decide (s.size ≤ 8) := by rw [decide_eq_decide]; omega
    rw [e1, e2]
    cases decide (1 ≤ s.size) <;> cases decide (s.size ≤ 8) <;> cases decide (s ∈ ownWords) <;> rfl
  | succ d ih =>
    intro k i hi hk
    obtain ⟨k, rfl⟩ := less k (by omega)
    have hl : i < s.size := by omega
    simp only [impl_LexName.l0]
    rw [if_pos (by omega), if_pos (by omega), if_pos (by omega), bt_get hl, from_cons hl, wrap_succ hl hs, ih k (i + 1) (by omega) (by omega)]
    by_cases h : (s.data[i].toNat : Int) < 97
    · rw [if_pos h, List.all_cons, low_no (.inl h)]; rfl
    · rw [if_neg h]
      by_cases h' : (s.data[i].toNat : Int) > 122
      · rw [if_pos h', List.all_cons, low_no (.inr h')]; rfl
      · rw [if_neg h', List.all_cons, low_yes h h']; rfl
theorem implName_ev (s : ByteArray) (hs : s.size ≤ 4611686018427387904) {k : Nat} (hk : s.size + 20 < k) : impl_LexName.f k s = some (isName s) := by
  unfold impl_LexName.f
  rw [show (0 : Int) = ((0 : Nat) : Int) from rfl, implName_loop s hs s.size k 0 (by omega) hk]
  unfold isName
  cases decide (1 ≤ s.size) <;> cases decide (s.size ≤ 8) <;> cases decide (s ∈ ownWords) <;> cases (from_ s 0).all low <;> rfl
theorem specName_ev (s : ByteArray) (hs : s.size ≤ 4611686018427387904) {k : Nat} (hk : s.size + 20 < k) : spec_LexName.f k s = some (isName s) := by
  unfold spec_LexName.f isName
  by_cases h1 : (s.size : Int) < 1
  · obtain ⟨k, rfl⟩ := less k (by omega)
    rw [if_pos h1, decide_eq_false (by omega : ¬ 1 ≤ s.size)]
    simp only [spec_LexName.j0]
    rfl
  · rw [if_neg h1, decide_eq_true (by omega : 1 ≤ s.size)]
    by_cases h2 : (s.size : Int) > 8
    · obtain ⟨k, rfl⟩ := less k (by omega)
      rw [if_pos h2, decide_eq_false (by omega : ¬ s.size ≤ 8)]
      simp only [spec_LexName.j0]
      rfl
    · rw [if_neg h2, decide_eq_true (by omega : s.size ≤ 8), kept_ev s (by omega), Option.bind_some]
      obtain ⟨k, rfl⟩ := less k (by omega)
      simp only [spec_LexName.j0]
      rw [show (0 : Int) = ((0 : Nat) : Int) from rfl, specName_loop s hs s.size k 0 (by omega) (by omega)]
      cases decide (s ∈ ownWords) <;> cases (from_ s 0).all low <;> rfl
theorem implName (s : ByteArray) (hs : s.size ≤ 4611686018427387904) : Ev (fun k => impl_LexName.f k s) (isName s) := Ev.from (s.size + 20) (fun _ hk => implName_ev s hs hk)
theorem specName (s : ByteArray) (hs : s.size ≤ 4611686018427387904) : Ev (fun k => spec_LexName.f k s) (isName s) := Ev.from (s.size + 20) (fun _ hk => specName_ev s hs hk)

/-! ### CodeRef -/
def shortCodeRef (x : S123) : Prop := short x.f0 ∧ short x.f1
def conCodeRef (x : S123) : S70 := ⟨x.f0, x.f1⟩
theorem rdLCodeRef (xs : List S123) (i : Nat) (h : i < xs.length) : rd_T123 xs (i : Int) = xs[i] := by simp [rd_T123, h]
theorem rdICodeRef (xs : List S70) (i : Nat) (h : i < xs.length) : rd_T70 xs (i : Int) = xs[i] := by simp [rd_T70, h]
theorem szCodeRef_ev (x : S123) (hx : fit123 x) (acc : Int) (h0 : 0 ≤ acc) (h1 : acc ≤ 1048576) : ∃ r, Ev (fun _ => laws_szCodeRef.f x.f0 x.f1 acc) r ∧ r ≤ acc ∧ (0 ≤ r → shortCodeRef x) := by
  unfold laws_szCodeRef.f
  have hs0 : x.f0.size ≤ 9223372036854775807 := hx.1
  rw [wrap_id (by omega) (by omega)]
  refine ExEv.ite (fun h => ExEv.less _ (by omega)) (fun h0 => ?_)
  have hs1 : x.f1.size ≤ 9223372036854775807 := hx.2
  rw [wrap_id (by omega) (by omega)]
  refine ExEv.ite (fun h => ExEv.less _ (by omega)) (fun h1 => ?_)
  exact ⟨_, Ev.now _, by omega, fun _ => ⟨(by show x.f0.size ≤ 1048576; omega), (by show x.f1.size ≤ 1048576; omega)⟩⟩
theorem szCodeRefS_ev (l : List S123) (hl : fitList fit123 l) (acc : Int) (h0 : 0 ≤ acc) (h1 : acc ≤ 1048576) : ∃ r, Ev (fun k => laws_szCodeRefS.f k l acc) r ∧ r ≤ acc ∧ (0 ≤ r → l.length ≤ 1048576 ∧ ∀ x, x ∈ l → shortCodeRef x) := by
  exact sz_whole (L := laws_szCodeRefS.l0) (g := fun _ x acc => laws_szCodeRef.f x.f0 x.f1 acc) (rdx := rd_T123) (P := shortCodeRef) rdLCodeRef (fun k xs acc i => by simp only [laws_szCodeRefS.l0]) l hl.1 (fun x hx acc h0 h1 => szCodeRef_ev x (hl.2 x hx) acc h0 h1) acc h0 h1
theorem toCodeRef_ev (x : S123) (hx : shortCodeRef x) : Ev (fun _ => laws_toCodeRef.f x.f0 x.f1) ((conCodeRef x).f0, (conCodeRef x).f1) := by
  unfold laws_toCodeRef.f
  exact Ev.now _
theorem toCodeRefS_ev (l : List S123) (hl : l.length ≤ 1048576) (hs : ∀ x, x ∈ l → shortCodeRef x) : Ev (fun k => laws_toCodeRefS.f k l) (l.map conCodeRef) := by
  refine map_whole (L := laws_toCodeRefS.l0) (g := fun _ x => (laws_toCodeRef.f x.f0 x.f1).bind fun bt => some (⟨bt.1, bt.2⟩ : S70)) (rdx := rd_T123) (f := conCodeRef) z70 8796093022208 rdLCodeRef ?_ l hl (by omega) ?_
  · intro k xs out i
    simp only [laws_toCodeRefS.l0]
    cases laws_toCodeRef.f (rd_T123 xs i).f0 (rd_T123 xs i).f1 <;> rfl
  · intro x hx
    exact Ev.bind (toCodeRef_ev x (hs x hx)) (Ev.now _)
def fewCodeRef (x : S70) : Prop := True
theorem eqCodeRef_ev (x : S70) : Ev (fun _ => laws_eqCodeRef.f x.f0 x.f1 x.f0 x.f1) true := by
  unfold laws_eqCodeRef.f
  refine Ev.pos rfl ?_
  refine Ev.pos rfl ?_
  exact Ev.now _
theorem eqCodeRefS_ev (l : List S70) (hl : l.length ≤ 4611686018427387904) : Ev (fun k => laws_eqCodeRefS.f k l l) true :=
  eq_whole (L := laws_eqCodeRefS.l0) (g := fun _ x y => laws_eqCodeRef.f x.f0 x.f1 y.f0 y.f1) (rdx := rd_T70) rdICodeRef (fun k xs ys i => by simp only [laws_eqCodeRefS.l0]) l hl (fun x hx => eqCodeRef_ev x)
/-! ### CodeIns -/
def shortCodeIns (x : S162) : Prop := True
def conCodeIns (x : S162) : S85 := ⟨x.f0, x.f1⟩
theorem rdLCodeIns (xs : List S162) (i : Nat) (h : i < xs.length) : rd_T162 xs (i : Int) = xs[i] := by simp [rd_T162, h]
theorem rdICodeIns (xs : List S85) (i : Nat) (h : i < xs.length) : rd_T85 xs (i : Int) = xs[i] := by simp [rd_T85, h]
theorem szCodeInsS_ev (l : List S162) (hl : fitList fit162 l) (acc : Int) (h0 : 0 ≤ acc) (h1 : acc ≤ 1048576) : ∃ r, Ev (fun _ => laws_szCodeInsS.f l acc) r ∧ r ≤ acc ∧ (0 ≤ r → l.length ≤ 1048576 ∧ ∀ x, x ∈ l → shortCodeIns x) := by
  have hs : l.length ≤ 9223372036854775807 := hl.1
  unfold laws_szCodeInsS.f
  rw [wrap_id (by omega) (by omega)]
  exact ExEv.ite (fun h => ExEv.less _ (by omega)) (fun h => ⟨_, Ev.now _, by omega, fun _ => ⟨by omega, fun _ _ => trivial⟩⟩)
theorem toCodeIns_ev (x : S162) : Ev (fun _ => laws_toCodeIns.f x.f0 x.f1) ((conCodeIns x).f0, (conCodeIns x).f1) := by
  unfold laws_toCodeIns.f
  exact Ev.now _
theorem toCodeInsS_ev (l : List S162) (hl : l.length ≤ 1048576) : Ev (fun k => laws_toCodeInsS.f k l) (l.map conCodeIns) := by
  refine map_whole (L := laws_toCodeInsS.l0) (g := fun _ x => (laws_toCodeIns.f x.f0 x.f1).bind fun bt => some (⟨bt.1, bt.2⟩ : S85)) (rdx := rd_T162) (f := conCodeIns) z85 17592186044416 rdLCodeIns ?_ l hl (by omega) ?_
  · intro k xs out i
    simp only [laws_toCodeInsS.l0]
    cases laws_toCodeIns.f (rd_T162 xs i).f0 (rd_T162 xs i).f1 <;> rfl
  · intro x hx
    exact Ev.bind (toCodeIns_ev x) (Ev.now _)
def fewCodeIns (x : S85) : Prop := True
theorem eqCodeIns_ev (x : S85) : Ev (fun _ => laws_eqCodeIns.f x.f0 x.f1 x.f0 x.f1) true := by
  unfold laws_eqCodeIns.f
  refine Ev.pos rfl ?_
  refine Ev.pos rfl ?_
  exact Ev.now _
theorem eqCodeInsS_ev (l : List S85) (hl : l.length ≤ 4611686018427387904) : Ev (fun k => laws_eqCodeInsS.f k l l) true :=
  eq_whole (L := laws_eqCodeInsS.l0) (g := fun _ x y => laws_eqCodeIns.f x.f0 x.f1 y.f0 y.f1) (rdx := rd_T85) rdICodeIns (fun k xs ys i => by simp only [laws_eqCodeInsS.l0]) l hl (fun x hx => eqCodeIns_ev x)
/-! ### CodeFun -/
def shortCodeFun (x : S127) : Prop := short x.f0 ∧ x.f2.length ≤ 1048576 ∧ (x.f5.length ≤ 1048576 ∧ ∀ y, y ∈ x.f5 → shortCodeIns y)
def conCodeFun (x : S127) : S74 := ⟨x.f0, x.f1, x.f2, x.f3, x.f4, x.f5.map conCodeIns⟩
theorem rdLCodeFun (xs : List S127) (i : Nat) (h : i < xs.length) : rd_T127 xs (i : Int) = xs[i] := by simp [rd_T127, h]
theorem rdICodeFun (xs : List S74) (i : Nat) (h : i < xs.length) : rd_T74 xs (i : Int) = xs[i] := by simp [rd_T74, h]
theorem szCodeFun_ev (x : S127) (hx : fit127 x) (acc : Int) (h0 : 0 ≤ acc) (h1 : acc ≤ 1048576) : ∃ r, Ev (fun _ => laws_szCodeFun.f x.f0 x.f1 x.f2 x.f3 x.f4 x.f5 acc) r ∧ r ≤ acc ∧ (0 ≤ r → shortCodeFun x) := by
  unfold laws_szCodeFun.f
  have hs0 : x.f0.size ≤ 9223372036854775807 := hx.1
  rw [wrap_id (by omega) (by omega)]
  refine ExEv.ite (fun h => ExEv.less _ (by omega)) (fun h0 => ?_)
  refine ExEv.bind (szInts_ev x.f2 (hx.2.2.1) _ (by omega) (by omega)) (fun t2 ⟨hl2, hP2⟩ => ?_)
  refine ExEv.ite (fun h => ExEv.less _ (by omega)) (fun h2 => ?_)
  refine ExEv.bind (szCodeInsS_ev x.f5 (hx.2.2.2.2.2) _ (by omega) (by omega)) (fun t5 ⟨hl5, hP5⟩ => ?_)
  refine ExEv.ite (fun h => ExEv.less _ (by omega)) (fun h5 => ?_)
  exact ⟨_, Ev.now _, by omega, fun _ => ⟨(by show x.f0.size ≤ 1048576; omega), (hP2 (by omega)), (hP5 (by omega))⟩⟩
theorem szCodeFunS_ev (l : List S127) (hl : fitList fit127 l) (acc : Int) (h0 : 0 ≤ acc) (h1 : acc ≤ 1048576) : ∃ r, Ev (fun k => laws_szCodeFunS.f k l acc) r ∧ r ≤ acc ∧ (0 ≤ r → l.length ≤ 1048576 ∧ ∀ x, x ∈ l → shortCodeFun x) := by
  exact sz_whole (L := laws_szCodeFunS.l0) (g := fun _ x acc => laws_szCodeFun.f x.f0 x.f1 x.f2 x.f3 x.f4 x.f5 acc) (rdx := rd_T127) (P := shortCodeFun) rdLCodeFun (fun k xs acc i => by simp only [laws_szCodeFunS.l0]) l hl.1 (fun x hx acc h0 h1 => szCodeFun_ev x (hl.2 x hx) acc h0 h1) acc h0 h1
theorem toCodeFun_ev (x : S127) (hx : shortCodeFun x) : Ev (fun k => laws_toCodeFun.f k x.f0 x.f1 x.f2 x.f3 x.f4 x.f5) ((conCodeFun x).f0, (conCodeFun x).f1, (conCodeFun x).f2, (conCodeFun x).f3, (conCodeFun x).f4, (conCodeFun x).f5) := by
  unfold laws_toCodeFun.f
  exact Ev.bind (toInts_ev x.f2 hx.2.1) (Ev.bind (toCodeInsS_ev x.f5 (hx.2.2).1) (Ev.now _))
theorem toCodeFunS_ev (l : List S127) (hl : l.length ≤ 1048576) (hs : ∀ x, x ∈ l → shortCodeFun x) : Ev (fun k => laws_toCodeFunS.f k l) (l.map conCodeFun) := by
  refine map_whole (L := laws_toCodeFunS.l0) (g := fun k x => (laws_toCodeFun.f k x.f0 x.f1 x.f2 x.f3 x.f4 x.f5).bind fun bt => some (⟨bt.1, bt.2.1, bt.2.2.1, bt.2.2.2.1, bt.2.2.2.2.1, bt.2.2.2.2.2⟩ : S74)) (rdx := rd_T127) (f := conCodeFun) z74 3198579280802 rdLCodeFun ?_ l hl (by omega) ?_
  · intro k xs out i
    simp only [laws_toCodeFunS.l0]
    cases laws_toCodeFun.f k (rd_T127 xs i).f0 (rd_T127 xs i).f1 (rd_T127 xs i).f2 (rd_T127 xs i).f3 (rd_T127 xs i).f4 (rd_T127 xs i).f5 <;> rfl
  · intro x hx
    exact Ev.bind (toCodeFun_ev x (hs x hx)) (Ev.now _)
def fewCodeFun (x : S74) : Prop := x.f2.length ≤ 4611686018427387904 ∧ x.f5.length ≤ 4611686018427387904
theorem fewCodeFun_con (x : S127) (hx : shortCodeFun x) : fewCodeFun (conCodeFun x) := ⟨(by have := hx.2.1; show x.f2.length ≤ _; omega), (by have := (hx.2.2).1; show (x.f5.map conCodeIns).length ≤ _; rw [List.length_map]; omega)⟩
theorem eqCodeFun_ev (x : S74) (hx : fewCodeFun x) : Ev (fun k => laws_eqCodeFun.f k x.f0 x.f1 x.f2 x.f3 x.f4 x.f5 x.f0 x.f1 x.f2 x.f3 x.f4 x.f5) true := by
  unfold laws_eqCodeFun.f
  refine Ev.pos rfl ?_
  refine Ev.neg (by simp) ?_
  refine Ev.bind (eqInts_ev x.f2 hx.1) (Ev.pos rfl ?_)
  refine Ev.pos rfl ?_
  refine Ev.pos rfl ?_
  refine Ev.bind (eqCodeInsS_ev x.f5 hx.2) (Ev.pos rfl ?_)
  exact Ev.now _
theorem eqCodeFunS_ev (l : List S74) (hl : l.length ≤ 4611686018427387904) (hs : ∀ x, x ∈ l → fewCodeFun x) : Ev (fun k => laws_eqCodeFunS.f k l l) true :=
  eq_whole (L := laws_eqCodeFunS.l0) (g := fun k x y => laws_eqCodeFun.f k x.f0 x.f1 x.f2 x.f3 x.f4 x.f5 y.f0 y.f1 y.f2 y.f3 y.f4 y.f5) (rdx := rd_T74) rdICodeFun (fun k xs ys i => by simp only [laws_eqCodeFunS.l0]) l hl (fun x hx => eqCodeFun_ev x (hs x hx))
/-! ### CodeObj -/
structure S31 where
  f0 : List (S70)
  f1 : List (S74)
def shortCodeObj (x : S25) : Prop := (x.f0.length ≤ 1048576 ∧ ∀ y, y ∈ x.f0 → shortCodeRef y) ∧ (x.f1.length ≤ 1048576 ∧ ∀ y, y ∈ x.f1 → shortCodeFun y)
def conCodeObj (x : S25) : S31 := ⟨x.f0.map conCodeRef, x.f1.map conCodeFun⟩
theorem rdLCodeObj (xs : List S25) (i : Nat) (h : i < xs.length) : rd_T25 xs (i : Int) = xs[i] := by simp [rd_T25, h]
theorem szCodeObj_ev (x : S25) (hx : fit25 x) (acc : Int) (h0 : 0 ≤ acc) (h1 : acc ≤ 1048576) : ∃ r, Ev (fun k => laws_szCodeObj.f k x.f0 x.f1 acc) r ∧ r ≤ acc ∧ (0 ≤ r → shortCodeObj x) := by
  unfold laws_szCodeObj.f
  refine ExEv.bind (szCodeRefS_ev x.f0 (hx.1) _ (by omega) (by omega)) (fun t0 ⟨hl0, hP0⟩ => ?_)
  refine ExEv.ite (fun h => ExEv.less _ (by omega)) (fun h0 => ?_)
  refine ExEv.bind (szCodeFunS_ev x.f1 (hx.2) _ (by omega) (by omega)) (fun t1 ⟨hl1, hP1⟩ => ?_)
  refine ExEv.ite (fun h => ExEv.less _ (by omega)) (fun h1 => ?_)
  exact ⟨_, Ev.now _, by omega, fun _ => ⟨(hP0 (by omega)), (hP1 (by omega))⟩⟩
theorem toCodeObj_ev (x : S25) (hx : shortCodeObj x) : Ev (fun k => laws_toCodeObj.f k x.f0 x.f1) ((conCodeObj x).f0, (conCodeObj x).f1) := by
  unfold laws_toCodeObj.f
  exact Ev.bind (toCodeRefS_ev x.f0 (hx.1).1 (hx.1).2) (Ev.bind (toCodeFunS_ev x.f1 (hx.2).1 (hx.2).2) (Ev.now _))
def fewCodeObj (x : S31) : Prop := x.f0.length ≤ 4611686018427387904 ∧ x.f1.length ≤ 4611686018427387904 ∧ (∀ y, y ∈ x.f1 → fewCodeFun y)
theorem fewCodeObj_con (x : S25) (hx : shortCodeObj x) : fewCodeObj (conCodeObj x) := ⟨(by have := (hx.1).1; show (x.f0.map conCodeRef).length ≤ _; rw [List.length_map]; omega), (by have := (hx.2).1; show (x.f1.map conCodeFun).length ≤ _; rw [List.length_map]; omega), (fun y hy => by obtain ⟨z, hz, rfl⟩ := List.mem_map.mp hy; exact fewCodeFun_con z ((hx.2).2 z hz))⟩
theorem eqCodeObj_ev (x : S31) (hx : fewCodeObj x) : Ev (fun k => laws_eqCodeObj.f k x.f0 x.f1 x.f0 x.f1) true := by
  unfold laws_eqCodeObj.f
  refine Ev.bind (eqCodeRefS_ev x.f0 hx.1) (Ev.pos rfl ?_)
  refine Ev.bind (eqCodeFunS_ev x.f1 hx.2.1 hx.2.2) (Ev.pos rfl ?_)
  exact Ev.now _

/-! ### types -/
def isTypeB (t : Int) : Bool := decide (1 ≤ t) && decide (t ≤ 3)
theorem implType (t : Int) : impl_isType.f t = some (isTypeB t) := by
  unfold impl_isType.f
  rw [range_ev]
  rfl
theorem specType (t : Int) : ∃ s : ByteArray, spec_TreeType.f t = some s ∧ (s.toList = [] ↔ isTypeB t = false) := by
  unfold spec_TreeType.f isTypeB
  by_cases h1 : t < 1
  · rw [if_pos h1]
    exact ⟨_, rfl, by rw [toList_mk]; simp; omega⟩
  · rw [if_neg h1]
    by_cases h2 : t > 3
    · rw [if_pos h2]
      exact ⟨_, rfl, by rw [toList_mk]; simp; omega⟩
    · rw [if_neg h2, Option.bind_some, wrap_id (by omega) (by omega), if_pos (by omega), if_pos (by simp; omega)]
      refine ⟨_, rfl, ?_⟩
      rcases (by omega : t = 1 ∨ t = 2 ∨ t = 3) with rfl | rfl | rfl <;> simp [rdOf, toList_mk]
def typesB (l : List Int) : Bool := decide (l.length ≤ 4) && l.all isTypeB
theorem implTypes (l : List Int) (hl : l.length ≤ 4611686018427387904) : Ev (fun k => impl_areTypes.f k l) (typesB l) := by
  unfold impl_areTypes.f typesB
  by_cases h : (l.length : Int) ≤ 4
  · refine Ev.pos h ?_
    have h1 : Ev (fun k => slices_IndexFunc_slices_IndexFunc_int_int__impl_areTypes_1.f k l) (fidx (fun t => !isTypeB t) l 0) :=
      fidx_whole (L := slices_IndexFunc_slices_IndexFunc_int_int__impl_areTypes_1.l0) (g := fun _ t => impl_areTypes_1.f t) (rdx := rd) rd_nth (fun k xs n i => by simp only [slices_IndexFunc_slices_IndexFunc_int_int__impl_areTypes_1.l0]) l hl (fun t _ => Ev.const (by unfold impl_areTypes_1.f; rw [implType]; rfl))
    have h2 : Ev (fun k => slices_ContainsFunc_slices_ContainsFunc_int_int__impl_areTypes_1.f k l) (l.any fun t => !isTypeB t) := any_whole h1
    refine Ev.eq (Ev.bind h2 (Ev.now _)) ?_
    rw [decide_eq_true (show l.length ≤ 4 by omega), Bool.true_and, List.all_eq_not_any_not]
  · refine Ev.neg h (Ev.eq (Ev.now _) ?_)
    rw [decide_eq_false (show ¬ l.length ≤ 4 by omega), Bool.false_and]

abbrev RefI := S70
abbrev InsI := S85
abbrev CfI := S74
theorem rdRef (xs : List RefI) (i : Nat) (h : i < xs.length) : rd_T70 xs (i : Int) = xs[i] := by simp [rd_T70, h]
theorem rdIns (xs : List InsI) (i : Nat) (h : i < xs.length) : rd_T85 xs (i : Int) = xs[i] := by simp [rd_T85, h]
theorem rdCf (xs : List CfI) (i : Nat) (h : i < xs.length) : rd_T74 xs (i : Int) = xs[i] := by simp [rd_T74, h]
/-! ### instructions -/
def between (a b c : Int) : Bool := decide (a ≤ b) && decide (b ≤ c)
def insB (x : InsI) : Bool := if x.f0 = 1 then between (-99999999999999999) x.f1 99999999999999999 else if x.f0 = 2 then between 0 x.f1 1 else if x.f0 = 9 then x.f1 == 0 else between 1 x.f0 10 && between 0 x.f1 1000
theorem implIns (x : InsI) : impl_insOk.f x.f0 x.f1 = some (insB x) := by
  unfold impl_insOk.f impl_isShort.f insB between
  simp only [range_ev, Option.bind_some]
  by_cases c1 : x.f0 = 1
  · rw [if_pos c1, if_pos c1]
  rw [if_neg c1, if_neg c1]
  by_cases c2 : x.f0 = 2
  · rw [if_pos c2, if_pos c2]
  rw [if_neg c2, if_neg c2]
  by_cases c9 : x.f0 = 9
  · rw [if_pos c9, if_pos c9]
  rw [if_neg c9, if_neg c9]
  split
  · rename_i h; rw [h, Bool.true_and]
  · rename_i h; rw [Bool.eq_false_iff.mpr h, Bool.false_and]
theorem specIns (x : InsI) : spec_l8Ins.f x.f0 x.f1 = some (insB x) := by
  unfold spec_l8Ins.f insB between
  by_cases c1 : x.f0 = 1
  · rw [if_pos c1, if_pos c1]
    split
    · rw [decide_eq_true (show x.f1 ≤ 99999999999999999 by omega), Bool.and_true]
      rw [show decide (x.f1 > -100000000000000000) = decide (-99999999999999999 ≤ x.f1) from by rw [decide_eq_decide]; omega]
    · rw [decide_eq_false (show ¬ x.f1 ≤ 99999999999999999 by omega), Bool.and_false]
  rw [if_neg c1, if_neg c1]
  by_cases c2 : x.f0 = 2
  · rw [if_pos c2, if_pos c2]
    split
    · rename_i h; rw [h]; rfl
    · rename_i h
      congr 1
      rw [Bool.eq_iff_iff]
      simp
      omega
  rw [if_neg c2, if_neg c2]
  by_cases c9 : x.f0 = 9
  · rw [if_pos c9, if_pos c9]
  rw [if_neg c9, if_neg c9]
  by_cases d1 : x.f0 ≥ 1
  case neg => rw [if_neg d1, decide_eq_false (show ¬ 1 ≤ x.f0 by omega), Bool.false_and, Bool.false_and]
  rw [if_pos d1, decide_eq_true (show 1 ≤ x.f0 by omega), Bool.true_and]
  by_cases d2 : x.f0 ≤ 10
  case neg => rw [if_neg d2, decide_eq_false d2, Bool.false_and]
  rw [if_pos d2, decide_eq_true d2, Bool.true_and]
  by_cases d3 : x.f1 ≥ 0
  case neg => rw [if_neg d3, decide_eq_false (show ¬ 0 ≤ x.f1 by omega), Bool.false_and]
  rw [if_pos d3, decide_eq_true (show 0 ≤ x.f1 by omega), Bool.true_and]
theorem implCode (l : List InsI) (hl : l.length ≤ 4611686018427387904) : Ev (fun k => slices_ContainsFunc_impl_CodeIns__impl_ObjOk_1.f k l) (l.any fun x => !insB x) := by
  have h1 : Ev (fun k => slices_IndexFunc_impl_CodeIns__impl_ObjOk_1.f k l) (fidx (fun x => !insB x) l 0) :=
    fidx_whole (L := slices_IndexFunc_impl_CodeIns__impl_ObjOk_1.l0) (g := fun _ x => impl_ObjOk_1.f x.f0 x.f1) (rdx := rd_T85) rdIns (fun k xs n i => by simp only [slices_IndexFunc_impl_CodeIns__impl_ObjOk_1.l0]) l hl (fun x _ => Ev.const (by unfold impl_ObjOk_1.f; rw [implIns]; rfl))
  exact any_whole h1
/-! ### names that are called -/
def refB (x : RefI) : Bool := isName x.f1 && (decide (x.f0.toList = []) || isName x.f0)
theorem implRef (x : RefI) (h0 : x.f0.size ≤ 4611686018427387904) (h1 : x.f1.size ≤ 4611686018427387904) : Ev (fun k => impl_ObjOk_2.f k x.f0 x.f1) (!refB x) := by
  unfold impl_ObjOk_2.f refB
  refine Ev.bind (implName x.f1 h1) ?_
  cases hN : isName x.f1
  · exact Ev.neg (by simp) (Ev.now _)
  refine Ev.pos rfl ?_
  by_cases c : x.f0.toList = []
  · rw [decide_eq_true c]
    exact Ev.pos c (Ev.now _)
  · rw [decide_eq_false c, Bool.false_or, Bool.true_and]
    exact Ev.neg c (Ev.bind (implName x.f0 h0) (Ev.now _))
theorem implRefs (l : List RefI) (hl : l.length ≤ 4611686018427387904) (hs : ∀ x, x ∈ l → x.f0.size ≤ 4611686018427387904 ∧ x.f1.size ≤ 4611686018427387904) : Ev (fun k => slices_ContainsFunc_impl_CodeRef__impl_ObjOk_2.f k l) (l.any fun x => !refB x) := by
  have h1 : Ev (fun k => slices_IndexFunc_impl_CodeRef__impl_ObjOk_2.f k l) (fidx (fun x => !refB x) l 0) :=
    fidx_whole (L := slices_IndexFunc_impl_CodeRef__impl_ObjOk_2.l0) (g := fun k x => impl_ObjOk_2.f k x.f0 x.f1) (rdx := rd_T70) rdRef (fun k xs n i => by simp only [slices_IndexFunc_impl_CodeRef__impl_ObjOk_2.l0]) l hl (fun x hx => implRef x (hs x hx).1 (hs x hx).2)
  exact any_whole h1
theorem specRefs (l : List RefI) (fs : List CfI) (hl : l.length ≤ 4611686018427387904) (hs : ∀ x, x ∈ l → x.f0.size ≤ 4611686018427387904 ∧ x.f1.size ≤ 4611686018427387904) (r : Bool) (hr : Ev (fun k => spec_ObjOk.l1 k 0 0 l fs) r) :
    ∀ (d i : Nat), l.length = i + d → Ev (fun k => spec_ObjOk.l0 k (i : Int) l fs) ((l.drop i).all refB && r) := by
  intro d
  induction d with
  | zero =>
    intro i hi
    rw [drop_end (by omega)]
    exact Ev.step (fun k => by rw [spec_ObjOk.l0]) (Ev.neg (by omega) hr)
  | succ d ih =>
    intro i hi
    have h : i < l.length := by omega
    have hz := hs l[i] (List.getElem_mem h)
    rw [drop_cons h, List.all_cons, Bool.and_assoc]
    refine Ev.step (fun k => by rw [spec_ObjOk.l0]) (Ev.pos (by omega) (Ev.pos (by omega) ?_))
    rw [rdRef l i h, wrap_succ h hl]
    refine Ev.bind (specName _ hz.2) ?_
    unfold refB
    cases hN : isName l[i].f1
    · exact Ev.neg (by simp) (Ev.now _)
    refine Ev.pos rfl ?_
    by_cases c : l[i].f0.toList = []
    · rw [decide_eq_true c]
      exact Ev.pos c (ih (i + 1) (by omega))
    · rw [decide_eq_false c, Bool.false_or, Bool.true_and]
      refine Ev.neg c (Ev.bind (specName _ hz.1) ?_)
      cases hM : isName l[i].f0
      · exact Ev.neg (by simp) (Ev.now _)
      · exact Ev.pos rfl (ih (i + 1) (by omega))
/-! ### functions -/
def isMain (s : ByteArray) : Bool := decide (s.toList = ([109, 97, 105, 110] : List UInt8))
def headB (x : CfI) : Bool := (isName x.f0 || isMain x.f0) && (typesB x.f2 && (isTypeB x.f3 && between 0 x.f4 1000))
def funB (x : CfI) : Bool := headB x && x.f5.all insB
theorem implHead (x : CfI) (h0 : x.f0.size ≤ 4611686018427387904) (h2 : x.f2.length ≤ 4611686018427387904) : Ev (fun k => impl_headOk.f k x.f0 x.f2 x.f3 x.f4) (headB x) := by
  have tail : Ev (fun k => (impl_areTypes.f k x.f2).bind fun t235 => (if t235 = true then ((impl_isType.f x.f3).bind fun t236 => (if t236 = true then ((impl_inRange.f x.f4 0 1000).bind fun t237 => (some t237)) else (some false))) else (some false))) (typesB x.f2 && (isTypeB x.f3 && between 0 x.f4 1000)) := by
    refine Ev.bind (implTypes x.f2 h2) ?_
    cases hT : typesB x.f2
    · exact Ev.neg (by simp) (Ev.now _)
    refine Ev.pos rfl (Ev.bind (Ev.const (implType x.f3)) ?_)
    cases hU : isTypeB x.f3
    · exact Ev.neg (by simp) (Ev.now _)
    refine Ev.pos rfl ?_
    rw [range_ev]
    exact Ev.now _
  unfold impl_headOk.f headB
  refine Ev.bind (implName x.f0 h0) ?_
  cases hN : isName x.f0
  · refine Ev.neg (by simp) ?_
    unfold isMain
    by_cases c : x.f0.toList = ([109, 97, 105, 110] : List UInt8)
    · rw [decide_eq_true c]
      exact Ev.pos c tail
    · rw [decide_eq_false c]
      exact Ev.neg c (Ev.now _)
  · exact Ev.pos rfl tail
theorem tyEv (t : Int) {A B : Nat → Option Bool} {r : Bool} (hA : Ev A false) (hB : isTypeB t = true → Ev B r) (hr : isTypeB t = false → r = false) : Ev (fun k => (spec_TreeType.f t).bind fun s => if s.toList = ([] : List UInt8) then A k else B k) r := by
  obtain ⟨s, hs, he⟩ := specType t
  refine Ev.bind (Ev.const hs) ?_
  by_cases e : s.toList = []
  · exact Ev.pos e (Ev.eq hA (hr (he.mp e)).symm)
  · refine Ev.neg e (hB ?_)
    cases hb : isTypeB t with
    | true => rfl
    | false => exact absurd (he.mpr hb) e
theorem specCode_loop (x : CfI) (hl : x.f5.length ≤ 4611686018427387904) : ∀ (d i : Nat), x.f5.length = i + d → Ev (fun k => spec_l8Fun.l1 k (i : Int) x.f0 x.f1 x.f2 x.f3 x.f4 x.f5) ((x.f5.drop i).all insB) := by
  intro d
  induction d with
  | zero =>
    intro i hi
    rw [drop_end (by omega)]
    rw [show ([] : List InsI).all insB = true from rfl]
    exact Ev.step (fun k => by rw [spec_l8Fun.l1]) (Ev.neg (by omega) (Ev.now _))
  | succ d ih =>
    intro i hi
    have h : i < x.f5.length := by omega
    rw [drop_cons h, List.all_cons]
    refine Ev.step (fun k => by rw [spec_l8Fun.l1]) (Ev.pos (by omega) (Ev.pos (by omega) ?_))
    rw [rdIns x.f5 i h, wrap_succ h hl]
    refine Ev.bind (Ev.const (specIns _)) ?_
    cases hI : insB x.f5[i]
    · exact Ev.neg (by simp) (Ev.now _)
    · exact Ev.pos rfl (ih (i + 1) (by omega))
theorem specArgs_loop (x : CfI) (hl : x.f2.length ≤ 4611686018427387904) (hl5 : x.f5.length ≤ 4611686018427387904) : ∀ (d i : Nat), x.f2.length = i + d → Ev (fun k => spec_l8Fun.l0 k (i : Int) x.f0 x.f1 x.f2 x.f3 x.f4 x.f5) ((x.f2.drop i).all isTypeB && x.f5.all insB) := by
  intro d
  induction d with
  | zero =>
    intro i hi
    rw [drop_end (by omega)]
    exact Ev.step (fun k => by rw [spec_l8Fun.l0]) (Ev.neg (by omega) (by simpa using specCode_loop x hl5 x.f5.length 0 (by omega)))
  | succ d ih =>
    intro i hi
    have h : i < x.f2.length := by omega
    rw [drop_cons h, List.all_cons, Bool.and_assoc]
    refine Ev.step (fun k => by rw [spec_l8Fun.l0]) (Ev.pos (by omega) (Ev.pos (by omega) ?_))
    rw [rd_get h, wrap_succ h hl]
    exact tyEv _ (Ev.now _) (fun e => by rw [e, Bool.true_and]; exact ih (i + 1) (by omega)) (fun e => by rw [e, Bool.false_and])
theorem specFun (x : CfI) (h0 : x.f0.size ≤ 4611686018427387904) (h2 : x.f2.length ≤ 4611686018427387904) (h5 : x.f5.length ≤ 4611686018427387904) : Ev (fun k => spec_l8Fun.f k x.f0 x.f1 x.f2 x.f3 x.f4 x.f5) (funB x && decide (x.f5.length ≤ 460)) := by
  have jt : Ev (fun k => spec_l8Fun.j0 k true x.f0 x.f1 x.f2 x.f3 x.f4 x.f5) false := Ev.step (fun k => by rw [spec_l8Fun.j0]) (Ev.pos rfl (Ev.now _))
  have hnm : Ev (fun k => spec_l8Name.f k x.f0) (isName x.f0 || isMain x.f0) := by
    unfold spec_l8Name.f
    refine Ev.bind (specName x.f0 h0) ?_
    cases hN : isName x.f0
    · refine Ev.neg (by simp) (Ev.eq (Ev.now _) ?_)
      unfold isMain
      rw [Bool.false_or, Bool.eq_iff_iff]
      simp
    · exact Ev.pos rfl (Ev.now _)
  unfold spec_l8Fun.f funB headB typesB between
  refine Ev.bind hnm ?_
  cases hN : isName x.f0 || isMain x.f0
  · exact Ev.neg (by simp) jt
  refine Ev.pos rfl ?_
  rw [Bool.true_and]
  by_cases c2 : (x.f2.length : Int) > 4
  · rw [decide_eq_false (show ¬ x.f2.length ≤ 4 by omega)]
    exact Ev.pos c2 jt
  rw [decide_eq_true (show x.f2.length ≤ 4 by omega), Bool.true_and]
  refine Ev.neg c2 (tyEv x.f3 jt (fun e => ?_) (fun e => by rw [e]; simp))
  rw [e, Bool.true_and]
  by_cases d1 : x.f4 < 0
  · rw [decide_eq_false (show ¬ 0 ≤ x.f4 by omega)]
    exact Ev.pos d1 (Ev.eq jt (by simp))
  rw [decide_eq_true (show 0 ≤ x.f4 by omega), Bool.true_and]
  refine Ev.neg d1 ?_
  by_cases d2 : x.f4 > 1000
  · rw [decide_eq_false (show ¬ x.f4 ≤ 1000 by omega)]
    exact Ev.pos d2 (Ev.eq jt (by simp))
  rw [decide_eq_true (show x.f4 ≤ 1000 by omega), Bool.and_true]
  refine Ev.neg d2 ?_
  by_cases d5 : (x.f5.length : Int) > 460
  · rw [decide_eq_true d5, decide_eq_false (show ¬ x.f5.length ≤ 460 by omega), Bool.and_false]
    exact jt
  rw [decide_eq_false d5, decide_eq_true (show x.f5.length ≤ 460 by omega), Bool.and_true]
  refine Ev.step (fun k => by rw [spec_l8Fun.j0]) (Ev.neg (by simp) ?_)
  simpa using specArgs_loop x h2 h5 x.f2.length 0 (by omega)
def many (l : List CfI) : Nat := (l.map fun x => x.f5.length).sum
theorem many_cons (x : CfI) (l : List CfI) : many (x :: l) = x.f5.length + many l := rfl
def okF (x : CfI) : Prop := x.f0.size ≤ 4611686018427387904 ∧ x.f2.length ≤ 4611686018427387904 ∧ x.f5.length ≤ 4611686018427387904
theorem specFuns (rs : List RefI) (l : List CfI) (hl : l.length ≤ 4611686018427387904) (hs : ∀ x, x ∈ l → okF x) :
    ∀ (d i m : Nat), l.length = i + d → m ≤ 460 → Ev (fun k => spec_ObjOk.l1 k (m : Int) (i : Int) rs l) ((l.drop i).all funB && decide (m + many (l.drop i) ≤ 460)) := by
  intro d
  induction d with
  | zero =>
    intro i m hi hm
    rw [drop_end (by omega)]
    exact Ev.eq (Ev.step (fun k => by rw [spec_ObjOk.l1]) (Ev.neg (by omega) (Ev.now _))) (by simp [many, hm])
  | succ d ih =>
    intro i m hi hm
    have h : i < l.length := by omega
    have hz := hs l[i] (List.getElem_mem h)
    rw [drop_cons h, List.all_cons, many_cons]
    refine Ev.step (fun k => by rw [spec_ObjOk.l1]) (Ev.pos (by omega) (Ev.pos (by omega) ?_))
    rw [rdCf l i h, wrap_succ h hl]
    refine Ev.bind (specFun l[i] hz.1 hz.2.1 hz.2.2) ?_
    by_cases c5 : l[i].f5.length ≤ 460
    case neg =>
      rw [decide_eq_false c5, Bool.and_false, decide_eq_false (show ¬ m + (l[i].f5.length + many (l.drop (i + 1))) ≤ 460 by omega), Bool.and_false]
      exact Ev.neg (by simp) (Ev.now _)
    rw [decide_eq_true c5, Bool.and_true]
    cases hF : funB l[i]
    · exact Ev.neg (by simp) (Ev.now _)
    refine Ev.pos rfl ?_
    rw [wrap_id (by omega) (by omega)]
    by_cases cm : (m : Int) + (l[i].f5.length : Int) > 460
    · rw [decide_eq_false (show ¬ m + (l[i].f5.length + many (l.drop (i + 1))) ≤ 460 by omega), Bool.and_false]
      exact Ev.pos cm (Ev.now _)
    refine Ev.neg cm ?_
    rw [show (m : Int) + (l[i].f5.length : Int) = ((m + l[i].f5.length : Nat) : Int) by omega, Bool.true_and, ← Nat.add_assoc]
    exact ih (i + 1) (m + l[i].f5.length) (by omega) (by omega)
theorem implFuns (rs : List RefI) (l : List CfI) (hl : l.length ≤ 4611686018427387904) (hs : ∀ x, x ∈ l → okF x) (hr : rs.length ≤ 4611686018427387904) (hrs : ∀ x, x ∈ rs → x.f0.size ≤ 4611686018427387904 ∧ x.f1.size ≤ 4611686018427387904) :
    ∀ (d i m : Nat), l.length = i + d → m + many (l.drop i) ≤ 4611686018427387904 → Ev (fun k => impl_ObjOk.l0 k (m : Int) l (l.length : Int) (i : Int) rs l) ((l.drop i).all funB && (decide (rs.length ≤ 40) && (decide (l.length ≤ 9) && (decide (m + many (l.drop i) ≤ 460) && rs.all refB)))) := by
  intro d
  induction d with
  | zero =>
    intro i m hi hm
    rw [drop_end (by omega)]
    refine Ev.step (fun k => by rw [impl_ObjOk.l0]) (Ev.neg (by omega) ?_)
    by_cases c0 : (rs.length : Int) ≤ 40
    case neg =>
      rw [decide_eq_false (show ¬ rs.length ≤ 40 by omega)]
      exact Ev.neg c0 (Ev.now _)
    rw [decide_eq_true (show rs.length ≤ 40 by omega)]
    refine Ev.pos c0 ?_
    by_cases c1 : (l.length : Int) ≤ 9
    case neg =>
      rw [decide_eq_false (show ¬ l.length ≤ 9 by omega)]
      exact Ev.neg c1 (Ev.now _)
    rw [decide_eq_true (show l.length ≤ 9 by omega)]
    refine Ev.pos c1 ?_
    have hz : many ([] : List CfI) = 0 := rfl
    by_cases c2 : (m : Int) ≤ 460
    case neg =>
      rw [decide_eq_false (show ¬ m + many [] ≤ 460 by omega)]
      exact Ev.neg c2 (Ev.now _)
    rw [decide_eq_true (show m + many [] ≤ 460 by omega)]
    refine Ev.pos c2 (Ev.eq (Ev.bind (implRefs rs hr hrs) (Ev.now _)) ?_)
    have hq : rs.all refB = !(rs.any fun x => !refB x) := List.all_eq_not_any_not
    rw [hq]
    rfl
  | succ d ih =>
    intro i m hi hm
    have h : i < l.length := by omega
    have hz := hs l[i] (List.getElem_mem h)
    rw [drop_cons h, many_cons] at hm
    rw [drop_cons h, List.all_cons, many_cons]
    refine Ev.step (fun k => by rw [impl_ObjOk.l0]) (Ev.pos (by omega) (Ev.pos (by omega) (Ev.pos (by omega) ?_)))
    rw [rdCf l i h, wrap_succ h hl]
    refine Ev.bind (implHead l[i] hz.1 hz.2.1) ?_
    unfold funB
    cases hH : headB l[i]
    · exact Ev.neg (by simp) (Ev.now _)
    refine Ev.pos rfl (Ev.bind (implCode l[i].f5 hz.2.2) ?_)
    rw [List.all_eq_not_any_not, Bool.true_and]
    cases hA : l[i].f5.any fun x => !insB x
    · refine Ev.neg (by simp) ?_
      rw [wrap_id (by omega) (by omega), show (m : Int) + (l[i].f5.length : Int) = ((m + l[i].f5.length : Nat) : Int) by omega, ← Nat.add_assoc]
      exact ih (i + 1) (m + l[i].f5.length) (by omega) (by omega)
    · exact Ev.pos rfl (Ev.now _)
theorem many_le (l : List CfI) (B : Nat) (h : ∀ x, x ∈ l → x.f5.length ≤ B) : many l ≤ l.length * B := by
  induction l with
  | nil => simp [many]
  | cons x l ih =>
    rw [many_cons, List.length_cons, Nat.succ_mul]
    have h1 := h x (List.mem_cons_self ..)
    have h2 := ih (fun y hy => h y (List.mem_cons_of_mem _ hy))
    omega
theorem FnExactObjOk : laws_FnExactObjOk.PureF := by
  intro x hx
  apply Ev.rounds
  unfold laws_FnExactObjOk.f
  obtain ⟨r, hr, hle, hP⟩ := szCodeObj_ev x hx 1048576 (by omega) (by omega)
  refine Ev.bind hr ?_
  by_cases h : r < 0
  · exact Ev.pos h (Ev.now _)
  have px := hP (by omega)
  have fx := fewCodeObj_con x px
  have tx := toCodeObj_ev x px
  have hl0 : (conCodeObj x).f0.length ≤ 1048576 := by show (x.f0.map conCodeRef).length ≤ _; rw [List.length_map]; exact px.1.1
  have hl1 : (conCodeObj x).f1.length ≤ 1048576 := by show (x.f1.map conCodeFun).length ≤ _; rw [List.length_map]; exact px.2.1
  have hr0 : ∀ y, y ∈ (conCodeObj x).f0 → y.f0.size ≤ 4611686018427387904 ∧ y.f1.size ≤ 4611686018427387904 := by
    intro y hy
    obtain ⟨z, hz, rfl⟩ := List.mem_map.mp hy
    have hz := px.1.2 z hz
    have h0 : z.f0.size ≤ 1048576 := hz.1
    have h1 : z.f1.size ≤ 1048576 := hz.2
    exact ⟨by show z.f0.size ≤ _; omega, by show z.f1.size ≤ _; omega⟩
  have hf : ∀ y, y ∈ (conCodeObj x).f1 → okF y ∧ y.f5.length ≤ 1048576 := by
    intro y hy
    obtain ⟨z, hz, rfl⟩ := List.mem_map.mp hy
    have hz := px.2.2 z hz
    have h0 : z.f0.size ≤ 1048576 := hz.1
    have h2 : z.f2.length ≤ 1048576 := hz.2.1
    have h5 : z.f5.length ≤ 1048576 := hz.2.2.1
    have h5' : (z.f5.map conCodeIns).length ≤ 1048576 := by rw [List.length_map]; exact h5
    exact ⟨⟨by show z.f0.size ≤ _; omega, by show z.f2.length ≤ _; omega, by show (z.f5.map conCodeIns).length ≤ _; omega⟩, h5'⟩
  generalize hA : (conCodeObj x).f0 = A at *
  generalize hB : (conCodeObj x).f1 = B at *
  have hm := many_le B 1048576 (fun y hy => (hf y hy).2)
  have hm2 : B.length * 1048576 ≤ 1048576 * 1048576 := Nat.mul_le_mul_right _ hl1
  have himpl : Ev (fun k => impl_ObjOk.f k A B) (B.all funB && (decide (A.length ≤ 40) && (decide (B.length ≤ 9) && (decide (many B ≤ 460) && A.all refB)))) := by
    unfold impl_ObjOk.f
    have := implFuns A B (by omega) (fun y hy => (hf y hy).1) (by omega) hr0 B.length 0 0 (by omega) (by simp; omega)
    simpa using this
  have hspec : Ev (fun k => spec_ObjOk.f k A B) (B.all funB && (decide (A.length ≤ 40) && (decide (B.length ≤ 9) && (decide (many B ≤ 460) && A.all refB)))) := by
    have jt : Ev (fun k => spec_ObjOk.j0 k true A B) false := Ev.step (fun k => by rw [spec_ObjOk.j0]) (Ev.pos rfl (Ev.now _))
    unfold spec_ObjOk.f
    by_cases c0 : (A.length : Int) > 40
    · rw [decide_eq_false (show ¬ A.length ≤ 40 by omega), Bool.false_and, Bool.and_false]
      exact Ev.pos c0 jt
    refine Ev.neg c0 ?_
    rw [decide_eq_true (show A.length ≤ 40 by omega), Bool.true_and]
    by_cases c1 : (B.length : Int) > 9
    · rw [decide_eq_true c1, decide_eq_false (show ¬ B.length ≤ 9 by omega), Bool.false_and, Bool.and_false]
      exact jt
    rw [decide_eq_false c1, decide_eq_true (show B.length ≤ 9 by omega), Bool.true_and]
    refine Ev.step (fun k => by rw [spec_ObjOk.j0]) (Ev.neg (by simp) ?_)
    have h1 := specFuns A B (by omega) (fun y hy => (hf y hy).1) B.length 0 0 (by omega) (by omega)
    have h2 := specRefs A B (by omega) hr0 _ h1 A.length 0 (by omega)
    refine Ev.eq h2 ?_
    rw [List.drop_zero, List.drop_zero, Nat.zero_add]
    cases A.all refB <;> cases B.all funB <;> cases decide (many B ≤ 460) <;> rfl
  subst hA hB
  refine Ev.neg h (Ev.bind tx (Ev.bind hspec (Ev.bind tx (Ev.bind himpl ?_))))
  exact Ev.neg (by simp) (Ev.bind tx (Ev.bind (eqCodeObj_ev _ fx) (Ev.pos rfl (Ev.now _))))

end Go.Proofs.Ytnebeklmfenikaa.Pure
