/- The program's FaceOk and the reference's answer the same at all faces whose names, types and lines hold together at most 2^20 letters and parts, and the program leaves its argument as it was; at more of them the law says nothing. -/
import Derived.Test.YtlppcfjapmmkkaaFFnExactFaceOk
import Derived.Test.YtlppcfjapmmkkaaLib
namespace Go.Proofs.Ytlppcfjapmmkkaa.Pure
open Go.RowKit Go.Proofs.Ytlppcfjapmmkkaa.Q Go.Proofs.YtlppcfjapmmkkaaW.PrintWords Go.Proofs.YtlppcfjapmmkkaaW.PrintLast Go.Proofs.Ytlppcfjapmmkkaa.Lib Go.Proofs.Ytlppcfjapmmkkaa.Open

/-! ### lists of texts -/
def short (s : ByteArray) : Prop := s.size ≤ 1048576
def shorts (l : List ByteArray) : Prop := l.length ≤ 1048576 ∧ ∀ s, s ∈ l → short s

/-! ### lists of whole numbers -/
theorem rd_nth (xs : List Int) (i : Nat) (h : i < xs.length) : rd xs (i : Int) = xs[i] := rd_get h
theorem szInts_ev (l : List Int) (hl : fitList rng l) (acc : Int) (h0 : 0 ≤ acc) (h1 : acc ≤ 1048576) : ∃ r, Ev (fun _ => laws_szIntS.f l acc) r ∧ r ≤ acc ∧ (0 ≤ r → l.length ≤ 1048576) := by
  have hs : l.length ≤ 9223372036854775807 := hl.1
  unfold laws_szIntS.f
  rw [wrap_id (by omega) (by omega)]
  exact ExEv.ite (fun h => ExEv.less _ (by omega)) (fun h => ⟨_, Ev.now _, by omega, fun _ => by omega⟩)
theorem toInts_ev (l : List Int) (hl : l.length ≤ 1048576) : Ev (fun k => laws_toIntS.f k l) l := by
  have := map_whole (L := laws_toIntS.l0) (g := fun _ s => some s) (rdx := rd) (f := id) (0 : Int) 35184372088832 rd_nth (fun k xs out i => by simp only [laws_toIntS.l0, Option.bind_some]) l hl (by omega) (fun s _ => Ev.now _)
  rw [List.map_id] at this
  exact this
theorem eqInts_ev (l : List Int) (hl : l.length ≤ 4611686018427387904) : Ev (fun k => laws_eqIntS.f k l l) true := by
  refine eq_whole (L := laws_eqIntS.l0) (g := fun _ a b => if a = b then some true else some false) (rdx := rd) rd_nth ?_ l hl (fun s _ => Ev.const (by rw [if_pos rfl]))
  intro k xs ys i
  simp only [laws_eqIntS.l0]
  split
  · split
    · split
      · split <;> rfl
      · rfl
    · rfl
  · rfl

theorem range_ev (a b c : Int) : impl_inRange.f a b c = some (decide (b ≤ a) && decide (a ≤ c)) := by
  unfold impl_inRange.f
  split
  · rename_i h; simp [h]
  · rename_i h; simp [h]
/-! ### names -/
def low (b : UInt8) : Bool := decide (97 ≤ b.toNat) && decide (b.toNat ≤ 122)
def ownWords : List ByteArray := [(⟨#[117, 115, 101]⟩ : ByteArray), (⟨#[102, 117, 110]⟩ : ByteArray), (⟨#[112, 117, 98]⟩ : ByteArray), (⟨#[109, 97, 105, 110]⟩ : ByteArray), (⟨#[105, 110, 116]⟩ : ByteArray), (⟨#[98, 111, 111, 108]⟩ : ByteArray), (⟨#[114, 111, 119]⟩ : ByteArray), (⟨#[105, 102]⟩ : ByteArray), (⟨#[108, 101, 116]⟩ : ByteArray), (⟨#[116, 114, 117, 101]⟩ : ByteArray), (⟨#[102, 97, 108, 115, 101]⟩ : ByteArray), (⟨#[97, 110, 100]⟩ : ByteArray), (⟨#[111, 114]⟩ : ByteArray), (⟨#[110, 111, 116]⟩ : ByteArray), (⟨#[97, 116]⟩ : ByteArray), (⟨#[108, 101, 110]⟩ : ByteArray), (⟨#[112, 117, 116]⟩ : ByteArray), (⟨#[106, 111, 105, 110]⟩ : ByteArray), (⟨#[112, 114, 105, 110, 116]⟩ : ByteArray)]
/-- A word is a name. -/
def isName (s : ByteArray) : Bool := decide (1 ≤ s.size) && (decide (s.size ≤ 8) && ((from_ s 0).all low && !decide (s ∈ ownWords)))
theorem kept_loop (s : ByteArray) (xs : List ByteArray) (hx : xs.length ≤ 4611686018427387904) : ∀ (d k i : Nat), xs.length = i + d → d < k → spec_l1Kept.l0 k s xs (i : Int) = some (decide (s ∈ xs.drop i)) := by
  intro d
  induction d with
  | zero =>
    intro k i hi hk
    obtain ⟨k, rfl⟩ := less k (by omega)
    simp only [spec_l1Kept.l0]
    rw [if_neg (by omega), drop_end (by omega)]
    rfl
  | succ d ih =>
    intro k i hi hk
    obtain ⟨k, rfl⟩ := less k (by omega)
    have hl : i < xs.length := by omega
    simp only [spec_l1Kept.l0]
    rw [if_pos (by omega), if_pos (by omega), rdOf_get hl, drop_cons hl, wrap_succ hl hx, ih k (i + 1) (by omega) (by omega)]
    by_cases h : xs[i] = s
    · rw [if_pos (by rw [h]), decide_eq_true (List.mem_cons.mpr (.inl h.symm))]
    · rw [if_neg (fun e => h (str_inj e))]
      congr 1
      rw [decide_eq_decide, List.mem_cons]
      exact ⟨.inr, fun e => e.resolve_left (Ne.symm h)⟩
/-- The place of a text in a list, from i on; -1, if it isn't there. -/
def place (s : ByteArray) : List ByteArray → Int → Int
  | [], _ => -1
  | x :: r, i => if s = x then i else place s r (i + 1)
theorem place_mem (s : ByteArray) : ∀ (xs : List ByteArray) (i : Int), 0 ≤ i → (0 ≤ place s xs i ↔ s ∈ xs)
  | [], i, _ => by simp [place]
  | x :: r, i, h => by
    rw [place]
    split
    · rename_i e; simp [e, h]
    · rename_i e; rw [place_mem s r (i + 1) (by omega)]; simp [e]
theorem index_loop (xs : List ByteArray) (s : ByteArray) (hx : xs.length ≤ 4611686018427387904) : ∀ (d k i : Nat), xs.length = i + d → d < k → slices_Index_string_string.l0 k xs s (xs.length : Int) (i : Int) = some (place s (xs.drop i) (i : Int)) := by
  intro d
  induction d with
  | zero =>
    intro k i hi hk
    obtain ⟨k, rfl⟩ := less k (by omega)
    simp only [slices_Index_string_string.l0]
    rw [if_neg (by omega), drop_end (by omega)]
    rfl
  | succ d ih =>
    intro k i hi hk
    obtain ⟨k, rfl⟩ := less k (by omega)
    have hl : i < xs.length := by omega
    simp only [slices_Index_string_string.l0]
    rw [if_pos (by omega), if_pos (by omega), if_pos (by omega), rdOf_get hl, drop_cons hl, wrap_succ hl hx, ih k (i + 1) (by omega) (by omega), place]
    by_cases h : s = xs[i]
    · rw [if_pos h, if_pos (by rw [h])]
    · rw [if_neg h, if_neg (fun e => h (str_inj e))]
      rfl
theorem contains_ev (xs : List ByteArray) (s : ByteArray) (hx : xs.length ≤ 4611686018427387904) {k : Nat} (hk : xs.length < k) : slices_Contains_string_string.f k xs s = some (decide (s ∈ xs)) := by
  unfold slices_Contains_string_string.f slices_Index_string_string.f
  rw [show (0 : Int) = ((0 : Nat) : Int) from rfl, index_loop xs s hx xs.length k 0 (by omega) hk, Option.bind_some]
  have := place_mem s xs 0 (by omega)
  simp only [List.drop_zero, ge_iff_le]
  congr 1
  rw [decide_eq_decide]
  exact this
theorem ownWords_length : ownWords.length = 19 := rfl
theorem own_ev (s : ByteArray) {k : Nat} (hk : 19 < k) : impl_isOwn.f k s = some (decide (s ∈ ownWords)) := by
  have h := contains_ev ownWords s (by rw [ownWords_length]; omega) (k := k) (by rw [ownWords_length]; exact hk)
  unfold impl_isOwn.f
  show (slices_Contains_string_string.f k ownWords s).bind _ = _
  rw [h]
  rfl
theorem kept_ev (s : ByteArray) {k : Nat} (hk : 19 < k) : spec_l1Kept.f k s = some (decide (s ∈ ownWords)) := by
  unfold spec_l1Kept.f
  exact kept_loop s ownWords (by rw [ownWords_length]; omega) 19 k 0 (by rw [ownWords_length]) hk
theorem low_no {b : UInt8} (h : (b.toNat : Int) < 97 ∨ (b.toNat : Int) > 122) : low b = false := by
  simp only [low, Bool.and_eq_false_iff, decide_eq_false_iff_not]
  omega
theorem low_yes {b : UInt8} (h : ¬ (b.toNat : Int) < 97) (h' : ¬ (b.toNat : Int) > 122) : low b = true := by
  simp only [low, Bool.and_eq_true, decide_eq_true_eq]
  omega
theorem specName_loop (s : ByteArray) (hs : s.size ≤ 4611686018427387904) : ∀ (d k i : Nat), s.size = i + d → d < k → spec_LexName.l0 k s (i : Int) = some ((from_ s i).all low) := by
  intro d
  induction d with
  | zero =>
    intro k i hi hk
    obtain ⟨k, rfl⟩ := less k (by omega)
    simp only [spec_LexName.l0]
    rw [if_neg (by omega), from_end (by omega)]
    rfl
  | succ d ih =>
    intro k i hi hk
    obtain ⟨k, rfl⟩ := less k (by omega)
    have hl : i < s.size := by omega
    simp only [spec_LexName.l0]
    rw [if_pos (by omega), if_pos (by omega), bt_get hl, from_cons hl, wrap_succ hl hs, ih k (i + 1) (by omega) (by omega)]
    by_cases h : (s.data[i].toNat : Int) < 97
    · rw [if_pos h, List.all_cons, low_no (.inl h)]; rfl
    · rw [if_neg h]
      by_cases h' : (s.data[i].toNat : Int) > 122
      · rw [if_pos h', List.all_cons, low_no (.inr h')]; rfl
      · rw [if_neg h', List.all_cons, low_yes h h']; rfl
theorem implName_loop (s : ByteArray) (hs : s.size ≤ 4611686018427387904) : ∀ (d k i : Nat), s.size = i + d → d + 20 < k → impl_LexName.l0 k s (s.size : Int) (i : Int) = some ((from_ s i).all low && (decide (1 ≤ s.size) && (decide (s.size ≤ 8) && !decide (s ∈ ownWords)))) := by
  intro d
  induction d with
  | zero =>
    intro k i hi hk
    obtain ⟨k, rfl⟩ := less k (by omega)
    simp only [impl_LexName.l0]
    rw [if_neg (by omega), from_end (by omega), range_ev, Option.bind_some, own_ev s (by omega)]
    have e1 : decide (1 ≤ (s.size : Int)) = decide (1 ≤ s.size) := by rw [decide_eq_decide]; omega
    have e2 : decide ((s.size : Int) ≤ 8) = decide (s.size ≤ 8) := by rw [decide_eq_decide]; omega
    rw [e1, e2]
    cases decide (1 ≤ s.size) <;> cases decide (s.size ≤ 8) <;> cases decide (s ∈ ownWords) <;> rfl
  | succ d ih =>
    intro k i hi hk
    obtain ⟨k, rfl⟩ := less k (by omega)
    have hl : i < s.size := by omega
    simp only [impl_LexName.l0]
    rw [if_pos (by omega), if_pos (by omega), if_pos (by omega), bt_get hl, from_cons hl, wrap_succ hl hs, ih k (i + 1) (by omega) (by omega)]
    by_cases h : (s.data[i].toNat : Int) < 97
    · rw [if_pos h, List.all_cons, low_no (.inl h)]; rfl
    · rw [if_neg h]
      by_cases h' : (s.data[i].toNat : Int) > 122
      · rw [if_pos h', List.all_cons, low_no (.inr h')]; rfl
      · rw [if_neg h', List.all_cons, low_yes h h']; rfl
theorem implName_ev (s : ByteArray) (hs : s.size ≤ 4611686018427387904) {k : Nat} (hk : s.size + 20 < k) : impl_LexName.f k s = some (isName s) := by
  unfold impl_LexName.f
  rw [show (0 : Int) = ((0 : Nat) : Int) from rfl, implName_loop s hs s.size k 0 (by omega) hk]
  unfold isName
  cases decide (1 ≤ s.size) <;> cases decide (s.size ≤ 8) <;> cases decide (s ∈ ownWords) <;> cases (from_ s 0).all low <;> rfl
theorem specName_ev (s : ByteArray) (hs : s.size ≤ 4611686018427387904) {k : Nat} (hk : s.size + 20 < k) : spec_LexName.f k s = some (isName s) := by
  unfold spec_LexName.f isName
  by_cases h1 : (s.size : Int) < 1
  · obtain ⟨k, rfl⟩ := less k (by omega)
    rw [if_pos h1, decide_eq_false (by omega : ¬ 1 ≤ s.size)]
    simp only [spec_LexName.j0]
    rfl
  · rw [if_neg h1, decide_eq_true (by omega : 1 ≤ s.size)]
    by_cases h2 : (s.size : Int) > 8
    · obtain ⟨k, rfl⟩ := less k (by omega)
      rw [if_pos h2, decide_eq_false (by omega : ¬ s.size ≤ 8)]
      simp only [spec_LexName.j0]
      rfl
    · rw [if_neg h2, decide_eq_true (by omega : s.size ≤ 8), kept_ev s (by omega), Option.bind_some]
      obtain ⟨k, rfl⟩ := less k (by omega)
      simp only [spec_LexName.j0]
      rw [show (0 : Int) = ((0 : Nat) : Int) from rfl, specName_loop s hs s.size k 0 (by omega) (by omega)]
      cases decide (s ∈ ownWords) <;> cases (from_ s 0).all low <;> rfl
theorem implName (s : ByteArray) (hs : s.size ≤ 4611686018427387904) : Ev (fun k => impl_LexName.f k s) (isName s) := Ev.from (s.size + 20) (fun _ hk => implName_ev s hs hk)
theorem specName (s : ByteArray) (hs : s.size ≤ 4611686018427387904) : Ev (fun k => spec_LexName.f k s) (isName s) := Ev.from (s.size + 20) (fun _ hk => specName_ev s hs hk)

/-! ### ascending -/
def above : Option ByteArray → ByteArray → Bool
  | none, _ => true
  | some q, x => Op.bytesLess q.toList x.toList
theorem wrap_pred {i : Nat} (h : 0 < i) (hn : i ≤ 4611686018427387904) : wrap64 ((i : Int) - 1) = ((i - 1 : Nat) : Int) := by rw [wrap_id (by omega) (by omega)]; omega

/-! ### FaceSig -/
def shortFaceSig (x : S84) : Prop := short x.f0 ∧ x.f1.length ≤ 1048576
def conFaceSig (x : S84) : S86 := ⟨x.f0, x.f1, x.f2⟩
theorem rdLFaceSig (xs : List S84) (i : Nat) (h : i < xs.length) : rd_T84 xs (i : Int) = xs[i] := by simp [rd_T84, h]
theorem rdIFaceSig (xs : List S86) (i : Nat) (h : i < xs.length) : rd_T86 xs (i : Int) = xs[i] := by simp [rd_T86, h]
theorem szFaceSig_ev (x : S84) (hx : fit84 x) (acc : Int) (h0 : 0 ≤ acc) (h1 : acc ≤ 1048576) : ∃ r, Ev (fun _ => laws_szFaceSig.f x.f0 x.f1 x.f2 acc) r ∧ r ≤ acc ∧ (0 ≤ r → shortFaceSig x) := by
  unfold laws_szFaceSig.f
  have hs0 : x.f0.size ≤ 9223372036854775807 := hx.1
  rw [wrap_id (by omega) (by omega)]
  refine ExEv.ite (fun h => ExEv.less _ (by omega)) (fun h0 => ?_)
  refine ExEv.bind (szInts_ev x.f1 (hx.2.1) _ (by omega) (by omega)) (fun t1 ⟨hl1, hP1⟩ => ?_)
  refine ExEv.ite (fun h => ExEv.less _ (by omega)) (fun h1 => ?_)
  exact ⟨_, Ev.now _, by omega, fun _ => ⟨(by unfold short; omega), (hP1 (by omega))⟩⟩
theorem szFaceSigS_ev (l : List S84) (hl : fitList fit84 l) (acc : Int) (h0 : 0 ≤ acc) (h1 : acc ≤ 1048576) : ∃ r, Ev (fun k => laws_szFaceSigS.f k l acc) r ∧ r ≤ acc ∧ (0 ≤ r → l.length ≤ 1048576 ∧ ∀ x, x ∈ l → shortFaceSig x) := by
  exact sz_whole (L := laws_szFaceSigS.l0) (g := fun _ x acc => laws_szFaceSig.f x.f0 x.f1 x.f2 acc) (rdx := rd_T84) (P := shortFaceSig) rdLFaceSig (fun k xs acc i => by simp only [laws_szFaceSigS.l0]) l hl.1 (fun x hx acc h0 h1 => szFaceSig_ev x (hl.2 x hx) acc h0 h1) acc h0 h1
theorem toFaceSig_ev (x : S84) (hx : shortFaceSig x) : Ev (fun k => laws_toFaceSig.f k x.f0 x.f1 x.f2) ((conFaceSig x).f0, (conFaceSig x).f1, (conFaceSig x).f2) := by
  unfold laws_toFaceSig.f
  exact Ev.bind (toInts_ev x.f1 hx.2) (Ev.now _)
theorem toFaceSigS_ev (l : List S84) (hl : l.length ≤ 1048576) (hs : ∀ x, x ∈ l → shortFaceSig x) : Ev (fun k => laws_toFaceSigS.f k l) (l.map conFaceSig) := by
  refine map_whole (L := laws_toFaceSigS.l0) (g := fun k x => (laws_toFaceSig.f k x.f0 x.f1 x.f2).bind fun bt => some (⟨bt.1, bt.2.1, bt.2.2⟩ : S86)) (rdx := rd_T84) (f := conFaceSig) z86 5864062014805 rdLFaceSig ?_ l hl (by omega) ?_
  · intro k xs out i
    simp only [laws_toFaceSigS.l0]
    cases laws_toFaceSig.f k (rd_T84 xs i).f0 (rd_T84 xs i).f1 (rd_T84 xs i).f2 <;> rfl
  · intro x hx
    exact Ev.bind (toFaceSig_ev x (hs x hx)) (Ev.now _)
def fewFaceSig (x : S86) : Prop := x.f1.length ≤ 4611686018427387904
theorem fewFaceSig_con (x : S84) (hx : shortFaceSig x) : fewFaceSig (conFaceSig x) := (by have := hx.2; show x.f1.length ≤ _; omega)
theorem eqFaceSig_ev (x : S86) (hx : fewFaceSig x) : Ev (fun k => laws_eqFaceSig.f k x.f0 x.f1 x.f2 x.f0 x.f1 x.f2) true := by
  unfold laws_eqFaceSig.f
  refine Ev.pos rfl ?_
  refine Ev.bind (eqInts_ev x.f1 hx) (Ev.pos rfl ?_)
  refine Ev.pos rfl ?_
  exact Ev.now _
theorem eqFaceSigS_ev (l : List S86) (hl : l.length ≤ 4611686018427387904) (hs : ∀ x, x ∈ l → fewFaceSig x) : Ev (fun k => laws_eqFaceSigS.f k l l) true :=
  eq_whole (L := laws_eqFaceSigS.l0) (g := fun k x y => laws_eqFaceSig.f k x.f0 x.f1 x.f2 y.f0 y.f1 y.f2) (rdx := rd_T86) rdIFaceSig (fun k xs ys i => by simp only [laws_eqFaceSigS.l0]) l hl (fun x hx => eqFaceSig_ev x (hs x hx))

/-! ### faces -/
def isTypeB (t : Int) : Bool := decide (1 ≤ t) && decide (t ≤ 3)
theorem implType (t : Int) : impl_isType.f t = some (isTypeB t) := by
  unfold impl_isType.f
  rw [range_ev]
  rfl
theorem specType (t : Int) : ∃ s : ByteArray, spec_TreeType.f t = some s ∧ (s.toList = [] ↔ isTypeB t = false) := by
  unfold spec_TreeType.f isTypeB
  by_cases h1 : t < 1
  · rw [if_pos h1]
    exact ⟨_, rfl, by rw [toList_mk]; simp; omega⟩
  · rw [if_neg h1]
    by_cases h2 : t > 3
    · rw [if_pos h2]
      exact ⟨_, rfl, by rw [toList_mk]; simp; omega⟩
    · rw [if_neg h2, Option.bind_some, wrap_id (by omega) (by omega), if_pos (by omega), if_pos (by simp; omega)]
      refine ⟨_, rfl, ?_⟩
      rcases (by omega : t = 1 ∨ t = 2 ∨ t = 3) with rfl | rfl | rfl <;> simp [rdOf, toList_mk]
def typesB (l : List Int) : Bool := decide (l.length ≤ 4) && l.all isTypeB
theorem implTypes (l : List Int) (hl : l.length ≤ 4611686018427387904) : Ev (fun k => impl_areTypes.f k l) (typesB l) := by
  unfold impl_areTypes.f typesB
  by_cases h : (l.length : Int) ≤ 4
  · refine Ev.pos h ?_
    have h1 : Ev (fun k => slices_IndexFunc_int_int__impl_areTypes_1.f k l) (fidx (fun t => !isTypeB t) l 0) :=
      fidx_whole (L := slices_IndexFunc_int_int__impl_areTypes_1.l0) (g := fun _ t => impl_areTypes_1.f t) (rdx := rd) rd_nth (fun k xs n i => by simp only [slices_IndexFunc_int_int__impl_areTypes_1.l0]) l hl (fun t _ => Ev.const (by unfold impl_areTypes_1.f; rw [implType]; rfl))
    have h2 : Ev (fun k => slices_ContainsFunc_int_int__impl_areTypes_1.f k l) (l.any fun t => !isTypeB t) := any_whole h1
    refine Ev.eq (Ev.bind h2 (Ev.now _)) ?_
    rw [decide_eq_true (show l.length ≤ 4 by omega), Bool.true_and, List.all_eq_not_any_not]
  · refine Ev.neg h (Ev.eq (Ev.now _) ?_)
    rw [decide_eq_false (show ¬ l.length ≤ 4 by omega), Bool.false_and]
def sigB (x : S86) : Bool := isName x.f0 && (typesB x.f1 && isTypeB x.f2)
theorem specSig_loop (l : List Int) (hl : l.length ≤ 4611686018427387904) (a : ByteArray) (t : Int) : ∀ (d i : Nat), l.length = i + d → Ev (fun k => spec_l3Sig.l0 k (i : Int) a l t) ((l.drop i).all isTypeB) := by
  intro d
  induction d with
  | zero =>
    intro i hi
    rw [drop_end (by omega)]
    exact Ev.step (f := fun _ => some true) (fun k => by simp only [spec_l3Sig.l0]; rw [if_neg (by omega)]) (Ev.now _)
  | succ d ih =>
    intro i hi
    have h : i < l.length := by omega
    rw [drop_cons h, List.all_cons]
    refine Ev.step (fun k => by simp only [spec_l3Sig.l0]; rw [if_pos (by omega), if_pos (by omega), rd_get h, wrap_succ h hl]) ?_
    obtain ⟨s, hs, he⟩ := specType l[i]
    refine Ev.bind (Ev.const hs) ?_
    by_cases e : s.toList = []
    · refine Ev.pos e (Ev.eq (Ev.now _) ?_)
      rw [he.mp e, Bool.false_and]
    · refine Ev.neg e (Ev.eq (ih (i + 1) (by omega)) ?_)
      have : isTypeB l[i] = true := by
        cases hb : isTypeB l[i] with
        | true => rfl
        | false => exact absurd (he.mpr hb) e
      rw [this, Bool.true_and]
theorem specSig (x : S86) (hn : x.f0.size ≤ 4611686018427387904) (hl : x.f1.length ≤ 4611686018427387904) : Ev (fun k => spec_l3Sig.f k x.f0 x.f1 x.f2) (sigB x) := by
  have jt : Ev (fun k => spec_l3Sig.j0 k true x.f0 x.f1 x.f2) false := Ev.step (f := fun _ => some false) (fun k => by simp only [spec_l3Sig.j0]; rw [if_pos trivial]) (Ev.now _)
  unfold spec_l3Sig.f sigB typesB
  refine Ev.bind (specName x.f0 hn) ?_
  by_cases hN : isName x.f0 = true
  · refine Ev.pos hN ?_
    rw [hN, Bool.true_and]
    by_cases h4 : (x.f1.length : Int) > 4
    · refine Ev.pos h4 (Ev.eq jt ?_)
      rw [decide_eq_false (show ¬ x.f1.length ≤ 4 by omega), Bool.false_and, Bool.false_and]
    · refine Ev.neg h4 ?_
      rw [decide_eq_true (show x.f1.length ≤ 4 by omega), Bool.true_and]
      obtain ⟨s, hs, he⟩ := specType x.f2
      refine Ev.bind (Ev.const hs) ?_
      by_cases e : s.toList = []
      · rw [show (s.toList == ([] : List UInt8)) = true from beq_iff_eq.mpr e, he.mp e, Bool.and_false]
        exact jt
      · have : isTypeB x.f2 = true := by
          cases hb : isTypeB x.f2 with
          | true => rfl
          | false => exact absurd (he.mpr hb) e
        rw [show (s.toList == ([] : List UInt8)) = false from beq_eq_false_iff_ne.mpr e, this, Bool.and_true]
        exact Ev.step (fun k => by simp only [spec_l3Sig.j0]; rw [if_neg (by simp)]; rfl) (specSig_loop x.f1 hl x.f0 x.f2 x.f1.length 0 (by omega))
  · refine Ev.neg hN (Ev.eq jt ?_)
    rw [Bool.eq_false_iff.mpr hN, Bool.false_and]
def faceFrom : List S86 → Option ByteArray → Bool
  | [], _ => true
  | x :: r, p => sigB x && (above p x.f0 && faceFrom r (some x.f0))
def beforeF (l : List S86) (i : Nat) : Option ByteArray := if h : i - 1 < l.length then (if 0 < i then some (l[i - 1].f0) else none) else none
theorem beforeF_pos {l : List S86} {i : Nat} (h0 : 0 < i) (h : i - 1 < l.length) : beforeF l i = some (l[i - 1].f0) := by rw [beforeF, dif_pos h, if_pos h0]
theorem beforeF_zero (l : List S86) : beforeF l 0 = none := by simp [beforeF]
def sized (x : S86) : Prop := x.f0.size ≤ 4611686018427387904 ∧ x.f1.length ≤ 4611686018427387904
theorem specFace_loop (l : List S86) (hs : l.length ≤ 4611686018427387904) (hn : ∀ x, x ∈ l → sized x) : ∀ (d i : Nat), l.length = i + d → Ev (fun k => spec_FaceOk.l0 k l (i : Int)) (faceFrom (l.drop i) (beforeF l i)) := by
  intro d
  induction d with
  | zero =>
    intro i hi
    refine Ev.eq (Ev.step (f := fun _ => some true) (fun k => by simp only [spec_FaceOk.l0]; rw [if_neg (by omega)]) (Ev.now _)) ?_
    rw [drop_end (by omega)]
    rfl
  | succ d ih =>
    intro i hi
    have hl : i < l.length := by omega
    have hrec := ih (i + 1) (by omega)
    rw [beforeF_pos (l := l) (i := i + 1) (by omega) (by omega)] at hrec
    simp only [Nat.add_sub_cancel] at hrec
    rw [drop_cons hl, faceFrom]
    refine Ev.step (fun k => by simp only [spec_FaceOk.l0]; rw [if_pos (by omega), if_pos (by omega), rdIFaceSig l i hl, wrap_succ hl hs]) ?_
    refine Ev.bind (specSig l[i] (hn _ (List.getElem_mem hl)).1 (hn _ (List.getElem_mem hl)).2) ?_
    by_cases hN : sigB l[i] = true
    · refine Ev.pos hN ?_
      rw [hN, Bool.true_and]
      by_cases h0 : 0 < i
      · rw [beforeF_pos h0 (by omega)]
        refine Ev.pos (by omega) ?_
        rw [wrap_pred h0 (by omega), rdIFaceSig l (i - 1) (by omega)]
        refine Ev.pos (by omega) (Ev.pos (by omega) ?_)
        by_cases hb : Op.bytesLess (l[i - 1].f0).toList (l[i].f0).toList = true
        · refine Ev.pos hb (Ev.eq hrec ?_)
          simp only [above, hb, Bool.true_and]
        · refine Ev.neg hb (Ev.eq (Ev.now _) ?_)
          simp only [above, Bool.eq_false_iff.mpr hb, Bool.false_and]
      · obtain rfl : i = 0 := by omega
        rw [beforeF_zero]
        exact Ev.neg (by omega) (Ev.eq hrec (by rw [above, Bool.true_and]))
    · refine Ev.neg hN (Ev.eq (Ev.now _) ?_)
      rw [Bool.eq_false_iff.mpr hN, Bool.false_and]
theorem implFace_loop (l : List S86) (hs : l.length ≤ 4611686018427387904) (hn : ∀ x, x ∈ l → sized x) : ∀ (d i : Nat), l.length = i + d → Ev (fun k => impl_FaceOk.l0 k l l (l.length : Int) (i : Int)) (faceFrom (l.drop i) (beforeF l i) && decide (l.length ≤ 8)) := by
  intro d
  induction d with
  | zero =>
    intro i hi
    refine Ev.eq (Ev.step (f := fun _ => some (decide ((l.length : Int) ≤ 8))) (fun k => by simp only [impl_FaceOk.l0]; rw [if_neg (by omega)]) (Ev.now _)) ?_
    rw [drop_end (by omega), faceFrom, Bool.true_and, decide_eq_decide]
    omega
  | succ d ih =>
    intro i hi
    have hl : i < l.length := by omega
    have hrec := ih (i + 1) (by omega)
    rw [beforeF_pos (l := l) (i := i + 1) (by omega) (by omega)] at hrec
    simp only [Nat.add_sub_cancel] at hrec
    obtain ⟨hz0, hz1⟩ := hn _ (List.getElem_mem hl)
    rw [drop_cons hl, faceFrom]
    unfold sigB
    refine Ev.step (fun k => by simp only [impl_FaceOk.l0]; rw [if_pos (by omega), if_pos (by omega), if_pos (by omega), rdIFaceSig l i hl, wrap_succ hl hs]) ?_
    have tail : Ev (fun k => (impl_areTypes.f k l[i].f1).bind fun t => if t = true then ((impl_isType.f l[i].f2).bind fun t => if t = true then impl_FaceOk.l0 k l l (l.length : Int) ((i + 1 : Nat) : Int) else some false) else some false) (typesB l[i].f1 && (isTypeB l[i].f2 && (faceFrom (l.drop (i + 1)) (some l[i].f0) && decide (l.length ≤ 8)))) := by
      refine Ev.bind (implTypes l[i].f1 hz1) ?_
      by_cases h1 : typesB l[i].f1 = true
      · refine Ev.pos h1 (Ev.bind (Ev.const (implType _)) ?_)
        rw [h1, Bool.true_and]
        by_cases h2 : isTypeB l[i].f2 = true
        · refine Ev.pos h2 (Ev.eq hrec ?_)
          rw [h2, Bool.true_and]
        · refine Ev.neg h2 (Ev.eq (Ev.now _) ?_)
          rw [Bool.eq_false_iff.mpr h2, Bool.false_and]
      · refine Ev.neg h1 (Ev.eq (Ev.now _) ?_)
        rw [Bool.eq_false_iff.mpr h1, Bool.false_and]
    refine Ev.bind (implName l[i].f0 hz0) ?_
    by_cases hN : isName l[i].f0 = true
    · refine Ev.pos hN ?_
      rw [hN, Bool.true_and]
      by_cases h0 : 0 < i
      · rw [beforeF_pos h0 (by omega)]
        refine Ev.pos (by omega) ?_
        rw [wrap_pred h0 (by omega), rdIFaceSig l (i - 1) (by omega)]
        refine Ev.pos (by omega) (Ev.pos (by omega) ?_)
        by_cases hb : Op.bytesLess (l[i - 1].f0).toList (l[i].f0).toList = true
        · refine Ev.pos hb (Ev.eq tail ?_)
          simp only [above, hb, Bool.true_and, Bool.and_assoc]
        · refine Ev.neg hb (Ev.eq (Ev.now _) ?_)
          simp only [above, Bool.eq_false_iff.mpr hb, Bool.false_and, Bool.and_false]
      · obtain rfl : i = 0 := by omega
        rw [beforeF_zero]
        exact Ev.neg (by omega) (Ev.eq tail (by simp only [above, Bool.true_and, Bool.and_assoc]))
    · refine Ev.neg hN (Ev.eq (Ev.now _) ?_)
      simp only [Bool.eq_false_iff.mpr hN, Bool.false_and]
def faceOk (l : List S86) : Bool := faceFrom l none && decide (l.length ≤ 8)
theorem implFace_ev (l : List S86) (hs : l.length ≤ 4611686018427387904) (hn : ∀ x, x ∈ l → sized x) : Ev (fun k => impl_FaceOk.f k l) (faceOk l) := by
  have := implFace_loop l hs hn l.length 0 (by omega)
  rw [beforeF_zero] at this
  exact this
theorem specFace_ev (l : List S86) (hs : l.length ≤ 4611686018427387904) (hn : ∀ x, x ∈ l → sized x) : Ev (fun k => spec_FaceOk.f k l) (faceOk l) := by
  unfold spec_FaceOk.f faceOk
  by_cases h : (l.length : Int) > 8
  · refine Ev.pos h (Ev.eq (Ev.now _) ?_)
    rw [decide_eq_false (by omega), Bool.and_false]
  · have := specFace_loop l hs hn l.length 0 (by omega)
    rw [beforeF_zero] at this
    refine Ev.neg h (Ev.eq this ?_)
    rw [decide_eq_true (show l.length ≤ 8 by omega), Bool.and_true]
    rfl

theorem FnExactFaceOk : laws_FnExactFaceOk.PureF := by
  intro l hl
  apply Ev.rounds
  unfold laws_FnExactFaceOk.f
  obtain ⟨r, hr, hle, hP⟩ := szFaceSigS_ev l hl 1048576 (by omega) (by omega)
  refine Ev.bind hr ?_
  by_cases h : r < 0
  · exact Ev.pos h (Ev.now _)
  · obtain ⟨h1, h2⟩ := hP (by omega)
    have hlen : (l.map conFaceSig).length ≤ 4611686018427387904 := by rw [List.length_map]; omega
    have hn : ∀ x, x ∈ l.map conFaceSig → sized x := by
      intro x hx
      obtain ⟨y, hy, rfl⟩ := List.mem_map.mp hx
      obtain ⟨h3, h4⟩ := h2 y hy
      unfold short at h3
      exact ⟨by show y.f0.size ≤ _; omega, by show y.f1.length ≤ _; omega⟩
    have hf : ∀ x, x ∈ l.map conFaceSig → fewFaceSig x := fun x hx => (hn x hx).2
    exact Ev.neg h (Ev.bind (toFaceSigS_ev l h1 h2) (Ev.bind (specFace_ev _ hlen hn) (Ev.bind (toFaceSigS_ev l h1 h2) (Ev.bind (implFace_ev _ hlen hn) (Ev.neg (by simp) (Ev.bind (toFaceSigS_ev l h1 h2) (Ev.bind (eqFaceSigS_ev _ hlen hf) (Ev.pos rfl (Ev.now _)))))))))

end Go.Proofs.Ytlppcfjapmmkkaa.Pure
