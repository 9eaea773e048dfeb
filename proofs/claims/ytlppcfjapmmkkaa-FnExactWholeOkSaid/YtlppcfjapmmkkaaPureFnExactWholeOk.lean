/- The program's WholeOk and the reference's answer the same at all files whose names, texts and number hold together at most 2^20, and the program leaves its argument as it was; at more of them the law says nothing. -/
import Derived.Test.YtlppcfjapmmkkaaFFnExactWholeOk
import Derived.Test.YtlppcfjapmmkkaaLib
namespace Go.Proofs.Ytlppcfjapmmkkaa.Pure
open Go.RowKit Go.Proofs.Ytlppcfjapmmkkaa.Q Go.Proofs.YtlppcfjapmmkkaaW.PrintWords Go.Proofs.YtlppcfjapmmkkaaW.PrintLast Go.Proofs.Ytlppcfjapmmkkaa.Lib Go.Proofs.Ytlppcfjapmmkkaa.Open

/-! ### lists of texts -/
def short (s : ByteArray) : Prop := s.size ≤ 1048576
def shorts (l : List ByteArray) : Prop := l.length ≤ 1048576 ∧ ∀ s, s ∈ l → short s
theorem rdOf_nth (xs : List ByteArray) (i : Nat) (h : i < xs.length) : rdOf ByteArray.empty xs (i : Int) = xs[i] := rdOf_get h
theorem szStrings_ev (l : List ByteArray) (hl : fitList strOk l) (acc : Int) (h0 : 0 ≤ acc) (h1 : acc ≤ 1048576) : ∃ r, Ev (fun k => laws_szStringS.f k l acc) r ∧ r ≤ acc ∧ (0 ≤ r → shorts l) := by
  refine sz_whole (L := laws_szStringS.l0) (g := fun _ s acc => some (wrap64 (acc - (s.size : Int)))) (rdx := rdOf ByteArray.empty) (P := short) rdOf_nth ?_ l hl.1 ?_ acc h0 h1
  · intro k xs acc i
    simp only [laws_szStringS.l0, Option.bind_some]
  · intro s hs acc h0 h1
    have := hl.2 s hs
    unfold strOk at this
    rw [wrap_id (by omega) (by omega)]
    exact ⟨_, Ev.now _, by omega, fun h => by unfold short; omega⟩
theorem toStrings_ev (l : List ByteArray) (hl : l.length ≤ 1048576) : Ev (fun k => laws_toStringS.f k l) l := by
  have := map_whole (L := laws_toStringS.l0) (g := fun _ s => some s) (rdx := rdOf ByteArray.empty) (f := id) (⟨#[]⟩ : ByteArray) 17592186044416 rdOf_nth (fun k xs out i => by simp only [laws_toStringS.l0, Option.bind_some]) l hl (by omega) (fun s _ => Ev.now _)
  rw [List.map_id] at this
  exact this
theorem eqStrings_ev (l : List ByteArray) (hl : l.length ≤ 4611686018427387904) : Ev (fun k => laws_eqStringS.f k l l) true := by
  refine eq_whole (L := laws_eqStringS.l0) (g := fun _ a b => if a.toList = b.toList then some true else some false) (rdx := rdOf ByteArray.empty) rdOf_nth ?_ l hl (fun s _ => Ev.const (by rw [if_pos rfl]))
  intro k xs ys i
  simp only [laws_eqStringS.l0]
  split
  · split
    · split
      · split <;> rfl
      · rfl
    · rfl
  · rfl

theorem range_ev (a b c : Int) : impl_inRange.f a b c = some (decide (b ≤ a) && decide (a ≤ c)) := by
  unfold impl_inRange.f
  split
  · rename_i h; simp [h]
  · rename_i h; simp [h]
/-! ### names -/
def low (b : UInt8) : Bool := decide (97 ≤ b.toNat) && decide (b.toNat ≤ 122)
def ownWords : List ByteArray := [(⟨#[117, 115, 101]⟩ : ByteArray), (⟨#[102, 117, 110]⟩ : ByteArray), (⟨#[112, 117, 98]⟩ : ByteArray), (⟨#[109, 97, 105, 110]⟩ : ByteArray), (⟨#[105, 110, 116]⟩ : ByteArray), (⟨#[98, 111, 111, 108]⟩ : ByteArray), (⟨#[114, 111, 119]⟩ : ByteArray), (⟨#[105, 102]⟩ : ByteArray), (⟨#[108, 101, 116]⟩ : ByteArray), (⟨#[116, 114, 117, 101]⟩ : ByteArray), (⟨#[102, 97, 108, 115, 101]⟩ : ByteArray), (⟨#[97, 110, 100]⟩ : ByteArray), (⟨#[111, 114]⟩ : ByteArray), (⟨#[110, 111, 116]⟩ : ByteArray), (⟨#[97, 116]⟩ : ByteArray), (⟨#[108, 101, 110]⟩ : ByteArray), (⟨#[112, 117, 116]⟩ : ByteArray), (⟨#[106, 111, 105, 110]⟩ : ByteArray), (⟨#[112, 114, 105, 110, 116]⟩ : ByteArray)]
/-- A word is a name. -/
def isName (s : ByteArray) : Bool := decide (1 ≤ s.size) && (decide (s.size ≤ 8) && ((from_ s 0).all low && !decide (s ∈ ownWords)))
theorem kept_loop (s : ByteArray) (xs : List ByteArray) (hx : xs.length ≤ 4611686018427387904) : ∀ (d k i : Nat), xs.length = i + d → d < k → spec_l1Kept.l0 k s xs (i : Int) = some (decide (s ∈ xs.drop i)) := by
  intro d
  induction d with
  | zero =>
    intro k i hi hk
    obtain ⟨k, rfl⟩ := less k (by omega)
    simp only [spec_l1Kept.l0]
    rw [if_neg (by omega), drop_end (by omega)]
    rfl
  | succ d ih =>
    intro k i hi hk
    obtain ⟨k, rfl⟩ := less k (by omega)
    have hl : i < xs.length := by omega
    simp only [spec_l1Kept.l0]
    rw [if_pos (by omega), if_pos (by omega), rdOf_get hl, drop_cons hl, wrap_succ hl hx, ih k (i + 1) (by omega) (by omega)]
    by_cases h : xs[i] = s
    · rw [if_pos (by rw [h]), decide_eq_true (List.mem_cons.mpr (.inl h.symm))]
    · rw [if_neg (fun e => h (str_inj e))]
      congr 1
      rw [decide_eq_decide, List.mem_cons]
      exact ⟨.inr, fun e => e.resolve_left (Ne.symm h)⟩
/-- The place of a text in a list, from i on; -1, if it isn't there. -/
def place (s : ByteArray) : List ByteArray → Int → Int
  | [], _ => -1
  | x :: r, i => if s = x then i else place s r (i + 1)
theorem place_mem (s : ByteArray) : ∀ (xs : List ByteArray) (i : Int), 0 ≤ i → (0 ≤ place s xs i ↔ s ∈ xs)
  | [], i, _ => by simp [place]
  | x :: r, i, h => by
    rw [place]
    split
    · rename_i e; simp [e, h]
    · rename_i e; rw [place_mem s r (i + 1) (by omega)]; simp [e]
theorem index_loop (xs : List ByteArray) (s : ByteArray) (hx : xs.length ≤ 4611686018427387904) : ∀ (d k i : Nat), xs.length = i + d → d < k → slices_Index_string_string.l0 k xs s (xs.length : Int) (i : Int) = some (place s (xs.drop i) (i : Int)) := by
  intro d
  induction d with
  | zero =>
    intro k i hi hk
    obtain ⟨k, rfl⟩ := less k (by omega)
    simp only [slices_Index_string_string.l0]
    rw [if_neg (by omega), drop_end (by omega)]
    rfl
  | succ d ih =>
    intro k i hi hk
    obtain ⟨k, rfl⟩ := less k (by omega)
    have hl : i < xs.length := by omega
    simp only [slices_Index_string_string.l0]
    rw [if_pos (by omega), if_pos (by omega), if_pos (by omega), rdOf_get hl, drop_cons hl, wrap_succ hl hx, ih k (i + 1) (by omega) (by omega), place]
    by_cases h : s = xs[i]
    · rw [if_pos h, if_pos (by rw [h])]
    · rw [if_neg h, if_neg (fun e => h (str_inj e))]
      rfl
theorem contains_ev (xs : List ByteArray) (s : ByteArray) (hx : xs.length ≤ 4611686018427387904) {k : Nat} (hk : xs.length < k) : slices_Contains_string_string.f k xs s = some (decide (s ∈ xs)) := by
  unfold slices_Contains_string_string.f slices_Index_string_string.f
  rw [show (0 : Int) = ((0 : Nat) : Int) from rfl, index_loop xs s hx xs.length k 0 (by omega) hk, Option.bind_some]
  have := place_mem s xs 0 (by omega)
  simp only [List.drop_zero, ge_iff_le]
  congr 1
  rw [decide_eq_decide]
  exact this
theorem ownWords_length : ownWords.length = 19 := rfl
theorem own_ev (s : ByteArray) {k : Nat} (hk : 19 < k) : impl_isOwn.f k s = some (decide (s ∈ ownWords)) := by
  have h := contains_ev ownWords s (by rw [ownWords_length]; omega) (k := k) (by rw [ownWords_length]; exact hk)
  unfold impl_isOwn.f
  show (slices_Contains_string_string.f k ownWords s).bind _ = _
  rw [h]
  rfl
theorem kept_ev (s : ByteArray) {k : Nat} (hk : 19 < k) : spec_l1Kept.f k s = some (decide (s ∈ ownWords)) := by
  unfold spec_l1Kept.f
  exact kept_loop s ownWords (by rw [ownWords_length]; omega) 19 k 0 (by rw [ownWords_length]) hk
theorem low_no {b : UInt8} (h : (b.toNat : Int) < 97 ∨ (b.toNat : Int) > 122) : low b = false := by
  simp only [low, Bool.and_eq_false_iff, decide_eq_false_iff_not]
  omega
theorem low_yes {b : UInt8} (h : ¬ (b.toNat : Int) < 97) (h' : ¬ (b.toNat : Int) > 122) : low b = true := by
  simp only [low, Bool.and_eq_true, decide_eq_true_eq]
  omega
theorem specName_loop (s : ByteArray) (hs : s.size ≤ 4611686018427387904) : ∀ (d k i : Nat), s.size = i + d → d < k → spec_LexName.l0 k s (i : Int) = some ((from_ s i).all low) := by
  intro d
  induction d with
  | zero =>
    intro k i hi hk
    obtain ⟨k, rfl⟩ := less k (by omega)
    simp only [spec_LexName.l0]
    rw [if_neg (by omega), from_end (by omega)]
    rfl
  | succ d ih =>
    intro k i hi hk
    obtain ⟨k, rfl⟩ := less k (by omega)
    have hl : i < s.size := by omega
    simp only [spec_LexName.l0]
    rw [if_pos (by omega), if_pos (by omega), bt_get hl, from_cons hl, wrap_succ hl hs, ih k (i + 1) (by omega) (by omega)]
    by_cases h : (s.data[i].toNat : Int) < 97
    · rw [if_pos h, List.all_cons, low_no (.inl h)]; rfl
    · rw [if_neg h]
      by_cases h' : (s.data[i].toNat : Int) > 122
      · rw [if_pos h', List.all_cons, low_no (.inr h')]; rfl
      · rw [if_neg h', List.all_cons, low_yes h h']; rfl
theorem implName_loop (s : ByteArray) (hs : s.size ≤ 4611686018427387904) : ∀ (d k i : Nat), s.size = i + d → d + 20 < k → impl_LexName.l0 k s (s.size : Int) (i : Int) = some ((from_ s i).all low && (decide (1 ≤ s.size) && (decide (s.size ≤ 8) && !decide (s ∈ ownWords)))) := by
  intro d
  induction d with
  | zero =>
    intro k i hi hk
    obtain ⟨k, rfl⟩ := less k (by omega)
    simp only [impl_LexName.l0]
    rw [if_neg (by omega), from_end (by omega), range_ev, Option.bind_some, own_ev s (by omega)]
    have e1 : decide (1 ≤ (s.size : Int)) = decide (1 ≤ s.size) := by rw [decide_eq_decide]; omega
    have e2 : decide ((s.size : Int) ≤ 8) = decide (s.size ≤ 8) := by rw [decide_eq_decide]; omega
    rw [e1, e2]
    cases decide (1 ≤ s.size) <;> cases decide (s.size ≤ 8) <;> cases decide (s ∈ ownWords) <;> rfl
  | succ d ih =>
    intro k i hi hk
    obtain ⟨k, rfl⟩ := less k (by omega)
    have hl : i < s.size := by omega
    simp only [impl_LexName.l0]
    rw [if_pos (by omega), if_pos (by omega), if_pos (by omega), bt_get hl, from_cons hl, wrap_succ hl hs, ih k (i + 1) (by omega) (by omega)]
    by_cases h : (s.data[i].toNat : Int) < 97
    · rw [if_pos h, List.all_cons, low_no (.inl h)]; rfl
    · rw [if_neg h]
      by_cases h' : (s.data[i].toNat : Int) > 122
      · rw [if_pos h', List.all_cons, low_no (.inr h')]; rfl
      · rw [if_neg h', List.all_cons, low_yes h h']; rfl
theorem implName_ev (s : ByteArray) (hs : s.size ≤ 4611686018427387904) {k : Nat} (hk : s.size + 20 < k) : impl_LexName.f k s = some (isName s) := by
  unfold impl_LexName.f
  rw [show (0 : Int) = ((0 : Nat) : Int) from rfl, implName_loop s hs s.size k 0 (by omega) hk]
  unfold isName
  cases decide (1 ≤ s.size) <;> cases decide (s.size ≤ 8) <;> cases decide (s ∈ ownWords) <;> cases (from_ s 0).all low <;> rfl
theorem specName_ev (s : ByteArray) (hs : s.size ≤ 4611686018427387904) {k : Nat} (hk : s.size + 20 < k) : spec_LexName.f k s = some (isName s) := by
  unfold spec_LexName.f isName
  by_cases h1 : (s.size : Int) < 1
  · obtain ⟨k, rfl⟩ := less k (by omega)
    rw [if_pos h1, decide_eq_false (by omega : ¬ 1 ≤ s.size)]
    simp only [spec_LexName.j0]
    rfl
  · rw [if_neg h1, decide_eq_true (by omega : 1 ≤ s.size)]
    by_cases h2 : (s.size : Int) > 8
    · obtain ⟨k, rfl⟩ := less k (by omega)
      rw [if_pos h2, decide_eq_false (by omega : ¬ s.size ≤ 8)]
      simp only [spec_LexName.j0]
      rfl
    · rw [if_neg h2, decide_eq_true (by omega : s.size ≤ 8), kept_ev s (by omega), Option.bind_some]
      obtain ⟨k, rfl⟩ := less k (by omega)
      simp only [spec_LexName.j0]
      rw [show (0 : Int) = ((0 : Nat) : Int) from rfl, specName_loop s hs s.size k 0 (by omega) (by omega)]
      cases decide (s ∈ ownWords) <;> cases (from_ s 0).all low <;> rfl
theorem implName (s : ByteArray) (hs : s.size ≤ 4611686018427387904) : Ev (fun k => impl_LexName.f k s) (isName s) := Ev.from (s.size + 20) (fun _ hk => implName_ev s hs hk)
theorem specName (s : ByteArray) (hs : s.size ≤ 4611686018427387904) : Ev (fun k => spec_LexName.f k s) (isName s) := Ev.from (s.size + 20) (fun _ hk => specName_ev s hs hk)

/-! ### ascending -/
def above : Option ByteArray → ByteArray → Bool
  | none, _ => true
  | some q, x => Op.bytesLess q.toList x.toList
theorem wrap_pred {i : Nat} (h : 0 < i) (hn : i ≤ 4611686018427387904) : wrap64 ((i : Int) - 1) = ((i - 1 : Nat) : Int) := by rw [wrap_id (by omega) (by omega)]; omega

/-! ### files -/
def shortW (x : S75) : Prop := short x.f0 ∧ short x.f1
def conW (x : S75) : S76 := ⟨x.f0, x.f1⟩
theorem rdLW (xs : List S75) (i : Nat) (h : i < xs.length) : rd_T75 xs (i : Int) = xs[i] := by simp [rd_T75, h]
theorem rdIW (xs : List S76) (i : Nat) (h : i < xs.length) : rd_T76 xs (i : Int) = xs[i] := by simp [rd_T76, h]
theorem szSrc_ev (x : S75) (hx : fit75 x) (acc : Int) (h0 : 0 ≤ acc) (h1 : acc ≤ 1048576) : ∃ r, Ev (fun _ => laws_szWholeSrc.f x.f0 x.f1 acc) r ∧ r ≤ acc ∧ (0 ≤ r → shortW x) := by
  obtain ⟨hs, hl⟩ := hx
  unfold strOk at hs hl
  unfold laws_szWholeSrc.f
  rw [wrap_id (by omega) (by omega)]
  by_cases h : acc - (x.f0.size : Int) < 0
  · exact ⟨-1, Ev.pos h (Ev.now _), by omega, fun h => by omega⟩
  · rw [wrap_id (by omega) (by omega)]
    by_cases hn : acc - (x.f0.size : Int) - (x.f1.size : Int) < 0
    · exact ⟨-1, Ev.neg h (Ev.pos hn (Ev.now _)), by omega, fun h => by omega⟩
    · exact ⟨_, Ev.neg h (Ev.neg hn (Ev.now _)), by omega, fun h => ⟨by unfold short; omega, by unfold short; omega⟩⟩
theorem szSrcs_ev (l : List S75) (hl : fitList fit75 l) (acc : Int) (h0 : 0 ≤ acc) (h1 : acc ≤ 1048576) : ∃ r, Ev (fun k => laws_szWholeSrcS.f k l acc) r ∧ r ≤ acc ∧ (0 ≤ r → l.length ≤ 1048576 ∧ ∀ x, x ∈ l → shortW x) :=
  sz_whole (L := laws_szWholeSrcS.l0) (g := fun _ x acc => laws_szWholeSrc.f x.f0 x.f1 acc) (rdx := rd_T75) (P := shortW) rdLW (fun k xs acc i => by simp only [laws_szWholeSrcS.l0]) l hl.1 (fun x hx acc h0 h1 => szSrc_ev x (hl.2 x hx) acc h0 h1) acc h0 h1
theorem toSrcs_ev (l : List S75) (hl : l.length ≤ 1048576) : Ev (fun k => laws_toWholeSrcS.f k l) (l.map conW) := by
  refine map_whole (L := laws_toWholeSrcS.l0) (g := fun _ x => (laws_toWholeSrc.f x.f0 x.f1).bind fun bt => some (⟨bt.1, bt.2⟩ : S76)) (rdx := rd_T75) (f := conW) z76 8796093022208 rdLW ?_ l hl (by omega) ?_
  · intro k xs out i
    simp only [laws_toWholeSrcS.l0]
    cases laws_toWholeSrc.f (rd_T75 xs i).f0 (rd_T75 xs i).f1 <;> rfl
  · intro x hx
    exact Ev.now _
theorem eqSrcs_ev (l : List S76) (hl : l.length ≤ 4611686018427387904) : Ev (fun k => laws_eqWholeSrcS.f k l l) true := by
  refine eq_whole (L := laws_eqWholeSrcS.l0) (g := fun _ x y => laws_eqWholeSrc.f x.f0 x.f1 y.f0 y.f1) (rdx := rd_T76) rdIW (fun k xs ys i => by simp only [laws_eqWholeSrcS.l0]) l hl (fun x hx => ?_)
  unfold laws_eqWholeSrc.f
  exact Ev.pos rfl (Ev.pos rfl (Ev.now _))
/-! ### a tree -/
def treeFrom : List S76 → Option ByteArray → Bool
  | [], _ => true
  | x :: r, p => isName x.f0 && (above p x.f0 && treeFrom r (some x.f0))
def beforeW (l : List S76) (i : Nat) : Option ByteArray := if h : i - 1 < l.length then (if 0 < i then some (l[i - 1].f0) else none) else none
theorem beforeW_pos {l : List S76} {i : Nat} (h0 : 0 < i) (h : i - 1 < l.length) : beforeW l i = some (l[i - 1].f0) := by rw [beforeW, dif_pos h, if_pos h0]
theorem beforeW_zero (l : List S76) : beforeW l 0 = none := by simp [beforeW]
theorem specTree_loop (l : List S76) (hs : l.length ≤ 4611686018427387904) (hn : ∀ x, x ∈ l → x.f0.size ≤ 4611686018427387904) : ∀ (d i : Nat), l.length = i + d → Ev (fun k => spec_WholeOk.l0 k l (i : Int)) (treeFrom (l.drop i) (beforeW l i)) := by
  intro d
  induction d with
  | zero =>
    intro i hi
    refine Ev.eq (Ev.step (f := fun _ => some true) (fun k => by simp only [spec_WholeOk.l0]; rw [if_neg (by omega)]) (Ev.now _)) ?_
    rw [drop_end (by omega)]
    rfl
  | succ d ih =>
    intro i hi
    have hl : i < l.length := by omega
    have hrec := ih (i + 1) (by omega)
    rw [beforeW_pos (l := l) (i := i + 1) (by omega) (by omega)] at hrec
    simp only [Nat.add_sub_cancel] at hrec
    rw [drop_cons hl, treeFrom]
    refine Ev.step (fun k => by simp only [spec_WholeOk.l0]; rw [if_pos (by omega), if_pos (by omega), rdIW l i hl, wrap_succ hl hs]) ?_
    refine Ev.bind (specName l[i].f0 (hn _ (List.getElem_mem hl))) ?_
    by_cases hN : isName l[i].f0 = true
    · refine Ev.pos hN ?_
      rw [hN, Bool.true_and]
      by_cases h0 : 0 < i
      · rw [beforeW_pos h0 (by omega)]
        refine Ev.pos (by omega) ?_
        rw [wrap_pred h0 (by omega), rdIW l (i - 1) (by omega)]
        refine Ev.pos (by omega) (Ev.pos (by omega) ?_)
        by_cases hb : Op.bytesLess (l[i - 1].f0).toList (l[i].f0).toList = true
        · refine Ev.pos hb (Ev.eq hrec ?_)
          simp only [above, hb, Bool.true_and]
        · refine Ev.neg hb (Ev.eq (Ev.now _) ?_)
          simp only [above, Bool.eq_false_iff.mpr hb, Bool.false_and]
      · obtain rfl : i = 0 := by omega
        rw [beforeW_zero]
        exact Ev.neg (by omega) (Ev.eq hrec (by rw [above, Bool.true_and]))
    · refine Ev.neg hN (Ev.eq (Ev.now _) ?_)
      rw [Bool.eq_false_iff.mpr hN, Bool.false_and]
theorem implTree_loop (l : List S76) (hs : l.length ≤ 4611686018427387904) (hn : ∀ x, x ∈ l → x.f0.size ≤ 4611686018427387904) : ∀ (d i : Nat), l.length = i + d → Ev (fun k => impl_WholeOk.l0 k l l (l.length : Int) (i : Int)) (treeFrom (l.drop i) (beforeW l i) && decide (l.length ≤ 8)) := by
  intro d
  induction d with
  | zero =>
    intro i hi
    refine Ev.eq (Ev.step (f := fun _ => some (decide ((l.length : Int) ≤ 8))) (fun k => by simp only [impl_WholeOk.l0]; rw [if_neg (by omega)]) (Ev.now _)) ?_
    rw [drop_end (by omega), treeFrom, Bool.true_and, decide_eq_decide]
    omega
  | succ d ih =>
    intro i hi
    have hl : i < l.length := by omega
    have hrec := ih (i + 1) (by omega)
    rw [beforeW_pos (l := l) (i := i + 1) (by omega) (by omega)] at hrec
    simp only [Nat.add_sub_cancel] at hrec
    rw [drop_cons hl, treeFrom]
    refine Ev.step (fun k => by simp only [impl_WholeOk.l0]; rw [if_pos (by omega), if_pos (by omega), if_pos (by omega), rdIW l i hl, wrap_succ hl hs]) ?_
    refine Ev.bind (implName l[i].f0 (hn _ (List.getElem_mem hl))) ?_
    by_cases hN : isName l[i].f0 = true
    · refine Ev.pos hN ?_
      rw [hN, Bool.true_and]
      by_cases h0 : 0 < i
      · rw [beforeW_pos h0 (by omega)]
        refine Ev.pos (by omega) ?_
        rw [wrap_pred h0 (by omega), rdIW l (i - 1) (by omega)]
        refine Ev.pos (by omega) (Ev.pos (by omega) ?_)
        by_cases hb : Op.bytesLess (l[i - 1].f0).toList (l[i].f0).toList = true
        · refine Ev.pos hb (Ev.eq hrec ?_)
          simp only [above, hb, Bool.true_and]
        · refine Ev.neg hb (Ev.eq (Ev.now _) ?_)
          simp only [above, Bool.eq_false_iff.mpr hb, Bool.false_and]
      · obtain rfl : i = 0 := by omega
        rw [beforeW_zero]
        exact Ev.neg (by omega) (Ev.eq hrec (by rw [above, Bool.true_and]))
    · refine Ev.neg hN (Ev.eq (Ev.now _) ?_)
      rw [Bool.eq_false_iff.mpr hN, Bool.false_and, Bool.false_and]
def treeOk (l : List S76) : Bool := treeFrom l none && decide (l.length ≤ 8)
theorem implTree_ev (l : List S76) (hs : l.length ≤ 4611686018427387904) (hn : ∀ x, x ∈ l → x.f0.size ≤ 4611686018427387904) : Ev (fun k => impl_WholeOk.f k l) (treeOk l) := by
  have := implTree_loop l hs hn l.length 0 (by omega)
  rw [beforeW_zero] at this
  exact this
theorem specTree_ev (l : List S76) (hs : l.length ≤ 4611686018427387904) (hn : ∀ x, x ∈ l → x.f0.size ≤ 4611686018427387904) : Ev (fun k => spec_WholeOk.f k l) (treeOk l) := by
  unfold spec_WholeOk.f treeOk
  by_cases h : (l.length : Int) > 8
  · refine Ev.pos h (Ev.eq (Ev.now _) ?_)
    rw [decide_eq_false (by omega), Bool.and_false]
  · have := specTree_loop l hs hn l.length 0 (by omega)
    rw [beforeW_zero] at this
    refine Ev.neg h (Ev.eq this ?_)
    rw [decide_eq_true (show l.length ≤ 8 by omega), Bool.and_true]
    rfl

theorem FnExactWholeOk : laws_FnExactWholeOk.PureF := by
  intro l hl
  apply Ev.rounds
  unfold laws_FnExactWholeOk.f
  obtain ⟨r, hr, hle, hP⟩ := szSrcs_ev l hl 1048576 (by omega) (by omega)
  refine Ev.bind hr ?_
  by_cases h : r < 0
  · exact Ev.pos h (Ev.now _)
  · obtain ⟨h1, h2⟩ := hP (by omega)
    have hlen : (l.map conW).length ≤ 4611686018427387904 := by rw [List.length_map]; omega
    have hn : ∀ x, x ∈ l.map conW → x.f0.size ≤ 4611686018427387904 := by
      intro x hx
      obtain ⟨y, hy, rfl⟩ := List.mem_map.mp hx
      have : y.f0.size ≤ 1048576 := (h2 y hy).1
      show y.f0.size ≤ _
      omega
    exact Ev.neg h (Ev.bind (toSrcs_ev l h1) (Ev.bind (specTree_ev _ hlen hn) (Ev.bind (toSrcs_ev l h1) (Ev.bind (implTree_ev _ hlen hn) (Ev.neg (by simp) (Ev.bind (toSrcs_ev l h1) (Ev.bind (eqSrcs_ev _ hlen) (Ev.pos rfl (Ev.now _)))))))))

end Go.Proofs.Ytlppcfjapmmkkaa.Pure
