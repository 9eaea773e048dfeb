/- The program's LexName and the reference's answer the same at every word of at most 2^20 bytes; at longer words the law says nothing. -/
import Derived.Test.YtoffgpomodijoaaPFnExactLexNamex1
import Derived.Test.YtoffgpomodijoaaLib
namespace Go.Proofs.Ytoffgpomodijoaa.Pure
open Go.RowKit Go.Proofs.Ytoffgpomodijoaa.PFnExactLexName Go.Proofs.YtoffgpomodijoaaW.PrintWords Go.Proofs.YtoffgpomodijoaaW.PrintLast Go.Proofs.Ytoffgpomodijoaa.Lib

theorem range_ev (a b c : Int) : impl_inRange.f a b c = some (decide (b ≤ a) && decide (a ≤ c)) := by
  unfold impl_inRange.f
  split
  · rename_i h; simp [h]
  · rename_i h; simp [h]

/-! ### names -/
def low (b : UInt8) : Bool := decide (97 ≤ b.toNat) && decide (b.toNat ≤ 122)
def ownWords : List ByteArray := [(⟨#[117, 115, 101]⟩ : ByteArray), (⟨#[102, 117, 110]⟩ : ByteArray), (⟨#[112, 117, 98]⟩ : ByteArray), (⟨#[109, 97, 105, 110]⟩ : ByteArray), (⟨#[105, 110, 116]⟩ : ByteArray), (⟨#[98, 111, 111, 108]⟩ : ByteArray), (⟨#[114, 111, 119]⟩ : ByteArray), (⟨#[105, 102]⟩ : ByteArray), (⟨#[108, 101, 116]⟩ : ByteArray), (⟨#[116, 114, 117, 101]⟩ : ByteArray), (⟨#[102, 97, 108, 115, 101]⟩ : ByteArray), (⟨#[97, 110, 100]⟩ : ByteArray), (⟨#[111, 114]⟩ : ByteArray), (⟨#[110, 111, 116]⟩ : ByteArray), (⟨#[97, 116]⟩ : ByteArray), (⟨#[108, 101, 110]⟩ : ByteArray), (⟨#[112, 117, 116]⟩ : ByteArray), (⟨#[106, 111, 105, 110]⟩ : ByteArray), (⟨#[112, 114, 105, 110, 116]⟩ : ByteArray)]
/-- A word is a name. -/
def isName (s : ByteArray) : Bool := decide (1 ≤ s.size) && (decide (s.size ≤ 8) && ((from_ s 0).all low && !decide (s ∈ ownWords)))
theorem kept_loop (s : ByteArray) (xs : List ByteArray) (hx : xs.length ≤ 4611686018427387904) : ∀ (d k i : Nat), xs.length = i + d → d < k → spec_l1Kept.l0 k s xs (i : Int) = some (decide (s ∈ xs.drop i)) := by
  intro d
  induction d with
  | zero =>
    intro k i hi hk
    obtain ⟨k, rfl⟩ := less k (by omega)
    simp only [spec_l1Kept.l0]
    rw [if_neg (by omega), drop_end (by omega)]
    rfl
  | succ d ih =>
    intro k i hi hk
    obtain ⟨k, rfl⟩ := less k (by omega)
    have hl : i < xs.length := by omega
    simp only [spec_l1Kept.l0]
    rw [if_pos (by omega), if_pos (by omega), rdOf_get hl, drop_cons hl, wrap_succ hl hx, ih k (i + 1) (by omega) (by omega)]
    by_cases h : xs[i] = s
    · rw [if_pos (by rw [h]), decide_eq_true (List.mem_cons.mpr (.inl h.symm))]
    · rw [if_neg (fun e => h (str_inj e))]
      congr 1
      rw [decide_eq_decide, List.mem_cons]
      exact ⟨.inr, fun e => e.resolve_left (Ne.symm h)⟩
/-- The place of a text in a list, from i on; -1, if it isn't there. -/
def place (s : ByteArray) : List ByteArray → Int → Int
  | [], _ => -1
  | x :: r, i => if s = x then i else place s r (i + 1)
theorem place_mem (s : ByteArray) : ∀ (xs : List ByteArray) (i : Int), 0 ≤ i → (0 ≤ place s xs i ↔ s ∈ xs)
  | [], i, _ => by simp [place]
  | x :: r, i, h => by
    rw [place]
    split
    · rename_i e; simp [e, h]
    · rename_i e; rw [place_mem s r (i + 1) (by omega)]; simp [e]
theorem index_loop (xs : List ByteArray) (s : ByteArray) (hx : xs.length ≤ 4611686018427387904) : ∀ (d k i : Nat), xs.length = i + d → d < k → slices_Index_string_string.l0 k xs s (xs.length : Int) (i : Int) = some (place s (xs.drop i) (i : Int)) := by
  intro d
  induction d with
  | zero =>
    intro k i hi hk
    obtain ⟨k, rfl⟩ := less k (by omega)
    simp only [slices_Index_string_string.l0]
    rw [if_neg (by omega), drop_end (by omega)]
    rfl
  | succ d ih =>
    intro k i hi hk
    obtain ⟨k, rfl⟩ := less k (by omega)
    have hl : i < xs.length := by omega
    simp only [slices_Index_string_string.l0]
    rw [if_pos (by omega), if_pos (by omega), if_pos (by omega), rdOf_get hl, drop_cons hl, wrap_succ hl hx, ih k (i + 1) (by omega) (by omega), place]
    by_cases h : s = xs[i]
    · rw [if_pos h, if_pos (by rw [h])]
    · rw [if_neg h, if_neg (fun e => h (str_inj e))]
      rfl
theorem contains_ev (xs : List ByteArray) (s : ByteArray) (hx : xs.length ≤ 4611686018427387904) {k : Nat} (hk : xs.length < k) : slices_Contains_string_string.f k xs s = some (decide (s ∈ xs)) := by
  unfold slices_Contains_string_string.f slices_Index_string_string.f
  rw [show (0 : Int) = ((0 : Nat) : Int) from rfl, index_loop xs s hx xs.length k 0 (by omega) hk, Option.bind_some]
  have := place_mem s xs 0 (by omega)
  simp only [List.drop_zero, ge_iff_le]
  congr 1
  rw [decide_eq_decide]
  exact this
theorem ownWords_length : ownWords.length = 19 := rfl
theorem own_ev (s : ByteArray) {k : Nat} (hk : 19 < k) : impl_isOwn.f k s = some (decide (s ∈ ownWords)) := by
  have h := contains_ev ownWords s (by rw [ownWords_length]; omega) (k := k) (by rw [ownWords_length]; exact hk)
  unfold impl_isOwn.f
  show (slices_Contains_string_string.f k ownWords s).bind _ = _
  rw [h]
  rfl
theorem kept_ev (s : ByteArray) {k : Nat} (hk : 19 < k) : spec_l1Kept.f k s = some (decide (s ∈ ownWords)) := by
  unfold spec_l1Kept.f
  exact kept_loop s ownWords (by rw [ownWords_length]; omega) 19 k 0 (by rw [ownWords_length]) hk
theorem low_no {b : UInt8} (h : (b.toNat : Int) < 97 ∨ (b.toNat : Int) > 122) : low b = false := by
  simp only [low, Bool.and_eq_false_iff, decide_eq_false_iff_not]
  omega
theorem low_yes {b : UInt8} (h : ¬ (b.toNat : Int) < 97) (h' : ¬ (b.toNat : Int) > 122) : low b = true := by
  simp only [low, Bool.and_eq_true, decide_eq_true_eq]
  omega
theorem specName_loop (s : ByteArray) (hs : s.size ≤ 4611686018427387904) : ∀ (d k i : Nat), s.size = i + d → d < k → spec_LexName.l0 k s (i : Int) = some ((from_ s i).all low) := by
  intro d
  induction d with
  | zero =>
    intro k i hi hk
    obtain ⟨k, rfl⟩ := less k (by omega)
    simp only [spec_LexName.l0]
    rw [if_neg (by omega), from_end (by omega)]
    rfl
  | succ d ih =>
    intro k i hi hk
    obtain ⟨k, rfl⟩ := less k (by omega)
    have hl : i < s.size := by omega
    simp only [spec_LexName.l0]
    rw [if_pos (by omega), if_pos (by omega), bt_get hl, from_cons hl, wrap_succ hl hs, ih k (i + 1) (by omega) (by omega)]
    by_cases h : (s.data[i].toNat : Int) < 97
    · rw [if_pos h, List.all_cons, low_no (.inl h)]; rfl
    · rw [if_neg h]
      by_cases h' : (s.data[i].toNat : Int) > 122
      · rw [if_pos h', List.all_cons, low_no (.inr h')]; rfl
      · rw [if_neg h', List.all_cons, low_yes h h']; rfl
theorem implName_loop (s : ByteArray) (hs : s.size ≤ 4611686018427387904) : ∀ (d k i : Nat), s.size = i + d → d + 20 < k → impl_LexName.l0 k s (s.size : Int) (i : Int) = some ((from_ s i).all low && (decide (1 ≤ s.size) && (decide (s.size ≤ 8) && !decide (s ∈ ownWords)))) := by
  intro d
  induction d with
  | zero =>
    intro k i hi hk
    obtain ⟨k, rfl⟩ := less k (by omega)
    simp only [impl_LexName.l0]
    rw [if_neg (by omega), from_end (by omega), range_ev, Option.bind_some, own_ev s (by omega)]
    have e1 : decide (1 ≤ (s.size : Int)) = decide (1 ≤ s.size) := by rw [decide_eq_decide]; omega
    have e2 : decide ((s.size : Int) ≤ 8) = decide (s.size ≤ 8) := by rw [decide_eq_decide]; omega
    rw [e1, e2]
    cases decide (1 ≤ s.size) <;> cases decide (s.size ≤ 8) <;> cases decide (s ∈ ownWords) <;> rfl
  | succ d ih =>
    intro k i hi hk
    obtain ⟨k, rfl⟩ := less k (by omega)
    have hl : i < s.size := by omega
    simp only [impl_LexName.l0]
    rw [if_pos (by omega), if_pos (by omega), if_pos (by omega), bt_get hl, from_cons hl, wrap_succ hl hs, ih k (i + 1) (by omega) (by omega)]
    by_cases h : (s.data[i].toNat : Int) < 97
    · rw [if_pos h, List.all_cons, low_no (.inl h)]; rfl
    · rw [if_neg h]
      by_cases h' : (s.data[i].toNat : Int) > 122
      · rw [if_pos h', List.all_cons, low_no (.inr h')]; rfl
      · rw [if_neg h', List.all_cons, low_yes h h']; rfl
theorem implName_ev (s : ByteArray) (hs : s.size ≤ 4611686018427387904) {k : Nat} (hk : s.size + 20 < k) : impl_LexName.f k s = some (isName s) := by
  unfold impl_LexName.f
  rw [show (0 : Int) = ((0 : Nat) : Int) from rfl, implName_loop s hs s.size k 0 (by omega) hk]
  unfold isName
  cases decide (1 ≤ s.size) <;> cases decide (s.size ≤ 8) <;> cases decide (s ∈ ownWords) <;> cases (from_ s 0).all low <;> rfl
theorem specName_ev (s : ByteArray) (hs : s.size ≤ 4611686018427387904) {k : Nat} (hk : s.size + 20 < k) : spec_LexName.f k s = some (isName s) := by
  unfold spec_LexName.f isName
  by_cases h1 : (s.size : Int) < 1
  · obtain ⟨k, rfl⟩ := less k (by omega)
    rw [if_pos h1, decide_eq_false (by omega : ¬ 1 ≤ s.size)]
    simp only [spec_LexName.j0]
    rfl
  · rw [if_neg h1, decide_eq_true (by omega : 1 ≤ s.size)]
    by_cases h2 : (s.size : Int) > 8
    · obtain ⟨k, rfl⟩ := less k (by omega)
      rw [if_pos h2, decide_eq_false (by omega : ¬ s.size ≤ 8)]
      simp only [spec_LexName.j0]
      rfl
    · rw [if_neg h2, decide_eq_true (by omega : s.size ≤ 8), kept_ev s (by omega), Option.bind_some]
      obtain ⟨k, rfl⟩ := less k (by omega)
      simp only [spec_LexName.j0]
      rw [show (0 : Int) = ((0 : Nat) : Int) from rfl, specName_loop s hs s.size k 0 (by omega) (by omega)]
      cases decide (s ∈ ownWords) <;> cases (from_ s 0).all low <;> rfl

theorem FnExactLexName : laws_FnExactLexName.Pure := by
  intro s hn
  refine ⟨s.size + 40, ?_⟩
  unfold laws_FnExactLexName.f
  split
  · rfl
  · rw [specName_ev s (by omega) (by omega), implName_ev s (by omega) (by omega)]
    simp

end Go.Proofs.Ytoffgpomodijoaa.Pure
