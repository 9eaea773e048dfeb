/- The program's LexDot and the reference's answer the same at every word of at most 2^20 bytes; at longer words the law says nothing. -/
import Derived.Test.YtlppcfjapmmkkaaQLexDotx2
import Derived.Test.YtlppcfjapmmkkaaOpen
import Derived.Test.YtlppcfjapmmkkaaLib
namespace Go.Proofs.Ytlppcfjapmmkkaa.Pure
open Go.RowKit Go.Proofs.Ytlppcfjapmmkkaa.Q Go.Proofs.YtlppcfjapmmkkaaW.PrintWords Go.Proofs.YtlppcfjapmmkkaaW.PrintLast Go.Proofs.Ytlppcfjapmmkkaa.Lib Go.Proofs.Ytlppcfjapmmkkaa.Open

theorem range_ev (a b c : Int) : impl_inRange.f a b c = some (decide (b ≤ a) && decide (a ≤ c)) := by
  unfold impl_inRange.f
  split
  · rename_i h; simp [h]
  · rename_i h; simp [h]
/-! ### names -/
def low (b : UInt8) : Bool := decide (97 ≤ b.toNat) && decide (b.toNat ≤ 122)
def ownWords : List ByteArray := [(⟨#[117, 115, 101]⟩ : ByteArray), (⟨#[102, 117, 110]⟩ : ByteArray), (⟨#[112, 117, 98]⟩ : ByteArray), (⟨#[109, 97, 105, 110]⟩ : ByteArray), (⟨#[105, 110, 116]⟩ : ByteArray), (⟨#[98, 111, 111, 108]⟩ : ByteArray), (⟨#[114, 111, 119]⟩ : ByteArray), (⟨#[105, 102]⟩ : ByteArray), (⟨#[108, 101, 116]⟩ : ByteArray), (⟨#[116, 114, 117, 101]⟩ : ByteArray), (⟨#[102, 97, 108, 115, 101]⟩ : ByteArray), (⟨#[97, 110, 100]⟩ : ByteArray), (⟨#[111, 114]⟩ : ByteArray), (⟨#[110, 111, 116]⟩ : ByteArray), (⟨#[97, 116]⟩ : ByteArray), (⟨#[108, 101, 110]⟩ : ByteArray), (⟨#[112, 117, 116]⟩ : ByteArray), (⟨#[106, 111, 105, 110]⟩ : ByteArray), (⟨#[112, 114, 105, 110, 116]⟩ : ByteArray)]
/-- A word is a name. -/
def isName (s : ByteArray) : Bool := decide (1 ≤ s.size) && (decide (s.size ≤ 8) && ((from_ s 0).all low && !decide (s ∈ ownWords)))
theorem kept_loop (s : ByteArray) (xs : List ByteArray) (hx : xs.length ≤ 4611686018427387904) : ∀ (d k i : Nat), xs.length = i + d → d < k → spec_l1Kept.l0 k s xs (i : Int) = some (decide (s ∈ xs.drop i)) := by
  intro d
  induction d with
  | zero =>
    intro k i hi hk
    obtain ⟨k, rfl⟩ := less k (by omega)
    simp only [spec_l1Kept.l0]
    rw [if_neg (by omega), drop_end (by omega)]
    rfl
  | succ d ih =>
    intro k i hi hk
    obtain ⟨k, rfl⟩ := less k (by omega)
    have hl : i < xs.length := by omega
    simp only [spec_l1Kept.l0]
    rw [if_pos (by omega), if_pos (by omega), rdOf_get hl, drop_cons hl, wrap_succ hl hx, ih k (i + 1) (by omega) (by omega)]
    by_cases h : xs[i] = s
    · rw [if_pos (by rw [h]), decide_eq_true (List.mem_cons.mpr (.inl h.symm))]
    · rw [if_neg (fun e => h (str_inj e))]
      congr 1
      rw [decide_eq_decide, List.mem_cons]
      exact ⟨.inr, fun e => e.resolve_left (Ne.symm h)⟩
/-- The place of a text in a list, from i on; -1, if it isn't there. -/
def place (s : ByteArray) : List ByteArray → Int → Int
  | [], _ => -1
  | x :: r, i => if s = x then i else place s r (i + 1)
theorem place_mem (s : ByteArray) : ∀ (xs : List ByteArray) (i : Int), 0 ≤ i → (0 ≤ place s xs i ↔ s ∈ xs)
  | [], i, _ => by simp [place]
  | x :: r, i, h => by
    rw [place]
    split
    · rename_i e; simp [e, h]
    · rename_i e; rw [place_mem s r (i + 1) (by omega)]; simp [e]
theorem index_loop (xs : List ByteArray) (s : ByteArray) (hx : xs.length ≤ 4611686018427387904) : ∀ (d k i : Nat), xs.length = i + d → d < k → slices_Index_string_string.l0 k xs s (xs.length : Int) (i : Int) = some (place s (xs.drop i) (i : Int)) := by
  intro d
  induction d with
  | zero =>
    intro k i hi hk
    obtain ⟨k, rfl⟩ := less k (by omega)
    simp only [slices_Index_string_string.l0]
    rw [if_neg (by omega), drop_end (by omega)]
    rfl
  | succ d ih =>
    intro k i hi hk
    obtain ⟨k, rfl⟩ := less k (by omega)
    have hl : i < xs.length := by omega
    simp only [slices_Index_string_string.l0]
    rw [if_pos (by omega), if_pos (by omega), if_pos (by omega), rdOf_get hl, drop_cons hl, wrap_succ hl hx, ih k (i + 1) (by omega) (by omega), place]
    by_cases h : s = xs[i]
    · rw [if_pos h, if_pos (by rw [h])]
    · rw [if_neg h, if_neg (fun e => h (str_inj e))]
      rfl
theorem contains_ev (xs : List ByteArray) (s : ByteArray) (hx : xs.length ≤ 4611686018427387904) {k : Nat} (hk : xs.length < k) : slices_Contains_string_string.f k xs s = some (decide (s ∈ xs)) := by
  unfold slices_Contains_string_string.f slices_Index_string_string.f
  rw [show (0 : Int) = ((0 : Nat) : Int) from rfl, index_loop xs s hx xs.length k 0 (by omega) hk, Option.bind_some]
  have := place_mem s xs 0 (by omega)
  simp only [List.drop_zero, ge_iff_le]
  congr 1
  rw [decide_eq_decide]
  exact this
theorem ownWords_length : ownWords.length = 19 := rfl
theorem own_ev (s : ByteArray) {k : Nat} (hk : 19 < k) : impl_isOwn.f k s = some (decide (s ∈ ownWords)) := by
  have h := contains_ev ownWords s (by rw [ownWords_length]; omega) (k := k) (by rw [ownWords_length]; exact hk)
  unfold impl_isOwn.f
  show (slices_Contains_string_string.f k ownWords s).bind _ = _
  rw [h]
  rfl
theorem kept_ev (s : ByteArray) {k : Nat} (hk : 19 < k) : spec_l1Kept.f k s = some (decide (s ∈ ownWords)) := by
  unfold spec_l1Kept.f
  exact kept_loop s ownWords (by rw [ownWords_length]; omega) 19 k 0 (by rw [ownWords_length]) hk
theorem low_no {b : UInt8} (h : (b.toNat : Int) < 97 ∨ (b.toNat : Int) > 122) : low b = false := by
  simp only [low, Bool.and_eq_false_iff, decide_eq_false_iff_not]
  omega
theorem low_yes {b : UInt8} (h : ¬ (b.toNat : Int) < 97) (h' : ¬ (b.toNat : Int) > 122) : low b = true := by
  simp only [low, Bool.and_eq_true, decide_eq_true_eq]
  omega
theorem specName_loop (s : ByteArray) (hs : s.size ≤ 4611686018427387904) : ∀ (d k i : Nat), s.size = i + d → d < k → spec_LexName.l0 k s (i : Int) = some ((from_ s i).all low) := by
  intro d
  induction d with
  | zero =>
    intro k i hi hk
    obtain ⟨k, rfl⟩ := less k (by omega)
    simp only [spec_LexName.l0]
    rw [if_neg (by omega), from_end (by omega)]
    rfl
  | succ d ih =>
    intro k i hi hk
    obtain ⟨k, rfl⟩ := less k (by omega)
    have hl : i < s.size := by omega
    simp only [spec_LexName.l0]
    rw [if_pos (by omega), if_pos (by omega), bt_get hl, from_cons hl, wrap_succ hl hs, ih k (i + 1) (by omega) (by omega)]
    by_cases h : (s.data[i].toNat : Int) < 97
    · rw [if_pos h, List.all_cons, low_no (.inl h)]; rfl
    · rw [if_neg h]
      by_cases h' : (s.data[i].toNat : Int) > 122
      · rw [if_pos h', List.all_cons, low_no (.inr h')]; rfl
      · rw [if_neg h', List.all_cons, low_yes h h']; rfl
theorem implName_loop (s : ByteArray) (hs : s.size ≤ 4611686018427387904) : ∀ (d k i : Nat), s.size = i + d → d + 20 < k → impl_LexName.l0 k s (s.size : Int) (i : Int) = some ((from_ s i).all low && (decide (1 ≤ s.size) && (decide (s.size ≤ 8) && !decide (s ∈ ownWords)))) := by
  intro d
  induction d with
  | zero =>
    intro k i hi hk
    obtain ⟨k, rfl⟩ := less k (by omega)
    simp only [impl_LexName.l0]
    rw [if_neg (by omega), from_end (by omega), range_ev, Option.bind_some, own_ev s (by omega)]
    have e1 : decide (1 ≤ (s.size : Int)) = decide (1 ≤ s.size) := by rw [decide_eq_decide]; omega
    have e2 : decide ((s.size : Int) ≤ 8) = decide (s.size ≤ 8) := by rw [decide_eq_decide]; omega
    rw [e1, e2]
    cases decide (1 ≤ s.size) <;> cases decide (s.size ≤ 8) <;> cases decide (s ∈ ownWords) <;> rfl
  | succ d ih =>
    intro k i hi hk
    obtain ⟨k, rfl⟩ := less k (by omega)
    have hl : i < s.size := by omega
    simp only [impl_LexName.l0]
    rw [if_pos (by omega), if_pos (by omega), if_pos (by omega), bt_get hl, from_cons hl, wrap_succ hl hs, ih k (i + 1) (by omega) (by omega)]
    by_cases h : (s.data[i].toNat : Int) < 97
    · rw [if_pos h, List.all_cons, low_no (.inl h)]; rfl
    · rw [if_neg h]
      by_cases h' : (s.data[i].toNat : Int) > 122
      · rw [if_pos h', List.all_cons, low_no (.inr h')]; rfl
      · rw [if_neg h', List.all_cons, low_yes h h']; rfl
theorem implName_ev (s : ByteArray) (hs : s.size ≤ 4611686018427387904) {k : Nat} (hk : s.size + 20 < k) : impl_LexName.f k s = some (isName s) := by
  unfold impl_LexName.f
  rw [show (0 : Int) = ((0 : Nat) : Int) from rfl, implName_loop s hs s.size k 0 (by omega) hk]
  unfold isName
  cases decide (1 ≤ s.size) <;> cases decide (s.size ≤ 8) <;> cases decide (s ∈ ownWords) <;> cases (from_ s 0).all low <;> rfl
theorem specName_ev (s : ByteArray) (hs : s.size ≤ 4611686018427387904) {k : Nat} (hk : s.size + 20 < k) : spec_LexName.f k s = some (isName s) := by
  unfold spec_LexName.f isName
  by_cases h1 : (s.size : Int) < 1
  · obtain ⟨k, rfl⟩ := less k (by omega)
    rw [if_pos h1, decide_eq_false (by omega : ¬ 1 ≤ s.size)]
    simp only [spec_LexName.j0]
    rfl
  · rw [if_neg h1, decide_eq_true (by omega : 1 ≤ s.size)]
    by_cases h2 : (s.size : Int) > 8
    · obtain ⟨k, rfl⟩ := less k (by omega)
      rw [if_pos h2, decide_eq_false (by omega : ¬ s.size ≤ 8)]
      simp only [spec_LexName.j0]
      rfl
    · rw [if_neg h2, decide_eq_true (by omega : s.size ≤ 8), kept_ev s (by omega), Option.bind_some]
      obtain ⟨k, rfl⟩ := less k (by omega)
      simp only [spec_LexName.j0]
      rw [show (0 : Int) = ((0 : Nat) : Int) from rfl, specName_loop s hs s.size k 0 (by omega) (by omega)]
      cases decide (s ∈ ownWords) <;> cases (from_ s 0).all low <;> rfl
theorem implName (s : ByteArray) (hs : s.size ≤ 4611686018427387904) : Ev (fun k => impl_LexName.f k s) (isName s) := Ev.from (s.size + 20) (fun _ hk => implName_ev s hs hk)
theorem specName (s : ByteArray) (hs : s.size ≤ 4611686018427387904) : Ev (fun k => spec_LexName.f k s) (isName s) := Ev.from (s.size + 20) (fun _ hk => specName_ev s hs hk)

/-! ### the place of a byte; what stands ahead of a point and behind it -/
def fb (c : Int) : List UInt8 → Int → Int
  | [], _ => -1
  | x :: r, i => if (x.toNat : Int) = c then i else fb c r (i + 1)
theorem find_loop (s : ByteArray) (hs : s.size ≤ 4611686018427387904) (c : Int) : ∀ (d i : Nat), s.size = i + d → Ev (fun k => spec_l23Find.l0 k s c (i : Int)) (fb c (from_ s i) (i : Int)) := by
  intro d
  induction d with
  | zero =>
    intro i hi
    rw [from_end (by omega)]
    exact Ev.step (f := fun _ => some (-1)) (fun k => by simp only [spec_l23Find.l0]; rw [if_neg (by omega)]) (Ev.now _)
  | succ d ih =>
    intro i hi
    have hl : i < s.size := by omega
    rw [from_cons hl, fb]
    refine Ev.step (fun k => by simp only [spec_l23Find.l0]; rw [if_pos (by omega), if_pos (by omega), bt_get hl, wrap_succ hl hs]) ?_
    by_cases h : (s.data[i].toNat : Int) = c
    · rw [if_pos h]
      exact Ev.pos h (Ev.now _)
    · rw [if_neg h]
      exact Ev.neg h (ih (i + 1) (by omega))
theorem find_ev (s : ByteArray) (hs : s.size ≤ 4611686018427387904) (c : Int) : Ev (fun k => spec_l23Find.f k s c) (fb c s.data.toList 0) := find_loop s hs c s.size 0 (by omega)
theorem fb_range (c : Int) : ∀ (l : List UInt8) (i : Int), 0 ≤ i → fb c l i = -1 ∨ (i ≤ fb c l i ∧ fb c l i < i + l.length)
  | [], i, _ => .inl rfl
  | x :: r, i, h => by
    rw [fb]
    split
    · right; simp only [List.length_cons]; omega
    · rcases fb_range c r (i + 1) (by omega) with h1 | h1
      · exact .inl h1
      · right; simp only [List.length_cons]; omega
theorem indexByte_fb (b : UInt8) : ∀ (l : List UInt8) (i : Int), 0 ≤ i → fb (b.toNat : Int) l i = if Lib.indexByte l b = -1 then -1 else i + Lib.indexByte l b
  | [], i, _ => by simp [fb, Lib.indexByte]
  | x :: r, i, h => by
    have hge := Lib.indexByte_ge r b
    rw [fb, Lib.indexByte]
    by_cases e : x = b
    · subst e
      simp
    · have e1 : ¬ (x.toNat : Int) = (b.toNat : Int) := fun h => e (UInt8.toNat_inj.mp (by omega))
      have e2 : (x == b) = false := by simpa using e
      rw [if_neg e1, indexByte_fb b r (i + 1) (by omega), e2]
      simp only [Bool.false_eq_true, if_false, beq_iff_eq]
      by_cases h1 : Lib.indexByte r b = -1
      · rw [if_pos h1, if_pos h1]; simp
      · rw [if_neg h1, if_neg h1, if_neg (by omega)]; omega
/-- What a text is cut into at its first byte c. -/
def cutAt (c : UInt8) (s : ByteArray) : ByteArray × ByteArray × Bool := if fb (c.toNat : Int) s.data.toList 0 = -1 then (s, ⟨#[]⟩, false) else (s.extract 0 (fb (c.toNat : Int) s.data.toList 0).toNat, s.extract ((fb (c.toNat : Int) s.data.toList 0).toNat + 1) s.size, true)
theorem cut_ev (c : UInt8) (s : ByteArray) (hs : s.size ≤ 4611686018427387904) : strings_Cut.f s ⟨#[c]⟩ = some (cutAt c s) := by
  have hz := size_eq s
  have hsz : (⟨#[c]⟩ : ByteArray).size = 1 := rfl
  have he := indexByte_fb c s.data.toList 0 (by omega)
  have hge := Lib.indexByte_ge s.data.toList c
  have hr := fb_range (c.toNat : Int) s.data.toList 0 (by omega)
  have hi : stringslite_Index.f s ⟨#[c]⟩ = some (Lib.indexByte s.data.toList c) := by
    unfold stringslite_Index.f
    rw [if_pos hsz]
    rfl
  unfold strings_Cut.f stringslite_Cut.f cutAt
  rw [hi, Option.bind_some, hsz]
  by_cases h : Lib.indexByte s.data.toList c = -1
  · rw [if_pos h] at he
    rw [he, if_pos rfl, if_neg (by omega)]
    rfl
  · rw [if_neg h, Int.zero_add] at he
    rw [he, if_neg h, if_pos (by omega), if_pos (by omega), if_pos (by omega), wrap_id (by omega) (by omega), if_pos (by omega), if_pos (by omega), Option.bind_some, show (Lib.indexByte s.data.toList c + ((1 : Nat) : Int)).toNat = (Lib.indexByte s.data.toList c).toNat + 1 by omega]
theorem extract_size (s : ByteArray) (a b : Nat) : (s.extract a b).size ≤ s.size := by
  rw [ByteArray.size_extract]
  omega
def dotOf (s : ByteArray) : ByteArray × ByteArray × Bool := if (isName (cutAt 46 s).1 && isName (cutAt 46 s).2.1) = true then ((cutAt 46 s).1, (cutAt 46 s).2.1, true) else (⟨#[]⟩, ⟨#[]⟩, false)
theorem cutAt_size (c : UInt8) (s : ByteArray) : (cutAt c s).1.size ≤ s.size ∧ (cutAt c s).2.1.size ≤ s.size := by
  unfold cutAt
  split
  · exact ⟨Nat.le_refl _, Nat.zero_le _⟩
  · exact ⟨extract_size _ _ _, extract_size _ _ _⟩
theorem implDot_ev (s : ByteArray) (hs : s.size ≤ 4611686018427387904) : Ev (fun k => impl_LexDot.f k s) (dotOf s) := by
  obtain ⟨z1, z2⟩ := cutAt_size 46 s
  unfold impl_LexDot.f dotOf
  refine Ev.bind (Ev.const (cut_ev 46 s hs)) (Ev.bind (implName _ (by omega)) ?_)
  by_cases h1 : isName (cutAt 46 s).1 = true
  · refine Ev.pos h1 (Ev.bind (implName _ (by omega)) ?_)
    by_cases h2 : isName (cutAt 46 s).2.1 = true
    · exact Ev.eq (Ev.pos h2 (Ev.now _)) (by rw [h1, h2]; rfl)
    · exact Ev.eq (Ev.neg h2 (Ev.now _)) (by rw [Bool.eq_false_iff.mpr h2, Bool.and_false]; rfl)
  · exact Ev.eq (Ev.neg h1 (Ev.now _)) (by rw [Bool.eq_false_iff.mpr h1, Bool.false_and]; rfl)
theorem noName : isName ⟨#[]⟩ = false := by decide
theorem specDot_ev (s : ByteArray) (hs : s.size ≤ 4611686018427387904) : Ev (fun k => spec_LexDot.f k s) (dotOf s) := by
  have hz := size_eq s
  have hr := fb_range 46 s.data.toList 0 (by omega)
  have hc : cutAt 46 s = if fb 46 s.data.toList 0 = -1 then (s, ⟨#[]⟩, false) else (s.extract 0 (fb 46 s.data.toList 0).toNat, s.extract ((fb 46 s.data.toList 0).toNat + 1) s.size, true) := rfl
  unfold spec_LexDot.f dotOf
  rw [hc]
  refine Ev.bind (find_ev s hs 46) ?_
  by_cases h : fb 46 s.data.toList 0 = -1
  · rw [if_pos h]
    refine Ev.pos (by omega) (Ev.eq (Ev.now _) ?_)
    rw [noName, Bool.and_false, if_neg (by simp)]
  · rw [if_neg h]
    refine Ev.neg (by omega) (Ev.pos (by omega) (Ev.pos (by omega) ?_))
    have e : wrap64 (fb 46 s.data.toList 0 + 1) = fb 46 s.data.toList 0 + 1 := wrap_id (by omega) (by omega)
    have e2 : (fb 46 s.data.toList 0 + 1).toNat = (fb 46 s.data.toList 0).toNat + 1 := by omega
    have z1 := extract_size s 0 (fb 46 s.data.toList 0).toNat
    have z2 := extract_size s ((fb 46 s.data.toList 0).toNat + 1) s.size
    rw [e, e2]
    refine Ev.bind (specName _ (by omega)) ?_
    by_cases h1 : isName (s.extract 0 (fb 46 s.data.toList 0).toNat) = true
    · refine Ev.pos h1 (Ev.pos (by omega) (Ev.pos (by omega) (Ev.bind (specName _ (by omega)) ?_)))
      by_cases h2 : isName (s.extract ((fb 46 s.data.toList 0).toNat + 1) s.size) = true
      · exact Ev.eq (Ev.pos h2 (Ev.now _)) (by rw [h1, h2]; rfl)
      · exact Ev.eq (Ev.neg h2 (Ev.now _)) (by rw [Bool.eq_false_iff.mpr h2, Bool.and_false]; rfl)
    · exact Ev.eq (Ev.neg h1 (Ev.now _)) (by rw [Bool.eq_false_iff.mpr h1, Bool.false_and]; rfl)

theorem FnExactLexDot : laws_FnExactLexDot.Pure := by
  intro s hn
  apply Ev.rounds
  unfold laws_FnExactLexDot.f
  by_cases h : (s.size : Int) > 1048576
  · exact Ev.pos h (Ev.now _)
  · exact Ev.neg h (Ev.bind (specDot_ev s (by omega)) (Ev.bind (implDot_ev s (by omega)) (Ev.pos rfl (Ev.pos rfl (Ev.neg (by simp) (Ev.now _))))))

end Go.Proofs.Ytlppcfjapmmkkaa.Pure
