/- The program's LexCut and the reference's answer the same at every text of at most 2^20 bytes, in memory of their own, and again the same at a second call; at longer texts the law says nothing. -/
import Derived.Test.YtoffgpomodijoaaPFnExactLexCutx3
import Derived.Test.YtoffgpomodijoaaLib
namespace Go.Proofs.Ytoffgpomodijoaa.Pure
open Go.RowKit Go.Proofs.Ytoffgpomodijoaa.PFnExactLexCut Go.Proofs.YtoffgpomodijoaaW.PrintWords Go.Proofs.YtoffgpomodijoaaW.PrintLast Go.Proofs.Ytoffgpomodijoaa.Lib

theorem range_ev (a b c : Int) : impl_inRange.f a b c = some (decide (b ≤ a) && decide (a ≤ c)) := by
  unfold impl_inRange.f
  split
  · rename_i h; simp [h]
  · rename_i h; simp [h]

/-! ### words of a text -/
theorem blankS (a : Int) : spec_l1Blank.f a = some (decide (a = 32 ∨ a = 10)) := by
  unfold spec_l1Blank.f
  by_cases h : a = 32
  · rw [if_pos h]; simp [h]
  · rw [if_neg h]; congr 1; rw [Bool.eq_iff_iff]; simp [h]
theorem fineS (a : Int) : spec_l1Fine.f a = some (decide ((a = 32 ∨ a = 10) ∨ (a > 32 ∧ a < 127))) := by
  unfold spec_l1Fine.f
  rw [blankS, Option.bind_some]
  by_cases h : a = 32 ∨ a = 10
  · simp [h]
  · by_cases h2 : a > 32 <;> simp [h, h2]
theorem markI (a : Int) : impl_isMark.f a = some (decide (a = 40 ∨ a = 41)) := by
  unfold impl_isMark.f
  by_cases h : a = 40
  · rw [if_pos h]; simp [h]
  · rw [if_neg h]; congr 1; rw [Bool.eq_iff_iff]; simp [h]
theorem blankI (a : Int) : impl_isBlank.f a = some (decide (a = 32 ∨ a = 10)) := by
  unfold impl_isBlank.f
  by_cases h : a = 32
  · rw [if_pos h]; simp [h]
  · rw [if_neg h]; congr 1; rw [Bool.eq_iff_iff]; simp [h]
def blankB (b : UInt8) : Bool := decide ((b.toNat : Int) = 32 ∨ (b.toNat : Int) = 10)
def markB (b : UInt8) : Bool := decide ((b.toNat : Int) = 40 ∨ (b.toNat : Int) = 41)
def fineB (b : UInt8) : Bool := decide ((b.toNat : Int) > 32 ∧ (b.toNat : Int) < 127)
def flush (cur : List UInt8) (out : List ByteArray) : List ByteArray := if cur = [] then out else out ++ [mkb cur]
/-- The words of a text, from where one reads on: what was read of a word, and the words ahead. -/
def wcut : List UInt8 → List UInt8 → List ByteArray → Option (List ByteArray)
  | [], cur, out => some (flush cur out)
  | c :: r, cur, out => if blankB c = true then wcut r [] (flush cur out) else if markB c = true then wcut r [] (flush cur out ++ [mkb [c]]) else if fineB c = true then wcut r (cur ++ [c]) out else none
def fin : Option (List ByteArray) → List ByteArray × Bool
  | none => ([], false)
  | some o => if o.length > 1500 then ([], false) else (o, true)
theorem fin_end (o : List ByteArray) : (if (o.length : Int) > 1500 then some (([] : List ByteArray), false) else some (o, true)) = some (fin (some o)) := by
  unfold fin
  by_cases h : o.length > 1500
  · rw [if_pos (by omega)]; simp [h]
  · rw [if_neg (by omega)]; simp [h]
theorem flush_length (cur : List UInt8) (out : List ByteArray) : (flush cur out).length ≤ out.length + 1 := by
  unfold flush
  split <;> simp
theorem specCut_end (s : ByteArray) (hs : s.size ≤ 4000) (k : Nat) (fr : Nat) (out : List ByteArray) (hf : fr ≤ s.size) (ho : out.length ≤ 20000) : spec_LexCut.l0 (k + 4) s out (fr : Int) (s.size : Int) = some (fin (some (flush (seg s fr s.size) out))) := by
  have hwr : wrap64 ((s.size : Int) + 1) = ((s.size + 1 : Nat) : Int) := wrap_succ (n := s.size + 1) (by omega) (by omega)
  simp only [spec_LexCut.l0]
  rw [if_pos (by omega), if_neg (by omega)]
  simp only [spec_LexCut.j1]
  rw [if_neg (by simp), if_neg (by omega)]
  simp only [spec_LexCut.j2]
  rw [if_neg (by simp)]
  by_cases h : fr = s.size
  · rw [if_neg (by omega), if_neg (by omega), hwr]
    simp only [spec_LexCut.l0]
    rw [if_neg (by omega), fin_end, flush, if_pos ((seg_nil hf (Nat.le_refl _)).mpr h)]
  · rw [if_pos (by omega), if_pos (by omega), if_pos (by omega), if_pos (by omega), if_pos (by omega), Option.bind_some, if_neg (by omega), hwr]
    simp only [spec_LexCut.l0]
    rw [if_neg (by omega), fin_end, flush, if_neg (fun e => h ((seg_nil hf (Nat.le_refl _)).mp e)), nat_cast, nat_cast, extract_seg]
theorem specCut_j2 (s : ByteArray) (hs : s.size ≤ 4000) (k i fr : Nat) (out : List ByteArray) (hl : i < s.size) (hf : fr ≤ i) (ho : out.length ≤ 20000) : spec_LexCut.j2 (k + 1) s out (fr : Int) (i : Int) false =
    spec_LexCut.l0 k s (if blankB s.data[i] = true then flush (seg s fr i) out else flush (seg s fr i) out ++ [mkb [s.data[i]]]) ((i + 1 : Nat) : Int) ((i + 1 : Nat) : Int) := by
  have hwr : wrap64 ((i : Int) + 1) = ((i + 1 : Nat) : Int) := wrap_succ hl (by omega)
  have hfl := flush_length (seg s fr i) out
  simp only [spec_LexCut.j2]
  rw [if_neg (by simp), hwr, bt_get hl, blankS, Option.bind_some]
  have hB : (decide ((s.data[i].toNat : Int) = 32 ∨ (s.data[i].toNat : Int) = 10)) = blankB s.data[i] := rfl
  rw [hB]
  have hseg : mkb [s.data[i]] = s.extract i (i + 1) := by rw [extract_seg, seg_succ (Nat.le_refl i) hl, seg_self]; rfl
  by_cases h : fr = i
  · have e0 : flush (seg s fr i) out = out := by rw [flush, if_pos ((seg_nil hf (by omega)).mpr h)]
    rw [if_neg (by omega), if_pos (by omega), if_pos (by omega), Option.bind_some, e0]
    by_cases hb : blankB s.data[i] = true
    · rw [if_pos hb, if_pos hb]
    · rw [if_neg hb, if_neg hb, if_pos (by omega), if_pos (by omega), if_pos (by omega), nat_cast, nat_cast, hseg]
  · have e0 : flush (seg s fr i) out = out ++ [s.extract fr i] := by rw [flush, if_neg (fun e => h ((seg_nil hf (by omega)).mp e)), extract_seg]
    rw [if_pos (by omega), if_pos (by omega), if_pos (by omega), if_pos (by omega), if_pos (by omega), Option.bind_some, if_pos (by omega), if_pos (by omega), nat_cast, nat_cast, e0]
    try rw [Option.bind_some]
    by_cases hb : blankB s.data[i] = true
    · rw [if_pos hb, if_pos hb]
    · rw [if_neg hb, if_neg hb, if_pos (by omega), if_pos (by omega), if_pos (by simp; omega), nat_cast, hseg]
theorem specCut_loop (s : ByteArray) (hs : s.size ≤ 4000) : ∀ (d k i fr : Nat) (out : List ByteArray), s.size = i + d → fr ≤ i → out.length ≤ 2 * i → 3 * d + 6 < k → spec_LexCut.l0 k s out (fr : Int) (i : Int) = some (fin (wcut (from_ s i) (seg s fr i) out)) := by
  intro d
  induction d with
  | zero =>
    intro k i fr out hi hf ho hk
    obtain rfl : i = s.size := by omega
    obtain ⟨k, rfl⟩ : ∃ m, k = m + 4 := ⟨k - 4, by omega⟩
    rw [specCut_end s hs k fr out hf (by omega), from_end (Nat.le_refl _)]
    rfl
  | succ d ih =>
    intro k i fr out hi hf ho hk
    obtain ⟨k, rfl⟩ : ∃ m, k = m + 3 := ⟨k - 3, by omega⟩
    have hl : i < s.size := by omega
    have hwr : wrap64 ((i : Int) + 1) = ((i + 1 : Nat) : Int) := wrap_succ hl (by omega)
    have hfl := flush_length (seg s fr i) out
    have hJ := specCut_j2 s hs k i fr out hl hf (by omega)
    have hj2 : spec_LexCut.j2 (k + 1) s out (fr : Int) (i : Int) true = spec_LexCut.l0 k s out (fr : Int) ((i + 1 : Nat) : Int) := by
      simp only [spec_LexCut.j2]
      rw [if_pos trivial, hwr]
    simp only [spec_LexCut.l0, spec_LexCut.j1]
    rw [if_pos (by omega), if_pos (by omega), if_pos (by omega), if_pos (by omega), if_pos (by omega), bt_get hl, fineS, blankS, Option.bind_some, Option.bind_some, from_cons hl, wcut]
    by_cases hb : (s.data[i].toNat : Int) = 32 ∨ (s.data[i].toNat : Int) = 10
    · have hB : blankB s.data[i] = true := decide_eq_true hb
      rw [if_pos hB, if_neg (by simp [hb]), if_pos (decide_eq_true hb), hJ, if_pos hB, ih k (i + 1) (i + 1) _ (by omega) (by omega) (by omega) (by omega), seg_self]
    · have hB : ¬ blankB s.data[i] = true := fun e => hb (of_decide_eq_true e)
      rw [if_neg hB]
      by_cases hm : (s.data[i].toNat : Int) = 40 ∨ (s.data[i].toNat : Int) = 41
      · have hM : markB s.data[i] = true := decide_eq_true hm
        rw [if_pos hM, if_neg (by simp; omega), if_neg (by simp [hb])]
        have hfin : spec_LexCut.j2 (k + 1) s out (fr : Int) (i : Int) false = some (fin (wcut (from_ s (i + 1)) [] (flush (seg s fr i) out ++ [mkb [s.data[i]]]))) := by
          rw [hJ, if_neg hB, ih k (i + 1) (i + 1) _ (by omega) (by omega) (by simp; omega) (by omega), seg_self]
        by_cases h40 : (s.data[i].toNat : Int) = 40
        · rw [if_pos h40, hfin]
        · rw [if_neg h40, show ((s.data[i].toNat : Int) != 41) = false by simp; omega, hfin]
      · have hM : ¬ markB s.data[i] = true := fun e => hm (of_decide_eq_true e)
        rw [if_neg hM]
        by_cases hg : (s.data[i].toNat : Int) > 32 ∧ (s.data[i].toNat : Int) < 127
        · have hG : fineB s.data[i] = true := decide_eq_true hg
          rw [if_pos hG, if_neg (by simp; omega), if_neg (by simp [hb]), if_neg (by omega), show ((s.data[i].toNat : Int) != 41) = true by simp; omega, hj2, ih k (i + 1) fr out (by omega) (by omega) (by omega) (by omega), seg_succ hf hl]
        · have hG : ¬ fineB s.data[i] = true := fun e => hg (of_decide_eq_true e)
          rw [if_neg hG, if_pos (by simp; omega)]
          rfl
theorem specCut_ev (s : ByteArray) {k : Nat} (hk : 3 * s.size + 6 < k) : spec_LexCut.f k s = some (if s.size > 4000 then ([], false) else fin (wcut (from_ s 0) [] [])) := by
  unfold spec_LexCut.f
  by_cases h : s.size > 4000
  · rw [if_pos (by omega), if_pos h]
  · rw [if_neg (by omega), if_neg h]
    exact specCut_loop s (by omega) s.size k 0 0 [] (by omega) (Nat.le_refl _) (by simp) hk
theorem markI' (b : UInt8) : impl_isMark.f (b.toNat : Int) = some (markB b) := markI _
theorem blankI' (b : UInt8) : impl_isBlank.f (b.toNat : Int) = some (blankB b) := blankI _
/-- Where a word began, as the program keeps it. -/
def pos (fr i : Nat) : Int := if fr = i then -1 else (fr : Int)
theorem implCut_end (s : ByteArray) (k fr : Nat) (out : List ByteArray) (hf : fr ≤ s.size) (ho : out.length ≤ 20000) : impl_LexCut.l0 (k + 1) s out (pos fr s.size) (s.size : Int) (s.size : Int) = some (fin (some (flush (seg s fr s.size) out))) := by
  simp only [impl_LexCut.l0]
  rw [if_neg (by omega)]
  by_cases h : fr = s.size
  · rw [pos, if_pos h, if_neg (by omega), fin_end, flush, if_pos ((seg_nil hf (Nat.le_refl _)).mpr h)]
  · rw [pos, if_neg h, if_pos (by omega), if_pos (by omega), if_pos (by omega), if_pos (by omega), Option.bind_some, fin_end, flush, if_neg (fun e => h ((seg_nil hf (Nat.le_refl _)).mp e)), nat_cast, extract_seg]
theorem implCut_loop (s : ByteArray) (hs : s.size ≤ 4000) : ∀ (d k i fr : Nat) (out : List ByteArray), s.size = i + d → fr ≤ i → out.length ≤ 2 * i → 5 * d + 6 < k → impl_LexCut.l0 k s out (pos fr i) (s.size : Int) (i : Int) = some (fin (wcut (from_ s i) (seg s fr i) out)) := by
  intro d
  induction d with
  | zero =>
    intro k i fr out hi hf ho hk
    obtain rfl : i = s.size := by omega
    obtain ⟨k, rfl⟩ : ∃ m, k = m + 1 := ⟨k - 1, by omega⟩
    rw [implCut_end s k fr out hf (by omega), from_end (Nat.le_refl _)]
    rfl
  | succ d ih =>
    intro k i fr out hi hf ho hk
    obtain ⟨k, rfl⟩ : ∃ m, k = m + 5 := ⟨k - 5, by omega⟩
    have hl : i < s.size := by omega
    have hwr : wrap64 ((i : Int) + 1) = ((i + 1 : Nat) : Int) := wrap_succ hl (by omega)
    have hfl := flush_length (seg s fr i) out
    have hself : pos (i + 1) (i + 1) = -1 := by rw [pos, if_pos rfl]
    have hseg : mkb [s.data[i]] = s.extract i (i + 1) := by rw [extract_seg, seg_succ (Nat.le_refl i) hl, seg_self]; rfl
    have hJ3 : ∀ (o : List ByteArray) (p : Int) (b : Bool), o.length ≤ 20000 → impl_LexCut.j3 (k + 2) s o p (i : Int) (s.data[i].toNat : Int) b (s.size : Int) (i : Int) =
        if markB s.data[i] = true then impl_LexCut.l0 (k + 1) s (o ++ [mkb [s.data[i]]]) p (s.size : Int) ((i + 1 : Nat) : Int) else impl_LexCut.j4 (k + 1) s o p (i : Int) b (s.size : Int) (i : Int) (if blankB s.data[i] = true then false else !fineB s.data[i]) := by
      intro o p b ho
      simp only [impl_LexCut.j3]
      rw [markI', Option.bind_some, blankI', range_ev]
      by_cases hM : markB s.data[i] = true
      · rw [if_pos hM, if_pos hM, if_pos (by omega), hwr, if_pos (by omega), if_pos (by omega), if_pos (by omega), nat_cast, nat_cast, hseg]
      · rw [if_neg hM, if_neg hM, Option.bind_some]
        by_cases hB : blankB s.data[i] = true
        · rw [if_pos hB, if_pos hB]
        · rw [if_neg hB, if_neg hB, Option.bind_some]
          have hlt : s.data[i].toNat < 256 := s.data[i].toNat_lt
          rw [wrap_id (by omega) (by omega)]
          congr 1
          unfold fineB
          rw [Bool.eq_iff_iff]
          simp
          omega
    have hJ2 : ∀ (b : Bool), impl_LexCut.j1 (k + 4) s out (pos fr i) (i : Int) (s.data[i].toNat : Int) b (s.size : Int) (i : Int) = if b = true then impl_LexCut.j3 (k + 2) s (flush (seg s fr i) out) (-1) (i : Int) (s.data[i].toNat : Int) true (s.size : Int) (i : Int) else impl_LexCut.j3 (k + 2) s out (pos fr i) (i : Int) (s.data[i].toNat : Int) false (s.size : Int) (i : Int) := by
      intro b
      cases b with
      | false =>
        simp only [impl_LexCut.j1, impl_LexCut.j2]
        rw [if_neg (by simp), if_neg (by simp), if_neg (by simp)]
      | true =>
        simp only [impl_LexCut.j1, impl_LexCut.j2]
        rw [if_pos trivial, if_pos trivial]
        by_cases h : fr = i
        · rw [pos, if_pos h, if_neg (by simp), flush, if_pos ((seg_nil hf (by omega)).mpr h)]
        · rw [pos, if_neg h, if_pos (by simp), if_pos (by omega), if_pos (by omega), if_pos (by omega), if_pos (by omega), flush, if_neg (fun e => h ((seg_nil hf (by omega)).mp e)), nat_cast, nat_cast, extract_seg]
    have hJ0 : impl_LexCut.l0 (k + 5) s out (pos fr i) (s.size : Int) (i : Int) = impl_LexCut.j1 (k + 4) s out (pos fr i) (i : Int) (s.data[i].toNat : Int) (markB s.data[i] || blankB s.data[i]) (s.size : Int) (i : Int) := by
      rw [impl_LexCut.l0, if_pos (by omega), if_pos (by omega), if_pos (by omega), bt_get hl, markI', blankI', Option.bind_some]
      by_cases hM : markB s.data[i] = true
      · rw [if_pos hM, hM, Bool.true_or]
      · rw [if_neg hM, Option.bind_some, Bool.eq_false_iff.mpr hM, Bool.false_or]
    rw [hJ0, hJ2, from_cons hl, wcut]
    by_cases hB : blankB s.data[i] = true
    · have hM : ¬ markB s.data[i] = true := by
        have := of_decide_eq_true hB
        intro e
        have := of_decide_eq_true e
        omega
      rw [if_pos (by rw [hB, Bool.or_true]), hJ3 _ _ _ (by omega), if_neg hM, if_pos hB, if_pos hB]
      simp only [impl_LexCut.j4]
      rw [if_neg (by simp), if_pos trivial, hwr, ← hself, ih k (i + 1) (i + 1) _ (by omega) (by omega) (by omega) (by omega), seg_self]
    · rw [if_neg hB]
      by_cases hM : markB s.data[i] = true
      · rw [if_pos (by rw [hM, Bool.true_or]), hJ3 _ _ _ (by omega), if_pos hM, if_pos hM, ← hself, ih (k + 1) (i + 1) (i + 1) _ (by omega) (by omega) (by simp; omega) (by omega), seg_self]
      · rw [if_neg hM, if_neg (by simp [hM, hB]), hJ3 _ _ _ (by omega), if_neg hM, if_neg hB]
        by_cases hG : fineB s.data[i] = true
        · rw [if_pos hG]
          simp only [impl_LexCut.j4]
          have hne : pos fr (i + 1) = (fr : Int) := by rw [pos, if_neg (by omega)]
          have hih := ih k (i + 1) fr out (by omega) (by omega) (by omega) (by omega)
          rw [seg_succ hf hl, hne] at hih
          rw [if_neg (by simp [hG]), if_neg (by simp), hwr]
          by_cases h : fr = i
          · rw [pos, if_pos h, if_pos (by omega), ← hih, h]
          · rw [pos, if_neg h, if_neg (by omega), hih]
        · rw [if_neg hG]
          simp only [impl_LexCut.j4]
          rw [if_pos (by simp [hG])]
          rfl
theorem implCut_ev (s : ByteArray) {k : Nat} (hk : 5 * s.size + 6 < k) : impl_LexCut.f k s = some (if s.size > 4000 then ([], false) else fin (wcut (from_ s 0) [] [])) := by
  unfold impl_LexCut.f
  by_cases h : s.size > 4000
  · rw [if_pos (by omega), if_pos h]
  · rw [if_neg (by omega), if_neg h]
    exact implCut_loop s (by omega) s.size k 0 0 [] (by omega) (Nat.le_refl _) (by simp) hk

/-! ### lists of texts are compared -/
theorem eqStrings_loop (a b : List ByteArray) (hl : a.length = b.length) (hs : a.length ≤ 4611686018427387904) : ∀ (d k i : Nat), a.length = i + d → d < k → laws_eqStringS.l0 k a b (i : Int) = some (decide (a.drop i = b.drop i)) := by
  intro d
  induction d with
  | zero =>
    intro k i hi hk
    obtain ⟨k, rfl⟩ := less k (by omega)
    simp only [laws_eqStringS.l0]
    rw [if_neg (by omega), drop_end (by omega), drop_end (by omega)]
    rfl
  | succ d ih =>
    intro k i hi hk
    obtain ⟨k, rfl⟩ := less k (by omega)
    have h1 : i < a.length := by omega
    have h2 : i < b.length := by omega
    simp only [laws_eqStringS.l0]
    rw [if_pos (by omega), if_pos (by omega), if_pos (by omega), rdOf_get h1, rdOf_get h2, drop_cons h1, drop_cons h2, wrap_succ h1 hs, ih k (i + 1) (by omega) (by omega)]
    by_cases h : a[i] = b[i]
    · rw [if_pos (by rw [h])]
      congr 1
      rw [decide_eq_decide, List.cons.injEq]
      exact ⟨fun e => ⟨h, e⟩, fun e => e.2⟩
    · rw [if_neg (fun e => h (str_inj e))]
      congr 1
      symm
      rw [decide_eq_false_iff_not, List.cons.injEq]
      exact fun e => h e.1
theorem eqStrings_ev (a b : List ByteArray) (hs : a.length ≤ 4611686018427387904) {k : Nat} (hk : a.length < k) : laws_eqStringS.f k a b = some (decide (a = b)) := by
  unfold laws_eqStringS.f
  by_cases h : a.length = b.length
  · rw [if_pos (by omega), show (0 : Int) = ((0 : Nat) : Int) from rfl, eqStrings_loop a b h hs a.length k 0 (by omega) hk]
    rfl
  · rw [if_neg (by omega)]
    congr 1
    symm
    rw [decide_eq_false_iff_not]
    exact fun e => h (by rw [e])

/-! ### marks -/
theorem strOfNums_one (x : Int) : (strOfNums [x]).size = 1 := rfl
theorem size_append (a b : ByteArray) : (a ++ b).size = a.size + b.size := ByteArray.size_append
theorem markText_loop : ∀ (d k : Nat) (x : Int) (acc : ByteArray), x ≤ 4611686018427387904 → x.toNat ≤ d → d < k → acc.size + d ≤ 4611686018427387904 → ∃ t, laws_markText.l0 k x acc = some t := by
  intro d
  induction d with
  | zero =>
    intro k x acc hx hd hk ha
    obtain ⟨k, rfl⟩ := less k (by omega)
    simp only [laws_markText.l0]
    rw [if_neg (by omega), if_pos (by omega)]
    exact ⟨_, rfl⟩
  | succ d ih =>
    intro k x acc hx hd hk ha
    obtain ⟨k, rfl⟩ := less k (by omega)
    simp only [laws_markText.l0]
    by_cases h : x > 0
    · rw [if_pos h, Option.bind_some, if_pos (by rw [strOfNums_one]; omega)]
      have e : Int.tdiv x 10 = x / 10 := Int.tdiv_eq_ediv_of_nonneg (by omega)
      rw [e, wrap_id (by omega) (by omega)]
      exact ih k _ _ (by omega) (by omega) (by omega) (by rw [size_append, strOfNums_one]; omega)
    · rw [if_neg h, if_pos (by omega)]
      exact ⟨_, rfl⟩
theorem markText_some (n : Int) (h : n ≤ 2305843009213693952) : ∃ t, laws_markText.f (n.toNat + 2) n = some t := by
  unfold laws_markText.f
  by_cases h0 : n ≤ 0
  · rw [if_pos h0]; exact ⟨_, rfl⟩
  · rw [if_neg h0]
    exact markText_loop n.toNat _ n _ (by omega) (Nat.le_refl _) (by omega) (by show 0 + _ ≤ _; omega)
/-- The text of mark n. -/
def mt (n : Int) : ByteArray := (laws_markText.f (n.toNat + 2) n).getD ByteArray.empty
theorem markText_ev (n : Int) (h : n ≤ 2305843009213693952) {k : Nat} (hk : n.toNat + 2 ≤ k) : laws_markText.f k n = some (mt n) := by
  obtain ⟨t, ht⟩ := markText_some n h
  have : mt n = t := by rw [mt, ht]; rfl
  rw [this]
  exact at_rounds (g := fun k => laws_markText.f k n) (laws_markText.mono n) hk ht
/-- So many texts of marks, from m on. -/
def marks (m : Int) : Nat → List ByteArray
  | 0 => []
  | n + 1 => marks m n ++ [mt (m + n)]
theorem marks_length (m : Int) : ∀ n, (marks m n).length = n
  | 0 => rfl
  | n + 1 => by rw [marks, List.length_append, marks_length m n]; rfl
theorem marks_get (m : Int) : ∀ (n i : Nat) (h : i < (marks m n).length), (marks m n)[i] = mt (m + i)
  | 0, i, h => by rw [marks_length] at h; omega
  | n + 1, i, h => by
    rw [marks_length] at h
    have hl := marks_length m n
    simp only [marks]
    by_cases e : i < n
    · rw [List.getElem_append_left (by omega)]
      exact marks_get m n i (by omega)
    · obtain rfl : i = n := by omega
      rw [List.getElem_append_right (by omega)]
      simp
theorem set_marks (m : Int) (xs : List ByteArray) (i : Nat) (h : i < xs.length) : (marks m i ++ xs.drop i).set i (mt (m + i)) = marks m (i + 1) ++ xs.drop (i + 1) := by
  have hl := marks_length m i
  rw [List.set_append_right _ _ (by omega), drop_cons h, hl, Nat.sub_self, List.set_cons_zero, marks, List.append_assoc]
  rfl

theorem markStrings_loop (xs : List ByteArray) (m : Int) (hm : 0 ≤ m) (hb : m + xs.length ≤ 2305843009213693952) : ∀ (d k i : Nat), xs.length = i + d → d + m.toNat + xs.length + 4 < k → laws_markStringS.l0 k (marks m i ++ xs.drop i) (m + i) (i : Int) = some (m + xs.length, marks m xs.length) := by
  intro d
  induction d with
  | zero =>
    intro k i hi hk
    obtain ⟨k, rfl⟩ := less k (by omega)
    have hlen : (marks m i ++ xs.drop i).length = xs.length := by rw [List.length_append, marks_length, List.length_drop]; omega
    obtain rfl : i = xs.length := by omega
    simp only [laws_markStringS.l0]
    rw [if_neg (by rw [hlen]; omega), drop_end (Nat.le_refl _), List.append_nil]
  | succ d ih =>
    intro k i hi hk
    obtain ⟨k, rfl⟩ := less k (by omega)
    have hl : i < xs.length := by omega
    have hlen : (marks m i ++ xs.drop i).length = xs.length := by rw [List.length_append, marks_length, List.length_drop]; omega
    simp only [laws_markStringS.l0]
    rw [if_pos (by rw [hlen]; omega), markText_ev _ (by omega) (by omega), Option.bind_some, if_pos (by omega), nat_cast, set_marks m xs i hl, wrap_succ hl (by omega), wrap_id (by omega) (by omega), show m + (i : Int) + 1 = m + ((i + 1 : Nat) : Int) by omega]
    exact ih k (i + 1) (by omega) (by omega)
theorem markStrings_ev (xs : List ByteArray) (m : Int) (hm : 0 ≤ m) (hb : m + xs.length ≤ 2305843009213693952) {k : Nat} (hk : m.toNat + 2 * xs.length + 4 < k) : laws_markStringS.f k xs m = some (m + xs.length, marks m xs.length) := by
  have h := markStrings_loop xs m hm hb xs.length k 0 (by omega) (by omega)
  unfold laws_markStringS.f
  simpa [marks] using h
theorem heldStrings_loop (m : Int) (n : Nat) (hm : 0 ≤ m) (hb : m + n ≤ 2305843009213693952) : ∀ (d k i : Nat), n = i + d → d + m.toNat + n + 4 < k → laws_heldStringS.l0 k (marks m n) (m + i) (i : Int) = some (m + n) := by
  have hlen := marks_length m n
  intro d
  induction d with
  | zero =>
    intro k i hi hk
    obtain ⟨k, rfl⟩ := less k (by omega)
    simp only [laws_heldStringS.l0]
    rw [if_neg (by omega), show i = n by omega]
  | succ d ih =>
    intro k i hi hk
    obtain ⟨k, rfl⟩ := less k (by omega)
    have hl : i < (marks m n).length := by omega
    simp only [laws_heldStringS.l0]
    rw [if_pos (by omega), if_pos (by omega), markText_ev _ (by omega) (by omega), Option.bind_some, rdOf_get hl, marks_get m n i hl, if_pos rfl, wrap_succ hl (by omega), wrap_id (by omega) (by omega), show m + (i : Int) + 1 = m + ((i + 1 : Nat) : Int) by omega]
    exact ih k (i + 1) (by omega) (by omega)
theorem heldStrings_ev (m : Int) (n : Nat) (hm : 0 ≤ m) (hb : m + n ≤ 2305843009213693952) {k : Nat} (hk : m.toNat + 2 * n + 4 < k) : laws_heldStringS.f k (marks m n) m = some (m + n) := by
  have h := heldStrings_loop m n hm hb n k 0 (by omega) (by omega)
  unfold laws_heldStringS.f
  simpa using h

theorem fin_length (x : Option (List ByteArray)) : (fin x).1.length ≤ 1500 := by
  cases x with
  | none => simp [fin]
  | some o =>
    simp only [fin]
    split <;> simp
    omega
theorem FnExactLexCut : laws_FnExactLexCut.Pure := by
  intro s hn
  refine ⟨5 * s.size + 20000, ?_⟩
  obtain ⟨p, hp, hl⟩ : ∃ p : List ByteArray × Bool, (∀ k, 5 * s.size + 6 < k → spec_LexCut.f k s = some p ∧ impl_LexCut.f k s = some p) ∧ p.1.length ≤ 1500 := by
    refine ⟨_, fun k hk => ⟨specCut_ev s (by omega), implCut_ev s hk⟩, ?_⟩
    split
    · simp
    · exact fin_length _
  obtain ⟨p1, p2⟩ := p
  unfold laws_FnExactLexCut.f
  rw [(hp _ (by omega)).1, (hp _ (by omega)).2]
  simp only [Option.bind_some] at hl ⊢
  rw [eqStrings_ev p1 p1 (by omega) (by omega)]
  obtain ⟨k, hk⟩ : ∃ k, 5 * s.size + 20000 = k + 2 := ⟨5 * s.size + 19998, by omega⟩
  rw [hk]
  simp only [Option.bind_some, decide_true, laws_FnExactLexCut.j0, bne_self_eq_false]
  rw [markStrings_ev p1 1 (by omega) (by omega) (by omega)]
  simp only [Option.bind_some]
  rw [heldStrings_ev 1 p1.length (by omega) (by omega) (by omega), (hp _ (by omega)).2]
  simp only [Option.bind_some]
  rw [eqStrings_ev p1 p1 (by omega) (by omega)]
  simp only [Option.bind_some, decide_true, laws_FnExactLexCut.j1, bne_self_eq_false]
  rw [heldStrings_ev 1 p1.length (by omega) (by omega) (by omega)]
  simp only [Option.bind_some]
  split
  · rfl
  · have h1 : ¬ (1 + (p1.length : Int) < 0) := by omega
    simp [h1]

end Go.Proofs.Ytoffgpomodijoaa.Pure
