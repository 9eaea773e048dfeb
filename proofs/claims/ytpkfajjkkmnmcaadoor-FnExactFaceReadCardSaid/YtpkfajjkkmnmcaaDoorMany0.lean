/- The contracts of this claim, laid together: part 0. -/
import Derived.Test.YtpkfajjkkmnmcaaDoorEF0
import Derived.Test.YtpkfajjkkmnmcaaDoorEF1
import Derived.Test.YtpkfajjkkmnmcaaDoorHMIdx
import Derived.Test.YtpkfajjkkmnmcaaDoorC
import Derived.Test.YtpkfajjkkmnmcaaDoorK
import Derived.Test.YtpkfajjkkmnmcaaDoorHMSplit
import Derived.Test.YtpkfajjkkmnmcaaDoorHMStr
import Derived.Test.YtpkfajjkkmnmcaaDoorHMLoop
import Derived.Test.YtpkfajjkkmnmcaaDoorHMWp
import Derived.Test.YtpkfajjkkmnmcaaDoorT
import Derived.Test.YtpkfajjkkmnmcaaDoorHMStd
import Derived.Test.YtpkfajjkkmnmcaaDoorEG
import Derived.Test.YtpkfajjkkmnmcaaDoorHMLeaf
import Derived.Test.YtpkfajjkkmnmcaaDoorHMOwn
/- Texts as lists of bytes. -/
set_option linter.unusedVariables false
set_option linter.unusedSimpArgs false
namespace Go.R
open Go.HM Go.Proofs
def ba (l : List UInt8) : ByteArray := ⟨l.toArray⟩
theorem ba_app (l : List UInt8) (s : ByteArray) : ba l ++ s = ba (l ++ s.data.toList) := by
  obtain ⟨⟨d⟩⟩ := s
  apply ByteArray.ext
  rw [ByteArray.data_append]
  simp [ba]
theorem ba_size (l : List UInt8) : (ba l).size = l.length := by simp [ba, ByteArray.size]
theorem ba_self (s : ByteArray) : s = ba s.data.toList := by
  obtain ⟨⟨d⟩⟩ := s
  rfl
theorem ba_list (s : ByteArray) : s.data.toList.length = s.size := by simp
theorem fitB {α : Type} (L M : List UInt8) (x y : α) (h : L.length + M.length ≤ 4611686018427387904) : (if (ba L).size + (ba M).size ≤ 2 ^ 62 then x else y) = x := by
  have e62 : (2 : Nat) ^ 62 = 4611686018427387904 := by decide
  rw [if_pos (by rw [ba_size, ba_size, e62]; exact h)]
theorem ba2 (L M : List UInt8) : ba L ++ ba M = ba (L ++ M) := ba_app L (ba M)
theorem mk_ba (L : List UInt8) : (⟨L.toArray⟩ : ByteArray) = ba L := rfl
theorem ba_inj {L M : List UInt8} : ba L = ba M ↔ L = M := ⟨fun h => congrArg (fun s : ByteArray => s.data.toList) h, fun h => by rw [h]⟩
def catL {α : Type} (f : α → List UInt8) (l : List α) (i : Nat) : List UInt8 := ((l.take i).map f).flatten
theorem catL_zero {α : Type} (f : α → List UInt8) (l : List α) : catL f l 0 = [] := by simp [catL]
theorem catL_next {α : Type} {f : α → List UInt8} {l : List α} {i : Nat} {x : α} (h : l[i]? = some x) : catL f l (i + 1) = catL f l i ++ f x := by
  unfold catL
  rw [take_next' h, List.map_append, List.flatten_append]
  simp
theorem catL_len {α : Type} {f : α → List UInt8} {g : α → Nat} {l : List α} (h : ∀ x, x ∈ l → (f x).length ≤ g x) : ∀ i, i ≤ l.length → (catL f l i).length ≤ totS g (l.take i)
  | 0, _ => by simp [catL]
  | i + 1, hi => by
    have hx : l[i]? = some (l[i]'(by omega)) := List.getElem?_eq_getElem (by omega)
    have ih := catL_len h i (by omega)
    have hm := h _ (List.mem_of_getElem? hx)
    have hs : totS g (l.take (i + 1)) = totS g (l.take i) + g (l[i]'(by omega)) := by rw [take_next' hx, totS_append]; simp [totS]
    rw [catL_next hx, List.length_append]
    omega
end Go.R

/- Texts cut at a byte: plain; strings.Split, Cut, TrimSuffix, and the reference's l23Cut and l23Find. -/
set_option linter.unusedVariables false
set_option linter.unusedSimpArgs false
namespace Go.R
open Go.HM Go.Proofs
/-- What is cut off, and what is open. -/
def cutF (c : UInt8) (s : List (List UInt8) × List UInt8) (l : List UInt8) : List (List UInt8) × List UInt8 := l.foldl (fun s b => if b = c then (s.1 ++ [s.2], []) else (s.1, s.2 ++ [b])) s
def splitL (c : UInt8) (l : List UInt8) : List (List UInt8) := (cutF c ([], []) l).1 ++ [(cutF c ([], []) l).2]
theorem cutF_app (c : UInt8) (s : List (List UInt8) × List UInt8) (l m : List UInt8) : cutF c s (l ++ m) = cutF c (cutF c s l) m := List.foldl_append
theorem cutF_plain {c : UInt8} : ∀ (l : List UInt8) (A : List (List UInt8)) (w : List UInt8), c ∉ l → cutF c (A, w) l = (A, w ++ l)
  | [], A, w, _ => by simp [cutF]
  | b :: l, A, w, h => by
    have hb : b ≠ c := fun e => h (by simp [e])
    show cutF c (if b = c then (A ++ [w], []) else (A, w ++ [b])) l = _
    rw [if_neg hb, cutF_plain l A _ fun hc => h (by simp [hc])]
    simp
theorem cutF_front (c : UInt8) : ∀ (l : List UInt8) (A : List (List UInt8)) (w : List UInt8), cutF c (A, w) l = (A ++ (cutF c ([], w) l).1, (cutF c ([], w) l).2)
  | [], A, w => by simp [cutF]
  | b :: l, A, w => by
    show cutF c (if b = c then (A ++ [w], []) else (A, w ++ [b])) l = (A ++ (cutF c (if b = c then ([] ++ [w], []) else ([], w ++ [b])) l).1, (cutF c (if b = c then ([] ++ [w], []) else ([], w ++ [b])) l).2)
    split
    · rw [cutF_front c l (A ++ [w]) [], cutF_front c l ([] ++ [w]) []]
      simp
    · rw [cutF_front c l A (w ++ [b])]
theorem cutF_len (c : UInt8) : ∀ (l : List UInt8) (A : List (List UInt8)) (w : List UInt8), (cutF c (A, w) l).1.length ≤ A.length + l.length
  | [], A, w => by simp [cutF]
  | b :: l, A, w => by
    show (cutF c (if b = c then (A ++ [w], []) else (A, w ++ [b])) l).1.length ≤ _
    split
    · have := cutF_len c l (A ++ [w]) []
      simp at this ⊢
      omega
    · have := cutF_len c l A (w ++ [b])
      simp at this ⊢
      omega
theorem split_len (c : UInt8) (l : List UInt8) : (splitL c l).length ≤ l.length + 1 := by
  have := cutF_len c l [] []
  unfold splitL
  simp at this ⊢
  omega
theorem split_plain {c : UInt8} {l : List UInt8} (h : c ∉ l) : splitL c l = [l] := by
  unfold splitL
  rw [cutF_plain l [] [] h]
  simp
theorem split_at {c : UInt8} {l : List UInt8} (h : c ∉ l) (m : List UInt8) : splitL c (l ++ c :: m) = l :: splitL c m := by
  unfold splitL
  rw [cutF_app, cutF_plain l [] [] h]
  show (cutF c (if c = c then ([] ++ [[] ++ l], []) else ([], [] ++ l ++ [c])) m).1 ++ [(cutF c (if c = c then ([] ++ [[] ++ l], []) else ([], [] ++ l ++ [c])) m).2] = _
  rw [if_pos rfl, cutF_front]
  simp
theorem idx_cases (c : UInt8) : ∀ l : List UInt8, (c ∉ l ∧ Lib.indexByte l c = -1) ∨ ∃ i : Nat, i < l.length ∧ Lib.indexByte l c = (i : Int) ∧ l[i]? = some c ∧ c ∉ l.take i
  | [] => .inl ⟨by simp, rfl⟩
  | b :: l => by
    unfold Lib.indexByte
    by_cases hb : b = c
    · subst hb
      exact .inr ⟨0, by simp, by simp, by simp, by simp⟩
    · have hb' : (b == c) = false := by simpa using hb
      rw [hb']
      simp only [Bool.false_eq_true, if_false]
      rcases idx_cases c l with ⟨h1, h2⟩ | ⟨i, h1, h2, h3, h4⟩
      · exact .inl ⟨by simp [h1, Ne.symm hb], by rw [h2]; rfl⟩
      · refine .inr ⟨i + 1, by simp; omega, ?_, by simpa using h3, by simp [h4, Ne.symm hb]⟩
        rw [h2]
        have : ((i : Int) == -1) = false := by simp
        rw [this]
        simp
theorem index_one (c : UInt8) : ∀ l : List UInt8, Lib.index l [c] = Lib.indexByte l c
  | [] => by simp [Lib.index, Lib.indexByte]
  | b :: l => by
    rw [Lib.index, Lib.indexByte, index_one c l]
    by_cases hb : b = c
    · subst hb
      simp [List.isPrefixOf]
    · have h1 : ([c] : List UInt8).isPrefixOf (b :: l) = false := by simp [List.isPrefixOf, Ne.symm hb]
      have h2 : (b == c) = false := by simpa using hb
      rw [h1, h2]
theorem split_cut {c : UInt8} {l : List UInt8} {i : Nat} (h1 : i < l.length) (h3 : l[i]? = some c) : l = l.take i ++ c :: l.drop (i + 1) := by
  conv => lhs; rw [← List.take_append_drop i l, List.drop_eq_getElem_cons h1]
  rw [List.getElem?_eq_getElem h1] at h3
  injection h3 with h3
  rw [h3]
theorem splitK_eq (c : UInt8) : ∀ (n : Nat) (l : List UInt8), l.length ≤ n → Lib.splitK [c] 0 (Lib.count l [c]) l = splitL c l
  | n, l, hn => by
    rcases idx_cases c l with ⟨h1, h2⟩ | ⟨i, h1, h2, h3, h4⟩
    · rw [Lib.count_miss (by rw [index_one, h2]), split_plain h1]
      rfl
    · rw [Lib.count_hit (by simp) (by rw [index_one, h2]), Nat.add_comm]
      unfold Lib.splitK
      rw [index_one, h2]
      have hne : ¬ (((i : Int) == -1) = true) := by simp
      have hs := split_cut h1 h3
      match n with
      | 0 => omega
      | n + 1 =>
        have ih := splitK_eq c n (l.drop (i + 1)) (by rw [List.length_drop]; omega)
        rw [if_neg hne, Int.toNat_natCast]
        show l.take i :: Lib.splitK [c] 0 (Lib.count (l.drop (i + 1)) [c]) (l.drop (i + 1)) = _
        rw [ih]
        conv => rhs; rw [hs]
        rw [split_at h4]
theorem splitB_eq (c : UInt8) (s : ByteArray) : Lib.splitB ⟨#[c]⟩ 0 (Lib.countB s ⟨#[c]⟩) s = (splitL c s.data.toList).map ba := by
  have h := Lib.splitB_data ⟨#[c]⟩ 0 (Lib.countB s ⟨#[c]⟩) s
  have h2 := splitK_eq c _ s.data.toList (Nat.le_refl _)
  have e : Lib.splitK (⟨#[c]⟩ : ByteArray).data.toList 0 (Lib.countB s ⟨#[c]⟩) s.data.toList = splitL c s.data.toList := h2
  rw [e] at h
  rw [← h, List.map_map]
  conv => lhs; rw [← List.map_id (Lib.splitB _ _ _ _)]
  apply List.map_congr_left
  intro x _
  exact ba_self x
/-- The variable that strings.Index reads holds some number. -/
abbrev MaxV (σ : Heap) : Prop := ∃ m, σ[g_MaxLen]? = some (some ⟨[.int .i64 m], 1, true, 0⟩)
theorem split_runs {σ : Heap} (hm : MaxV σ) (s : ByteArray) (c : UInt8) (hs : s.size ≤ 1048576) : ∃ σ', Runs G n_strings_Split [.str s, .str ⟨#[c]⟩] σ (.sl σ.length 0 (splitL c s.data.toList).length false) σ' ∧ Lh σ σ' ∧ StrRow σ' σ.length ((splitL c s.data.toList).map ba) ∧ σ'.length = σ.length + 1 := by
  refine ⟨hnew σ 1 (((splitL c s.data.toList).map ba).map .str), hook_runs (h := hkSplit g_MaxLen) rfl ?_, Lh.new _ _ _, ⟨0, by simp [hnew]⟩, by simp [hnew]⟩
  unfold hkSplit
  have hl : (splitL c s.data.toList).length = ((splitL c s.data.toList).map ba).length := by simp
  rw [hl, ← splitB_eq]
  exact if_pos ⟨by omega, Nat.le_refl 1, hm⟩
theorem index_runs {σ : Heap} (s : ByteArray) (c : UInt8) : Runs G n_internal_stringslite_Index [.str s, .str ⟨#[c]⟩] σ (.int .i64 (Lib.indexByte s.data.toList c)) σ := by
  refine hook_runs (h := hkIndex) rfl ?_
  unfold hkIndex
  exact if_pos rfl
theorem sub_to {s : ByteArray} {i : Nat} (h : i ≤ s.size) : ssub s none (some (i : Int)) = some (ba (s.data.toList.take i)) := by
  obtain ⟨⟨l⟩⟩ := s
  have hl : i ≤ l.length := h
  unfold ssub
  simp only [Option.getD_some, Option.getD_none]
  have hs : (⟨⟨l⟩⟩ : ByteArray).size = l.length := rfl
  rw [if_pos (by omega)]
  congr 1
  show ByteArray.extract ⟨⟨l⟩⟩ 0 i = _
  have : (ByteArray.extract ⟨⟨l⟩⟩ 0 i).data.toList = l.take i := by rw [ByteArray.data_extract]; simp [List.extract]
  rw [ba_self (ByteArray.extract ⟨⟨l⟩⟩ 0 i), this]
theorem sub_from {s : ByteArray} {i : Nat} (h : i ≤ s.size) : ssub s (some (i : Int)) none = some (ba (s.data.toList.drop i)) := by
  obtain ⟨⟨l⟩⟩ := s
  have hl : i ≤ l.length := h
  unfold ssub
  simp only [Option.getD_some, Option.getD_none]
  have hs : (⟨⟨l⟩⟩ : ByteArray).size = l.length := rfl
  rw [if_pos (by omega)]
  congr 1
  rw [ba_self (ByteArray.extract ⟨⟨l⟩⟩ (Int.toNat (i : Int)) _)]
  have : (ByteArray.extract ⟨⟨l⟩⟩ i l.length).data.toList = l.drop i := by rw [ByteArray.data_extract]; simp [List.extract]; rw [List.take_of_length_le (by simp)]
  rw [Int.toNat_natCast, hs, Int.toNat_natCast, this]
theorem sub_mid {s : ByteArray} {a b : Nat} (h1 : a ≤ b) (h2 : b ≤ s.size) : ssub s (some (a : Int)) (some (b : Int)) = some (ba ((s.data.toList.take b).drop a)) := by
  obtain ⟨⟨l⟩⟩ := s
  have hl : b ≤ l.length := h2
  unfold ssub
  simp only [Option.getD_some]
  rw [if_pos (by omega)]
  congr 1
  rw [ba_self (ByteArray.extract ⟨⟨l⟩⟩ (Int.toNat (a : Int)) _), Int.toNat_natCast, Int.toNat_natCast]
  congr 1
  rw [ByteArray.data_extract]
  simp [List.extract, List.drop_take]
def cutAt (c : UInt8) (l : List UInt8) : List UInt8 × List UInt8 := if Lib.indexByte l c < 0 then (l, []) else (l.take (Lib.indexByte l c).toNat, l.drop ((Lib.indexByte l c).toNat + 1))
theorem cutAt_le (c : UInt8) (l : List UInt8) : (cutAt c l).1.length ≤ l.length ∧ (cutAt c l).2.length ≤ l.length := by
  unfold cutAt
  split
  · exact ⟨Nat.le_refl _, Nat.zero_le _⟩
  · simp
    omega
theorem idx_at {c : UInt8} {a : List UInt8} (h : c ∉ a) (m : List UInt8) : Lib.indexByte (a ++ c :: m) c = (a.length : Int) := by
  rcases idx_cases c (a ++ c :: m) with ⟨h1, _⟩ | ⟨i, h1, h2, h3, h4⟩
  · exact absurd (by simp) h1
  rw [h2]
  rcases Nat.lt_trichotomy i a.length with hl | hl | hl
  · rw [List.getElem?_append_left hl] at h3
    exact absurd (List.mem_of_getElem? h3) h
  · rw [hl]
  · refine absurd ?_ h4
    rw [List.take_append]
    refine List.mem_append_right _ ?_
    rw [show i - a.length = (i - a.length - 1) + 1 by omega, List.take_succ_cons]
    simp
theorem cutAt_at {c : UInt8} {a : List UInt8} (h : c ∉ a) (m : List UInt8) : cutAt c (a ++ c :: m) = (a, m) := by
  unfold cutAt
  rw [idx_at h, if_neg (by omega), Int.toNat_natCast, List.take_left]
  congr 1
  rw [show a.length + 1 = (a ++ [c]).length by simp, show a ++ c :: m = (a ++ [c]) ++ m by simp, List.drop_left]
theorem cut_runs {σ : Heap} (s : ByteArray) (c : UInt8) (hs : s.size ≤ 1048576) : ∃ b, Runs G n_strings_Cut [.str s, .str ⟨#[c]⟩] σ (.tuple [.str (ba (cutAt c s.data.toList).1), .str (ba (cutAt c s.data.toList).2), .bool b]) σ := by
  have hl : s.data.toList.length = s.size := by simp
  suffices h : ∃ b, Runs G n_internal_stringslite_Cut [.str s, .str ⟨#[c]⟩] σ (.tuple [.str (ba (cutAt c s.data.toList).1), .str (ba (cutAt c s.data.toList).2), .bool b]) σ by
    obtain ⟨b, c⟩ := h
    refine ⟨b, Runs.of (W.to (fun k _ => strings_Cut.eq k _ _ _) ?_)⟩
    refine W.run c ?_
    try simp only [q_bind_some, castInt_int, q_castBool, q_castStr, q_castPtr, q_castFn, q_castAgg, q_castTuple, q_uncons, q_isNil, q_sl, q_nils, q_emp, q_ptr, q_nilp, q_fn, q_cond_true, q_cond_false, Bool.not_true, Bool.not_false, decide_true, decide_false, List.cons_append, List.nil_append]
    exact W.ret ⟨rfl, rfl⟩
  rcases idx_cases c s.data.toList with ⟨h1, h2⟩ | ⟨i, h1, h2, h3, h4⟩
  · refine ⟨false, Runs.of (W.to (fun k _ => internal_stringslite_Cut.eq k _ _ _) ?_)⟩
    refine W.run (index_runs s c) ?_
    have e : cutAt c s.data.toList = (s.data.toList, []) := by unfold cutAt; rw [h2, if_pos (by omega)]
    try simp only [q_bind_some, castInt_int, q_castBool, q_castStr, q_castPtr, q_castFn, q_castAgg, q_castTuple, q_uncons, q_isNil, q_sl, q_nils, q_emp, q_ptr, q_nilp, q_fn, q_cond_true, q_cond_false, Bool.not_true, Bool.not_false, decide_true, decide_false, List.cons_append, List.nil_append, h2, show decide ((0 : Int) ≤ -1) = false from rfl]
    exact W.ret ⟨by rw [e]; simp only; rw [← ba_self s]; rfl, rfl⟩
  · refine ⟨true, Runs.of (W.to (fun k _ => internal_stringslite_Cut.eq k _ _ _) ?_)⟩
    refine W.run (index_runs s c) ?_
    have e : cutAt c s.data.toList = (s.data.toList.take i, s.data.toList.drop (i + 1)) := by unfold cutAt; rw [h2, if_neg (by omega), Int.toNat_natCast]
    have hw : IntKind.wrap .i64 ((i : Int) + (((⟨#[c]⟩ : ByteArray).size : Nat) : Int)) = ((i + 1 : Nat) : Int) := by
      have : (⟨#[c]⟩ : ByteArray).size = 1 := rfl
      rw [this, wrap_id (by omega) (by omega)]
      omega
    try simp only [q_bind_some, castInt_int, q_castBool, q_castStr, q_castPtr, q_castFn, q_castAgg, q_castTuple, q_uncons, q_isNil, q_sl, q_nils, q_emp, q_ptr, q_nilp, q_fn, q_cond_true, q_cond_false, Bool.not_true, Bool.not_false, decide_true, decide_false, List.cons_append, List.nil_append, h2, decide_eq_true (show (0 : Int) ≤ (i : Int) by omega), hw, sub_to (show i ≤ s.size by omega), sub_from (show i + 1 ≤ s.size by omega)]
    exact W.ret ⟨by rw [e], rfl⟩
/-- Without the byte at its end. -/
def trimL (c : UInt8) (l : List UInt8) : List UInt8 := if l.drop (l.length - 1) = [c] then l.take (l.length - 1) else l
theorem trim_at (c : UInt8) (l : List UInt8) : trimL c (l ++ [c]) = l := by
  unfold trimL
  have h : (l ++ [c]).length - 1 = l.length := by simp
  rw [h, List.drop_left, if_pos rfl, List.take_left]
theorem trim_le (c : UInt8) (l : List UInt8) : (trimL c l).length ≤ l.length := by
  unfold trimL
  split
  · rw [List.length_take]; omega
  · exact Nat.le_refl _
theorem trim_runs {σ : Heap} (s : ByteArray) (c : UInt8) (hs : s.size ≤ 1048576) : Runs G n_strings_TrimSuffix [.str s, .str ⟨#[c]⟩] σ (.str (ba (trimL c s.data.toList))) σ := by
  have hl : s.data.toList.length = s.size := by simp
  have h1 : (⟨#[c]⟩ : ByteArray).size = 1 := rfl
  suffices h : Runs G n_internal_stringslite_TrimSuffix [.str s, .str ⟨#[c]⟩] σ (.str (ba (trimL c s.data.toList))) σ by
    refine Runs.of (W.to (fun k _ => strings_TrimSuffix.eq k _ _ _) ?_)
    refine W.run h ?_
    try simp only [q_bind_some, castInt_int, q_castBool, q_castStr, q_castPtr, q_castFn, q_castAgg, q_castTuple, q_uncons, q_isNil, q_sl, q_nils, q_emp, q_ptr, q_nilp, q_fn, q_cond_true, q_cond_false, Bool.not_true, Bool.not_false, decide_true, decide_false, List.cons_append, List.nil_append]
    exact W.ret ⟨rfl, rfl⟩
  refine Runs.of (W.to (fun k _ => internal_stringslite_TrimSuffix.eq k _ _ _) ?_)
  by_cases h0 : s.size = 0
  · have c1 : Runs G n_internal_stringslite_HasSuffix [.str s, .str ⟨#[c]⟩] σ (.bool false) σ := by
      refine Runs.of (W.to (fun k _ => internal_stringslite_HasSuffix.eq k _ _ _) ?_)
      try simp only [q_bind_some, castInt_int, q_castBool, q_castStr, q_castPtr, q_castFn, q_castAgg, q_castTuple, q_uncons, q_isNil, q_sl, q_nils, q_emp, q_ptr, q_nilp, q_fn, q_cond_true, q_cond_false, Bool.not_true, Bool.not_false, decide_true, decide_false, List.cons_append, List.nil_append, decide_eq_false (show ¬ (((⟨#[c]⟩ : ByteArray).size : Nat) : Int) ≤ (s.size : Int) by rw [h1]; omega)]
      exact W.ret ⟨rfl, rfl⟩
    refine W.run c1 ?_
    try simp only [q_bind_some, castInt_int, q_castBool, q_castStr, q_castPtr, q_castFn, q_castAgg, q_castTuple, q_uncons, q_isNil, q_sl, q_nils, q_emp, q_ptr, q_nilp, q_fn, q_cond_true, q_cond_false, Bool.not_true, Bool.not_false, decide_true, decide_false, List.cons_append, List.nil_append]
    have e : s.data.toList = [] := List.length_eq_zero_iff.1 (by omega)
    refine W.ret ⟨?_, rfl⟩
    conv => lhs; rw [ba_self s]
    rw [e]
    rfl
  · have hw : IntKind.wrap .i64 ((s.size : Int) - (((⟨#[c]⟩ : ByteArray).size : Nat) : Int)) = ((s.size - 1 : Nat) : Int) := by rw [h1, wrap_id (by omega) (by omega)]; omega
    have hd : decide (ba (s.data.toList.drop (s.size - 1)) = ⟨#[c]⟩) = decide (s.data.toList.drop (s.size - 1) = [c]) := by
      rw [decide_eq_decide]
      constructor
      · intro h
        exact congrArg (fun b : ByteArray => b.data.toList) h
      · intro h
        rw [h]
        rfl
    have c1 : Runs G n_internal_stringslite_HasSuffix [.str s, .str ⟨#[c]⟩] σ (.bool (decide (s.data.toList.drop (s.size - 1) = [c]))) σ := by
      refine Runs.of (W.to (fun k _ => internal_stringslite_HasSuffix.eq k _ _ _) ?_)
      try simp only [q_bind_some, castInt_int, q_castBool, q_castStr, q_castPtr, q_castFn, q_castAgg, q_castTuple, q_uncons, q_isNil, q_sl, q_nils, q_emp, q_ptr, q_nilp, q_fn, q_cond_true, q_cond_false, Bool.not_true, Bool.not_false, decide_true, decide_false, List.cons_append, List.nil_append, decide_eq_true (show (((⟨#[c]⟩ : ByteArray).size : Nat) : Int) ≤ (s.size : Int) by rw [h1]; omega), hw, sub_from (show s.size - 1 ≤ s.size by omega)]
      exact W.ret ⟨by rw [hd], rfl⟩
    refine W.run c1 ?_
    unfold trimL
    rw [hl]
    by_cases hx : s.data.toList.drop (s.size - 1) = [c]
    · rw [if_pos hx]
      try simp only [q_bind_some, castInt_int, q_castBool, q_castStr, q_castPtr, q_castFn, q_castAgg, q_castTuple, q_uncons, q_isNil, q_sl, q_nils, q_emp, q_ptr, q_nilp, q_fn, q_cond_true, q_cond_false, Bool.not_true, Bool.not_false, decide_true, decide_false, List.cons_append, List.nil_append, decide_eq_true hx, hw, sub_to (show s.size - 1 ≤ s.size by omega)]
      exact W.ret ⟨rfl, rfl⟩
    · rw [if_neg hx]
      try simp only [q_bind_some, castInt_int, q_castBool, q_castStr, q_castPtr, q_castFn, q_castAgg, q_castTuple, q_uncons, q_isNil, q_sl, q_nils, q_emp, q_ptr, q_nilp, q_fn, q_cond_true, q_cond_false, Bool.not_true, Bool.not_false, decide_true, decide_false, List.cons_append, List.nil_append, decide_eq_false hx]
      exact W.ret ⟨by rw [← ba_self s], rfl⟩
/-- The reference's l23Cut. -/
theorem l23Cut_ends {σ : Heap} (s : ByteArray) (c : UInt8) (hs : s.size ≤ 1048576) : HM.Ends G n_spec_l23Cut [.str s, .int .u8 (c.toNat : Int)] σ (fun w σ' => GrS σ.length σ' w ((splitL c s.data.toList).map ba) ∧ Lh σ σ') := by
  refine HM.Ends.mk (W.to (fun k _ => spec_l23Cut.eq k _ _ _) ?_)
  have hls := ba_list s
  have hcut : ∀ i, i < s.size → ∃ b, s.data.toList[i]? = some b ∧ s.data.toList.take (i + 1) = s.data.toList.take i ++ [b] ∧ sbyte s (i : Int) = some (b.toNat : Int) := fun i hi => by
    have hb : s.data.toList[i]? = some (s.data.toList[i]'(by omega)) := List.getElem?_eq_getElem _
    refine ⟨_, hb, take_next' hb, ?_⟩
    have e : s.data.toList[i]'(by omega) = s[i] := by
      obtain ⟨⟨l⟩⟩ := s
      rfl
    rw [e]
    exact sbyte_at hi
  refine W.loop (S := Nat × Nat × V × Heap) (fun x => x.1 ≤ s.size + 1 ∧ Lh σ x.2.2.2 ∧ (x.1 ≤ s.size → x.2.1 ≤ x.1 ∧ GrS σ.length x.2.2.2 x.2.2.1 ((cutF c ([], []) (s.data.toList.take x.1)).1.map ba) ∧ (s.data.toList.take x.1).drop x.2.1 = (cutF c ([], []) (s.data.toList.take x.1)).2) ∧ (x.1 = s.size + 1 → GrS σ.length x.2.2.2 x.2.2.1 ((splitL c s.data.toList).map ba)))
    (fun x => [.v (.str s), .v (.int .u8 (c.toNat : Int)), .v x.2.2.1, .v (.int .i64 (x.2.1 : Int)), .v (.int .i64 (x.1 : Int))]) (fun x => x.2.2.2) (fun x => s.size + 1 - x.1) (fun ⟨i, f, v, σi⟩ ⟨hi, hl, h1, h2⟩ => ?_)
    (0, 0, .sl σ.length 0 0 true, hnew σ 1 []) ⟨Nat.zero_le _, Lh.new _ _ _, fun _ => ⟨Nat.le_refl _, GrS.new σ true, rfl⟩, fun h => by simp at h⟩
  simp only at hi hl h1 h2 ⊢
  refine W.to (fun k _ => by rw [spec_l23Cut.L0_step]) ?_
  refine B.ite (fun hlt => ?_) fun hlt => ?_
  rotate_left
  · obtain rfl : i = s.size + 1 := by omega
    try simp only [q_bind_some, castInt_int, q_castBool, q_castStr, q_castPtr, q_castFn, q_castAgg, q_castTuple, q_uncons, q_isNil, q_sl, q_nils, q_emp, q_ptr, q_nilp, q_fn, q_cond_true, q_cond_false, Bool.not_true, Bool.not_false, decide_true, decide_false, List.cons_append, List.nil_append, spec_l23Cut.A0_x0]
    exact W.ret ⟨h2 rfl, hl⟩
  have hi' : i ≤ s.size := by omega
  obtain ⟨hf, hg, hd⟩ := h1 hi'
  have hcl := cutF_len c (s.data.toList.take i) [] []
  rw [List.length_take] at hcl
  simp only [List.length_nil] at hcl
  have hnext : IntKind.wrap .i64 ((i : Int) + 1) = ((i + 1 : Nat) : Int) := by rw [wrap_id (by omega) (by omega)]; omega
  by_cases he : i = s.size
  · subst he
    obtain ⟨v', σ', a1, a2, a3, _⟩ := hg.app' (ba ((s.data.toList.take s.size).drop f)) (by rw [List.length_map]; omega)
    try simp only [q_bind_some, castInt_int, q_castBool, q_castStr, q_castPtr, q_castFn, q_castAgg, q_castTuple, q_uncons, q_isNil, q_sl, q_nils, q_emp, q_ptr, q_nilp, q_fn, q_cond_true, q_cond_false, Bool.not_true, Bool.not_false, decide_true, decide_false, List.cons_append, List.nil_append, sub_mid hf (Nat.le_refl _), a1, hnext]
    refine W.again (s.size + 1, s.size + 1, v', σ') ⟨Nat.le_refl _, a3 σ (Nat.le_refl _) hl, fun h => absurd h (by simp only; omega), fun _ => ?_⟩ (by simp only; omega) rfl rfl
    rw [hd] at a2
    have e : s.data.toList.take s.size = s.data.toList := List.take_of_length_le (by omega)
    rw [e] at a2
    unfold splitL
    rw [List.map_append]
    exact a2
  · obtain ⟨b, b1, b2, b3⟩ := hcut i (by omega)
    have hne : decide ((i : Int) = (s.size : Int)) = false := decide_eq_false (by omega)
    have hstep : cutF c ([], []) (s.data.toList.take (i + 1)) = if b = c then ((cutF c ([], []) (s.data.toList.take i)).1 ++ [(cutF c ([], []) (s.data.toList.take i)).2], []) else ((cutF c ([], []) (s.data.toList.take i)).1, (cutF c ([], []) (s.data.toList.take i)).2 ++ [b]) := by
      rw [b2, cutF_app]
      rfl
    have hbc : decide ((b.toNat : Int) = (c.toNat : Int)) = decide (b = c) := by
      rw [decide_eq_decide]
      exact ⟨fun h => UInt8.toNat_inj.1 (by omega), fun h => by rw [h]⟩
    have hlen : (s.data.toList.take i).length = i := by rw [List.length_take]; omega
    by_cases hc : b = c
    · rw [if_pos hc] at hstep
      obtain ⟨v', σ', a1, a2, a3, _⟩ := hg.app' (ba ((s.data.toList.take i).drop f)) (by rw [List.length_map]; omega)
      try simp only [q_bind_some, castInt_int, q_castBool, q_castStr, q_castPtr, q_castFn, q_castAgg, q_castTuple, q_uncons, q_isNil, q_sl, q_nils, q_emp, q_ptr, q_nilp, q_fn, q_cond_true, q_cond_false, Bool.not_true, Bool.not_false, decide_true, decide_false, List.cons_append, List.nil_append, hne, b3, hbc, decide_eq_true hc, sub_mid hf hi', a1, hnext]
      refine W.again (i + 1, i + 1, v', σ') ⟨by show i + 1 ≤ s.size + 1; omega, a3 σ (Nat.le_refl _) hl, fun _ => ⟨Nat.le_refl _, ?_, ?_⟩, fun h => absurd h (by simp only; omega)⟩ (by simp only; omega) rfl rfl
      · show GrS _ _ _ ((cutF c ([], []) (s.data.toList.take (i + 1))).1.map ba)
        rw [hstep, List.map_append]
        rw [hd] at a2
        exact a2
      · show (s.data.toList.take (i + 1)).drop (i + 1) = (cutF c ([], []) (s.data.toList.take (i + 1))).2
        rw [hstep]
        exact List.drop_of_length_le (by rw [List.length_take]; omega)
    · rw [if_neg hc] at hstep
      try simp only [q_bind_some, castInt_int, q_castBool, q_castStr, q_castPtr, q_castFn, q_castAgg, q_castTuple, q_uncons, q_isNil, q_sl, q_nils, q_emp, q_ptr, q_nilp, q_fn, q_cond_true, q_cond_false, Bool.not_true, Bool.not_false, decide_true, decide_false, List.cons_append, List.nil_append, hne, b3, hbc, decide_eq_false hc, hnext]
      refine W.again (i + 1, f, v, σi) ⟨by show i + 1 ≤ s.size + 1; omega, hl, fun _ => ⟨by show f ≤ i + 1; omega, ?_, ?_⟩, fun h => absurd h (by simp only; omega)⟩ (by simp only; omega) rfl rfl
      · show GrS _ _ _ ((cutF c ([], []) (s.data.toList.take (i + 1))).1.map ba)
        rw [hstep]
        exact hg
      · show (s.data.toList.take (i + 1)).drop f = (cutF c ([], []) (s.data.toList.take (i + 1))).2
        rw [hstep, b2, List.drop_append_of_le_length (by omega), hd]
/-- The reference's l23Find. -/
theorem l23Find_runs {σ : Heap} (s : ByteArray) (c : UInt8) (hs : s.size ≤ 1048576) : Runs G n_spec_l23Find [.str s, .int .u8 (c.toNat : Int)] σ (.int .i64 (Lib.indexByte s.data.toList c)) σ := by
  refine Runs.of (W.to (fun k _ => spec_l23Find.eq k _ _ _) ?_)
  have hls := ba_list s
  have hcut : ∀ i, i < s.size → ∃ b, s.data.toList[i]? = some b ∧ s.data.toList.take (i + 1) = s.data.toList.take i ++ [b] ∧ sbyte s (i : Int) = some (b.toNat : Int) := fun i hi => by
    have hb : s.data.toList[i]? = some (s.data.toList[i]'(by omega)) := List.getElem?_eq_getElem _
    refine ⟨_, hb, take_next' hb, ?_⟩
    have e : s.data.toList[i]'(by omega) = s[i] := by
      obtain ⟨⟨l⟩⟩ := s
      rfl
    rw [e]
    exact sbyte_at hi
  refine W.loop (S := Nat) (fun i => i ≤ s.size ∧ c ∉ s.data.toList.take i) (fun i => [.v (.str s), .v (.int .u8 (c.toNat : Int)), .v (.int .i64 (i : Int))]) (fun _ => σ) (fun i => s.size - i) (fun i ⟨hi, h1⟩ => ?_)
    0 ⟨Nat.zero_le _, by simp⟩
  refine W.to (fun k _ => by rw [spec_l23Find.L0_step]) ?_
  refine B.ite (fun hlt => ?_) fun hlt => ?_
  · have hil : i < s.size := by omega
    obtain ⟨b, b1, b2, b3⟩ := hcut i hil
    have hbc : decide ((b.toNat : Int) = (c.toNat : Int)) = decide (b = c) := by
      rw [decide_eq_decide]
      exact ⟨fun h => UInt8.toNat_inj.1 (by omega), fun h => by rw [h]⟩
    by_cases hc : b = c
    · try simp only [q_bind_some, castInt_int, q_castBool, q_castStr, q_castPtr, q_castFn, q_castAgg, q_castTuple, q_uncons, q_isNil, q_sl, q_nils, q_emp, q_ptr, q_nilp, q_fn, q_cond_true, q_cond_false, Bool.not_true, Bool.not_false, decide_true, decide_false, List.cons_append, List.nil_append, b3, hbc, decide_eq_true hc, spec_l23Find.A0_ret]
      subst hc
      have hs2 := split_cut (by omega) b1
      have := idx_at h1 (s.data.toList.drop (i + 1))
      rw [← hs2, List.length_take] at this
      exact W.ret ⟨by rw [this]; congr 1; omega, rfl⟩
    · try simp only [q_bind_some, castInt_int, q_castBool, q_castStr, q_castPtr, q_castFn, q_castAgg, q_castTuple, q_uncons, q_isNil, q_sl, q_nils, q_emp, q_ptr, q_nilp, q_fn, q_cond_true, q_cond_false, Bool.not_true, Bool.not_false, decide_true, decide_false, List.cons_append, List.nil_append, b3, hbc, decide_eq_false hc, wrap_next hil (by omega)]
      exact W.again (i + 1) ⟨by omega, by rw [b2]; simp [h1, Ne.symm hc]⟩ (by omega) rfl rfl
  · obtain rfl : i = s.size := by omega
    try simp only [q_bind_some, castInt_int, q_castBool, q_castStr, q_castPtr, q_castFn, q_castAgg, q_castTuple, q_uncons, q_isNil, q_sl, q_nils, q_emp, q_ptr, q_nilp, q_fn, q_cond_true, q_cond_false, Bool.not_true, Bool.not_false, decide_true, decide_false, List.cons_append, List.nil_append, spec_l23Find.A0_x0]
    rw [List.take_of_length_le (by omega)] at h1
    rcases idx_cases c s.data.toList with ⟨_, h2⟩ | ⟨i, _, _, h3, _⟩
    · exact W.ret ⟨by rw [h2], rfl⟩
    · exact absurd (List.mem_of_getElem? h3) h1
end Go.R

/- Names: the words that are names. -/
set_option linter.unusedVariables false
set_option linter.unusedSimpArgs false
namespace Go.R
open Go.HM Go.Proofs
theorem index_string_runs {σ : Heap} {v : V} {l : List ByteArray} (hf : l.length ≤ 9223372036854775807) (h : RepS 1 StrRep σ v l) (s : ByteArray) :
    ∃ n : Int, (0 ≤ n ↔ s ∈ l) ∧ Runs G n_slices_Index_string_string [v, .str s] σ (.int .i64 n) σ := by
  obtain ⟨w, σ', ⟨rfl, n, rfl, hn⟩, he⟩ := loop (L := slices_Index_string_string.L0) (A := slices_Index_string_string.A0) (S := Nat)
    (Inv := fun i => i ≤ l.length ∧ ∀ j x, j < i → l[j]? = some x → x ≠ s) (Good := fun w σ' => σ' = σ ∧ ∃ n : Int, w = .int .i64 n ∧ (0 ≤ n ↔ s ∈ l))
    (vals := fun i => [.v v, .v (.str s), .v (.int .i64 (l.length : Int)), .v (.int .i64 (i : Int))]) (hp := fun _ => σ) (far := fun i => l.length - i) (fun i ⟨hi, hne⟩ => by
      by_cases hlt : i < l.length
      · obtain ⟨r, o, hv, cs, hr, hP⟩ := h.at hlt
        unfold StrRep at hP
        subst hP
        by_cases hs : s = l[i]
        · refine .inl ⟨_, _, ⟨rfl, (i : Int), rfl, ?_⟩, Ev.now fun k m => ?_⟩
          · simp; rw [hs]; exact List.getElem_mem hlt
          · rw [slices_Index_string_string.L0_step]
            simp [hlt, hv, hr, ← hs, slices_Index_string_string.A0_ret]
        · refine .inr ⟨i + 1, ⟨hlt, fun j x hj hx => ?_⟩, by omega, Ev.now fun k m => ?_⟩
          · by_cases hji : j = i
            · subst hji
              rw [List.getElem?_eq_getElem hlt] at hx
              injection hx with hx
              rw [← hx]; exact fun hc => hs hc.symm
            · exact hne j x (by omega) hx
          · rw [slices_Index_string_string.L0_step]
            have hw : IntKind.wrap .i64 ((i : Int) + 1) = ((i + 1 : Nat) : Int) := wrap_id (by omega) (by omega)
            simp [hlt, hv, hr, hs]
            rw [hw]
            rfl
      · refine .inl ⟨_, _, ⟨rfl, -1, rfl, ?_⟩, Ev.now fun k m => ?_⟩
        · simp
          intro hc
          obtain ⟨j, hj, hjs⟩ := List.getElem_of_mem hc
          exact hne j _ (by omega) (List.getElem?_eq_getElem hj) hjs
        · rw [slices_Index_string_string.L0_step]
          simp [hlt, slices_Index_string_string.A0_x0]) 0 ⟨Nat.zero_le _, fun j x hj => absurd hj (by omega)⟩
  refine ⟨n, hn, Runs.mk ((Ev.far l.length he).mono fun k ⟨e, hk⟩ => ?_)⟩
  have e2 := e k (by omega)
  rw [slices_Index_string_string.eq, h.vlen]
  exact e2
theorem contains_string_runs {σ : Heap} {v : V} {l : List ByteArray} (hf : l.length ≤ 9223372036854775807) (h : RepS 1 StrRep σ v l) (s : ByteArray) :
    Runs G n_slices_Contains_string_string [v, .str s] σ (.bool (decide (s ∈ l))) σ := by
  obtain ⟨n, hn, c⟩ := index_string_runs hf h s
  refine Runs.mk (c.mono fun k e => ?_)
  rw [slices_Contains_string_string.eq]
  simp [e, hn]
theorem inRange_runs {σ : Heap} (n a b : Int) : Runs G n_impl_inRange [.int .i64 n, .int .i64 a, .int .i64 b] σ (.bool (decide (a ≤ n ∧ n ≤ b))) σ :=
  Runs.mk (Ev.now fun k => by
    rw [impl_inRange.eq]
    by_cases h : a ≤ n <;> simp [h])
def kept : List ByteArray := [⟨#[117, 115, 101]⟩, ⟨#[102, 117, 110]⟩, ⟨#[112, 117, 98]⟩, ⟨#[109, 97, 105, 110]⟩, ⟨#[105, 110, 116]⟩, ⟨#[98, 111, 111, 108]⟩, ⟨#[114, 111, 119]⟩, ⟨#[105, 102]⟩, ⟨#[108, 101, 116]⟩, ⟨#[116, 114, 117, 101]⟩, ⟨#[102, 97, 108, 115, 101]⟩, ⟨#[97, 110, 100]⟩, ⟨#[111, 114]⟩, ⟨#[110, 111, 116]⟩, ⟨#[97, 116]⟩, ⟨#[108, 101, 110]⟩, ⟨#[112, 117, 116]⟩, ⟨#[106, 111, 105, 110]⟩, ⟨#[112, 114, 105, 110, 116]⟩]
theorem kept_rep (σ : Heap) : RepS 1 StrRep (hnew σ 1 (kept.map .str)) (.sl σ.length 0 19 true) kept := RepS.lit σ kept .str (fun _ => rfl) true 19 rfl
theorem isOwn_gives (σ : Heap) (s : ByteArray) : Gives G n_impl_isOwn [.str s] σ (.bool (decide (s ∈ kept))) := by
  have c := contains_string_runs (by decide) (kept_rep σ) s
  refine Gives.mk (σ' := hnew σ 1 (kept.map .str)) (Lh.new _ _ _) (c.mono fun k e => ?_)
  rw [impl_isOwn.eq]
  change (hcall G k n_slices_Contains_string_string [(.sl σ.length 0 19 true), .str s] (hnew σ 1 (kept.map .str))).bind _ = _
  rw [e]
  rfl
def Letters (s : ByteArray) : Prop := ∀ i (h : i < s.size), 97 ≤ s[i].toNat ∧ s[i].toNat ≤ 122
def IsName (s : ByteArray) : Prop := Letters s ∧ (1 ≤ s.size ∧ s.size ≤ 8) ∧ ¬ s ∈ kept
noncomputable instance (s : ByteArray) : Decidable (IsName s) := Classical.propDecidable _
theorem implLexName_gives (σ : Heap) (s : ByteArray) (hf : s.size ≤ 9223372036854775807) : Gives G n_impl_LexName [.str s] σ (.bool (decide (IsName s))) := by
  obtain ⟨σ1, l1, c1⟩ := isOwn_gives σ s
  have c2 := inRange_runs (σ := σ) (s.size : Int) 1 8
  obtain ⟨w, σ', ⟨hl, rfl⟩, he⟩ := loop (L := impl_LexName.L0) (A := impl_LexName.A0) (S := Nat)
    (Inv := fun i => i ≤ s.size ∧ ∀ j (h : j < s.size), j < i → 97 ≤ s[j].toNat ∧ s[j].toNat ≤ 122) (Good := fun w σ' => Lh σ σ' ∧ w = .bool (decide (IsName s)))
    (vals := fun i => [.v (.str s), .v (.int .i64 (s.size : Int)), .v (.int .i64 (i : Int))]) (hp := fun _ => σ) (far := fun i => s.size - i) (fun i ⟨hi, hok⟩ => by
      by_cases hlt : i < s.size
      · have hb := sbyte_at hlt
        by_cases hc : 97 ≤ s[i].toNat ∧ s[i].toNat ≤ 122
        · refine .inr ⟨i + 1, ⟨hlt, fun j hj hji => ?_⟩, by omega, Ev.now fun k m => ?_⟩
          · by_cases h : j = i
            · subst h; exact hc
            · exact hok j hj (by omega)
          · rw [impl_LexName.L0_step]
            have hw : IntKind.wrap .i64 ((i : Int) + 1) = ((i + 1 : Nat) : Int) := wrap_id (by omega) (by omega)
            have h1 : ¬ (s[i].toNat : Int) < 97 := by omega
            have h2 : ¬ (122 : Int) < (s[i].toNat : Int) := by omega
            simp only [hb, Option.bind_some, h1, h2, decide_false, cond_false, hw]
            simp [hlt]
        · refine .inl ⟨_, σ, ⟨Lh.refl _, rfl⟩, Ev.now fun k m => ?_⟩
          have hn : ¬ IsName s := fun h => hc (h.1 i hlt)
          rw [impl_LexName.L0_step]
          by_cases h1 : (s[i].toNat : Int) < 97
          · simp only [hb, Option.bind_some, h1, decide_true, cond_true]
            simp [hlt, impl_LexName.A0_ret, hn]
          · have h2 : (122 : Int) < (s[i].toNat : Int) := by omega
            simp only [hb, Option.bind_some, h1, h2, decide_false, cond_false, decide_true, cond_true]
            simp [hlt, impl_LexName.A0_ret, hn]
      · have hl : Letters s := fun j hj => hok j hj (by omega)
        by_cases hr : (1 : Int) ≤ s.size ∧ (s.size : Int) ≤ 8
        · refine .inl ⟨_, σ1, ⟨l1, rfl⟩, (c2.and c1).mono fun k ⟨e2, e1⟩ m => ?_⟩
          have : IsName s ↔ ¬ s ∈ kept := ⟨fun h => h.2.2, fun h => ⟨hl, by omega, h⟩⟩
          rw [impl_LexName.L0_step]
          simp only [Int.ofNat_lt, hlt, decide_false, cond_false, Option.bind_some, impl_LexName.A0_x0, e2, hr, and_self, decide_true, castBool_bool, cond_true, e1]
          simp [this]
        · refine .inl ⟨_, σ, ⟨Lh.refl _, rfl⟩, c2.mono fun k e2 m => ?_⟩
          have : ¬ IsName s := fun h => hr (by have := h.2.1; omega)
          rw [impl_LexName.L0_step]
          simp only [Int.ofNat_lt, hlt, decide_false, cond_false, Option.bind_some, impl_LexName.A0_x0, e2, hr, castBool_bool]
          simp [this]) 0 ⟨Nat.zero_le _, fun j hj hji => absurd hji (by omega)⟩
  refine Gives.mk hl ((Ev.far s.size he).mono fun k ⟨e, hk⟩ => ?_)
  rw [impl_LexName.eq]
  exact e k (by omega)
theorem l1Kept_gives (σ : Heap) (s : ByteArray) : Gives G n_spec_l1Kept [.str s] σ (.bool (decide (s ∈ kept))) := by
  have h := kept_rep σ
  obtain ⟨w, σ', ⟨hl, rfl⟩, he⟩ := loop (L := spec_l1Kept.L0) (A := spec_l1Kept.A0) (S := Nat)
    (Inv := fun i => i ≤ kept.length ∧ ∀ j x, j < i → kept[j]? = some x → x ≠ s) (Good := fun w σ' => Lh σ σ' ∧ w = .bool (decide (s ∈ kept)))
    (vals := fun i => [.v (.str s), .v (.sl σ.length 0 19 true), .v (.int .i64 (i : Int))]) (hp := fun _ => hnew σ 1 (kept.map .str)) (far := fun i => kept.length - i) (fun i ⟨hi, hne⟩ => by
      by_cases hlt : i < kept.length
      · obtain ⟨r, o, hv, cs, hr, hP⟩ := h.at hlt
        unfold StrRep at hP
        subst hP
        by_cases hs : kept[i] = s
        · refine .inl ⟨_, hnew σ 1 (kept.map .str), ⟨Lh.new _ _ _, rfl⟩, Ev.now fun k m => ?_⟩
          have hm : s ∈ kept := hs ▸ List.getElem_mem hlt
          rw [spec_l1Kept.L0_step, h.vlen]
          simp [hlt, hv, hr, hs, spec_l1Kept.A0_ret, hm]
        · refine .inr ⟨i + 1, ⟨hlt, fun j x hj hx => ?_⟩, by omega, Ev.now fun k m => ?_⟩
          · by_cases hji : j = i
            · subst hji
              rw [List.getElem?_eq_getElem hlt] at hx
              injection hx with hx
              rw [← hx]; exact hs
            · exact hne j x (by omega) hx
          · rw [spec_l1Kept.L0_step, h.vlen]
            have hk : kept.length = 19 := rfl
            have hw : IntKind.wrap .i64 ((i : Int) + 1) = ((i + 1 : Nat) : Int) := wrap_id (by omega) (by omega)
            simp [hlt, hv, hr, hs]
            rw [hw]
            rfl
      · refine .inl ⟨_, hnew σ 1 (kept.map .str), ⟨Lh.new _ _ _, rfl⟩, Ev.now fun k m => ?_⟩
        have hm : ¬ s ∈ kept := fun hc => by
          obtain ⟨j, hj, hjs⟩ := List.getElem_of_mem hc
          exact hne j _ (by omega) (List.getElem?_eq_getElem hj) hjs
        rw [spec_l1Kept.L0_step, h.vlen]
        simp [hlt, spec_l1Kept.A0_x0, hm]) 0 ⟨Nat.zero_le _, fun j x hj => absurd hj (by omega)⟩
  refine Gives.mk hl ((Ev.far kept.length he).mono fun k ⟨e, hk⟩ => ?_)
  rw [spec_l1Kept.eq]
  exact e k (by omega)
theorem specLexName_gives (σ : Heap) (s : ByteArray) (hf : s.size ≤ 9223372036854775807) : Gives G n_spec_LexName [.str s] σ (.bool (decide (IsName s))) := by
  by_cases h1 : (s.size : Int) < 1
  · refine Gives.mk (Lh.refl σ) (Ev.now fun k => ?_)
    have : ¬ IsName s := fun h => by have := h.2.1; omega
    rw [spec_LexName.eq]
    simp only [h1, decide_true, cond_true]
    simp [this]
  by_cases h2 : (8 : Int) < (s.size : Int)
  · refine Gives.mk (Lh.refl σ) (Ev.now fun k => ?_)
    have : ¬ IsName s := fun h => by have := h.2.1; omega
    rw [spec_LexName.eq]
    simp only [h1, h2, decide_true, cond_true, decide_false, cond_false]
    simp [this]
  obtain ⟨σ1, l1, c1⟩ := l1Kept_gives σ s
  by_cases h3 : s ∈ kept
  · refine Gives.mk l1 (c1.mono fun k e => ?_)
    have : ¬ IsName s := fun h => h.2.2 h3
    rw [spec_LexName.eq]
    simp only [h1, h2, decide_false, cond_false, e, Option.bind_some, castBool_bool, h3, decide_true, cond_true]
    simp [this]
  obtain ⟨w, σ', ⟨hl, rfl⟩, he⟩ := loop (L := spec_LexName.L0) (A := spec_LexName.A0) (S := Nat)
    (Inv := fun i => i ≤ s.size ∧ ∀ j (h : j < s.size), j < i → 97 ≤ s[j].toNat ∧ s[j].toNat ≤ 122) (Good := fun w σ' => Lh σ σ' ∧ w = .bool (decide (IsName s)))
    (vals := fun i => [.v (.str s), .v (.int .i64 (i : Int))]) (hp := fun _ => σ1) (far := fun i => s.size - i) (fun i ⟨hi, hok⟩ => by
      by_cases hlt : i < s.size
      · have hb := sbyte_at hlt
        by_cases hc : 97 ≤ s[i].toNat ∧ s[i].toNat ≤ 122
        · refine .inr ⟨i + 1, ⟨hlt, fun j hj hji => ?_⟩, by omega, Ev.now fun k m => ?_⟩
          · by_cases h : j = i
            · subst h; exact hc
            · exact hok j hj (by omega)
          · rw [spec_LexName.L0_step]
            have hw : IntKind.wrap .i64 ((i : Int) + 1) = ((i + 1 : Nat) : Int) := wrap_id (by omega) (by omega)
            have h1 : ¬ (s[i].toNat : Int) < 97 := by omega
            have h2 : ¬ (122 : Int) < (s[i].toNat : Int) := by omega
            simp only [hb, Option.bind_some, h1, h2, decide_false, cond_false, hw]
            simp [hlt]
        · refine .inl ⟨_, σ1, ⟨l1, rfl⟩, Ev.now fun k m => ?_⟩
          have hn : ¬ IsName s := fun h => hc (h.1 i hlt)
          rw [spec_LexName.L0_step]
          by_cases h1 : (s[i].toNat : Int) < 97
          · simp only [hb, Option.bind_some, h1, decide_true, cond_true]
            simp [hlt, spec_LexName.A0_ret, hn]
          · have h2 : (122 : Int) < (s[i].toNat : Int) := by omega
            simp only [hb, Option.bind_some, h1, h2, decide_false, cond_false, decide_true, cond_true]
            simp [hlt, spec_LexName.A0_ret, hn]
      · have hl : IsName s := ⟨fun j hj => hok j hj (by omega), by omega, h3⟩
        refine .inl ⟨_, σ1, ⟨l1, rfl⟩, Ev.now fun k m => ?_⟩
        rw [spec_LexName.L0_step]
        simp [hlt, spec_LexName.A0_x0, hl]) 0 ⟨Nat.zero_le _, fun j hj hji => absurd hji (by omega)⟩
  refine Gives.mk hl ((Ev.and c1 (Ev.far s.size he)).mono fun k ⟨e1, e, hk⟩ => ?_)
  rw [spec_LexName.eq]
  simp only [h1, h2, decide_false, cond_false, e1, Option.bind_some, castBool_bool, h3]
  exact e k (by omega)
end Go.R

/- The words of the types. -/
set_option linter.unusedVariables false
set_option linter.unusedSimpArgs false
namespace Go.R
open Go.HM Go.Proofs
/-- The variable holds the three words. -/
abbrev TypeW (σ : Heap) : Prop := σ[0]? = some (some ⟨[.str (⟨#[105, 110, 116]⟩ : ByteArray), .str (⟨#[98, 111, 111, 108]⟩ : ByteArray), .str (⟨#[114, 111, 119]⟩ : ByteArray)], 1, true, 0⟩)
def tword (n : Int) : ByteArray := if n = 1 then ⟨#[105, 110, 116]⟩ else if n = 2 then ⟨#[98, 111, 111, 108]⟩ else if n = 3 then ⟨#[114, 111, 119]⟩ else ⟨#[]⟩
theorem isTy_runs (a : Int) (σ : Heap) : Runs G n_impl_isType [.int .i64 a] σ (.bool (decide (1 ≤ a ∧ a ≤ 3))) σ := by
  refine Runs.of (W.to (fun k _ => impl_isType.eq k _ _) ?_)
  refine W.run (inRange_runs _ _ _) ?_
  try simp only [q_bind_some, castInt_int, q_castBool, q_castStr, q_castPtr, q_castFn, q_castAgg, q_castTuple, q_uncons, q_isNil, q_sl, q_nils, q_emp, q_ptr, q_nilp, q_fn, q_cond_true, q_cond_false, Bool.not_true, Bool.not_false, decide_true, decide_false, List.cons_append, List.nil_append]
  exact W.ret ⟨rfl, rfl⟩
theorem typeW_at {σ : Heap} (h : TypeW σ) : rdc σ 0 0 1 = some [.str ⟨#[105, 110, 116]⟩] ∧ rdc σ 0 1 1 = some [.str ⟨#[98, 111, 111, 108]⟩] ∧ rdc σ 0 2 1 = some [.str ⟨#[114, 111, 119]⟩] := by
  simp only [rdc, h]
  exact ⟨rfl, rfl, rfl⟩
theorem implTreeType_runs (a : Int) (σ : Heap) (h : TypeW σ) : Runs G n_impl_TreeType [.int .i64 a] σ (.str (tword a)) σ := by
  obtain ⟨t1, t2, t3⟩ := typeW_at h
  refine Runs.of (W.to (fun k _ => impl_TreeType.eq k _ _) ?_)
  refine W.run (isTy_runs _ _) ?_
  by_cases h1 : a = 1
  · subst h1
    try simp only [q_bind_some, castInt_int, q_castBool, q_castStr, q_castPtr, q_castFn, q_castAgg, q_castTuple, q_uncons, q_isNil, q_sl, q_nils, q_emp, q_ptr, q_nilp, q_fn, q_cond_true, q_cond_false, Bool.not_true, Bool.not_false, decide_true, decide_false, List.cons_append, List.nil_append, show IntKind.wrap .i64 ((1 : Int) - 1) = 0 by decide, show decide ((1 : Int) ≤ 1 ∧ (1 : Int) ≤ 3) = true from rfl, show ((0 : Int) ≤ 0 ∧ (0 : Int) < ((3 : Nat) : Int)) = True by simp, show 0 + (0 : Int).toNat * 1 = 0 from rfl, t1]
    exact W.ret ⟨rfl, rfl⟩
  by_cases h2 : a = 2
  · subst h2
    try simp only [q_bind_some, castInt_int, q_castBool, q_castStr, q_castPtr, q_castFn, q_castAgg, q_castTuple, q_uncons, q_isNil, q_sl, q_nils, q_emp, q_ptr, q_nilp, q_fn, q_cond_true, q_cond_false, Bool.not_true, Bool.not_false, decide_true, decide_false, List.cons_append, List.nil_append, show IntKind.wrap .i64 ((2 : Int) - 1) = 1 by decide, show decide ((1 : Int) ≤ 2 ∧ (2 : Int) ≤ 3) = true from rfl, show ((0 : Int) ≤ 1 ∧ (1 : Int) < ((3 : Nat) : Int)) = True by simp, show 0 + (1 : Int).toNat * 1 = 1 from rfl, t2]
    exact W.ret ⟨rfl, rfl⟩
  by_cases h3 : a = 3
  · subst h3
    try simp only [q_bind_some, castInt_int, q_castBool, q_castStr, q_castPtr, q_castFn, q_castAgg, q_castTuple, q_uncons, q_isNil, q_sl, q_nils, q_emp, q_ptr, q_nilp, q_fn, q_cond_true, q_cond_false, Bool.not_true, Bool.not_false, decide_true, decide_false, List.cons_append, List.nil_append, show IntKind.wrap .i64 ((3 : Int) - 1) = 2 by decide, show decide ((1 : Int) ≤ 3 ∧ (3 : Int) ≤ 3) = true from rfl, show ((0 : Int) ≤ 2 ∧ (2 : Int) < ((3 : Nat) : Int)) = True by simp, show 0 + (2 : Int).toNat * 1 = 2 from rfl, t3]
    exact W.ret ⟨rfl, rfl⟩
  have hn : decide (1 ≤ a ∧ a ≤ 3) = false := decide_eq_false (by omega)
  try simp only [q_bind_some, castInt_int, q_castBool, q_castStr, q_castPtr, q_castFn, q_castAgg, q_castTuple, q_uncons, q_isNil, q_sl, q_nils, q_emp, q_ptr, q_nilp, q_fn, q_cond_true, q_cond_false, Bool.not_true, Bool.not_false, decide_true, decide_false, List.cons_append, List.nil_append, hn]
  exact W.ret ⟨by rw [tword, if_neg h1, if_neg h2, if_neg h3], rfl⟩
theorem specTreeType_gives (a : Int) (σ : Heap) : Gives G n_spec_TreeType [.int .i64 a] σ (.str (tword a)) := by
  refine Gives.of (W.to (fun k _ => spec_TreeType.eq k _ _) ?_)
  by_cases h0 : a < 1
  · try simp only [q_bind_some, castInt_int, q_castBool, q_castStr, q_castPtr, q_castFn, q_castAgg, q_castTuple, q_uncons, q_isNil, q_sl, q_nils, q_emp, q_ptr, q_nilp, q_fn, q_cond_true, q_cond_false, Bool.not_true, Bool.not_false, decide_true, decide_false, List.cons_append, List.nil_append, decide_eq_true h0]
    exact W.ret ⟨by rw [tword, if_neg (by omega), if_neg (by omega), if_neg (by omega)], Lh.refl _⟩
  by_cases h4 : 3 < a
  · try simp only [q_bind_some, castInt_int, q_castBool, q_castStr, q_castPtr, q_castFn, q_castAgg, q_castTuple, q_uncons, q_isNil, q_sl, q_nils, q_emp, q_ptr, q_nilp, q_fn, q_cond_true, q_cond_false, Bool.not_true, Bool.not_false, decide_true, decide_false, List.cons_append, List.nil_append, decide_eq_false h0, decide_eq_true h4]
    exact W.ret ⟨by rw [tword, if_neg (by omega), if_neg (by omega), if_neg (by omega)], Lh.refl _⟩
  have hr : ∀ (x y z : V), rdc (hnew σ 1 [x, y, z]) σ.length 0 1 = some [x] ∧ rdc (hnew σ 1 [x, y, z]) σ.length 1 1 = some [y] ∧ rdc (hnew σ 1 [x, y, z]) σ.length 2 1 = some [z] := fun x y z => by simp [rdc, hnew]
  obtain ⟨t1, t2, t3⟩ := hr (.str (⟨#[105, 110, 116]⟩ : ByteArray)) (.str (⟨#[98, 111, 111, 108]⟩ : ByteArray)) (.str (⟨#[114, 111, 119]⟩ : ByteArray))
  have h123 : a = 1 ∨ a = 2 ∨ a = 3 := by omega
  rcases h123 with rfl | rfl | rfl
  · try simp only [q_bind_some, castInt_int, q_castBool, q_castStr, q_castPtr, q_castFn, q_castAgg, q_castTuple, q_uncons, q_isNil, q_sl, q_nils, q_emp, q_ptr, q_nilp, q_fn, q_cond_true, q_cond_false, Bool.not_true, Bool.not_false, decide_true, decide_false, List.cons_append, List.nil_append, show IntKind.wrap .i64 ((1 : Int) - 1) = 0 by decide, show decide ((1 : Int) < 1) = false from rfl, show decide ((3 : Int) < 1) = false from rfl, show ((0 : Int) ≤ 0 ∧ (0 : Int) < ((3 : Nat) : Int)) = True by simp, show 0 + (0 : Int).toNat * 1 = 0 from rfl, t1, vidx, if_true]
    exact W.ret ⟨rfl, Lh.new _ _ _⟩
  · try simp only [q_bind_some, castInt_int, q_castBool, q_castStr, q_castPtr, q_castFn, q_castAgg, q_castTuple, q_uncons, q_isNil, q_sl, q_nils, q_emp, q_ptr, q_nilp, q_fn, q_cond_true, q_cond_false, Bool.not_true, Bool.not_false, decide_true, decide_false, List.cons_append, List.nil_append, show IntKind.wrap .i64 ((2 : Int) - 1) = 1 by decide, show decide ((2 : Int) < 1) = false from rfl, show decide ((3 : Int) < 2) = false from rfl, show ((0 : Int) ≤ 1 ∧ (1 : Int) < ((3 : Nat) : Int)) = True by simp, show 0 + (1 : Int).toNat * 1 = 1 from rfl, t2, vidx, if_true]
    exact W.ret ⟨rfl, Lh.new _ _ _⟩
  · try simp only [q_bind_some, castInt_int, q_castBool, q_castStr, q_castPtr, q_castFn, q_castAgg, q_castTuple, q_uncons, q_isNil, q_sl, q_nils, q_emp, q_ptr, q_nilp, q_fn, q_cond_true, q_cond_false, Bool.not_true, Bool.not_false, decide_true, decide_false, List.cons_append, List.nil_append, show IntKind.wrap .i64 ((3 : Int) - 1) = 2 by decide, show decide ((3 : Int) < 1) = false from rfl, show decide ((3 : Int) < 3) = false from rfl, show ((0 : Int) ≤ 2 ∧ (2 : Int) < ((3 : Nat) : Int)) = True by simp, show 0 + (2 : Int).toNat * 1 = 2 from rfl, t3, vidx, if_true]
    exact W.ret ⟨rfl, Lh.new _ _ _⟩
end Go.R

/- Rows of types. -/
set_option linter.unusedVariables false
set_option linter.unusedSimpArgs false
namespace Go.R
open Go.HM Go.Proofs
def IsT (n : Int) : Prop := 1 ≤ n ∧ n ≤ 3
instance (n : Int) : Decidable (IsT n) := inferInstanceAs (Decidable (_ ∧ _))
def Typs (l : List Int) : Prop := l.length ≤ 4 ∧ ∀ t, t ∈ l → IsT t
noncomputable instance (l : List Int) : Decidable (Typs l) := Classical.propDecidable _
theorem any_not {α : Type} (P : α → Prop) [∀ x, Decidable (P x)] (l : List α) [Decidable (∀ x, x ∈ l → P x)] : l.any (fun x => !decide (P x)) = !decide (∀ x, x ∈ l → P x) := by
  rw [Bool.eq_iff_iff]
  simp
theorem isT_runs {σ : Heap} (n : Int) : Runs G n_impl_isType [.int .i64 n] σ (.bool (decide (IsT n))) σ := isTy_runs n σ
theorem slices_IndexFunc_int_int_gives {σ : Heap} {v : V} {l : List Int} (hf : l.length ≤ 1073741824) (h : RepS 1 IntRep σ v l) (f : FuncId) (cap : List V) (p : Int → Bool)
    (hx : ∀ x, x ∈ l → ∀ σ', Lh σ σ' → Gives G f ([.int .i64 x] ++ cap) σ' (.bool (p x))) : Gives G n_slices_IndexFunc_int_int [v, .fn f cap] σ (.int .i64 (fidx p l)) := by
  refine Gives.of (W.to (fun k _ => slices_IndexFunc_int_int.eq k _ _ _) ?_)
  refine W.len h ?_
  refine W.loop (S := Nat × Heap) (fun s => s.1 ≤ l.length ∧ Lh σ s.2 ∧ ∀ (j : Nat) y, j < s.1 → l[j]? = some y → p y = false) (fun s => [.v v, .v (.fn f cap), .v (.int .i64 (l.length : Int)), .v (.int .i64 (s.1 : Int))]) (fun s => s.2) (fun s => l.length - s.1) (fun ⟨i, σi⟩ ⟨hi, hle, hok⟩ => ?_)
    (0, σ) ⟨Nat.zero_le _, Lh.refl _, fun j y hj => absurd hj (Nat.not_lt_zero _)⟩
  simp only at hi hle hok ⊢
  refine W.to (fun k _ => by rw [slices_IndexFunc_int_int.L0_step]) ?_
  try simp only [q_bind_some, Option.bind_assoc, castInt_int, q_castBool, q_castStr, q_castPtr, q_castFn, q_castAgg, q_castTuple, q_uncons, q_isNil, q_sl, q_nils, q_emp, q_ptr, q_nilp, q_fn, q_cond_true, q_cond_false, Bool.not_true, Bool.not_false, decide_true, decide_false, castInt_bind, castBool_bind, castStr_bind, castPtr_bind, castFn_bind, castAgg_bind, castTuple_bind, uncons_bind, isNil_bind, one_bind, cond_bind, ite_bind_, List.cons_append, List.nil_append]
  refine W.ite (fun hlt => ?_) fun hlt => ?_
  · refine W.at h hle (by omega) fun r o cs x hx' hr hP => ?_
    have hm := List.mem_of_getElem? hx'
    have hc := hx x hm σi hle
    unfold IntRep at hP
    subst hP
    try simp only [q_bind_some, Option.bind_assoc, castInt_int, q_castBool, q_castStr, q_castPtr, q_castFn, q_castAgg, q_castTuple, q_uncons, q_isNil, q_sl, q_nils, q_emp, q_ptr, q_nilp, q_fn, q_cond_true, q_cond_false, Bool.not_true, Bool.not_false, decide_true, decide_false, castInt_bind, castBool_bind, castStr_bind, castPtr_bind, castFn_bind, castAgg_bind, castTuple_bind, uncons_bind, isNil_bind, one_bind, cond_bind, ite_bind_, List.cons_append, List.nil_append, hr]
    refine W.give hc fun σ1 l1 => ?_
    try simp only [q_bind_some, Option.bind_assoc, castInt_int, q_castBool, q_castStr, q_castPtr, q_castFn, q_castAgg, q_castTuple, q_uncons, q_isNil, q_sl, q_nils, q_emp, q_ptr, q_nilp, q_fn, q_cond_true, q_cond_false, Bool.not_true, Bool.not_false, decide_true, decide_false, castInt_bind, castBool_bind, castStr_bind, castPtr_bind, castFn_bind, castAgg_bind, castTuple_bind, uncons_bind, isNil_bind, one_bind, cond_bind, ite_bind_, List.cons_append, List.nil_append]
    cases hb : p x with
    | true =>
      try simp only [q_bind_some, Option.bind_assoc, castInt_int, q_castBool, q_castStr, q_castPtr, q_castFn, q_castAgg, q_castTuple, q_uncons, q_isNil, q_sl, q_nils, q_emp, q_ptr, q_nilp, q_fn, q_cond_true, q_cond_false, Bool.not_true, Bool.not_false, decide_true, decide_false, castInt_bind, castBool_bind, castStr_bind, castPtr_bind, castFn_bind, castAgg_bind, castTuple_bind, uncons_bind, isNil_bind, one_bind, cond_bind, ite_bind_, List.cons_append, List.nil_append, slices_IndexFunc_int_int.A0_ret]
      exact W.ret ⟨by rw [fidx_at hx' hb hok], hle.trans l1⟩
    | false =>
      try simp only [q_bind_some, Option.bind_assoc, castInt_int, q_castBool, q_castStr, q_castPtr, q_castFn, q_castAgg, q_castTuple, q_uncons, q_isNil, q_sl, q_nils, q_emp, q_ptr, q_nilp, q_fn, q_cond_true, q_cond_false, Bool.not_true, Bool.not_false, decide_true, decide_false, castInt_bind, castBool_bind, castStr_bind, castPtr_bind, castFn_bind, castAgg_bind, castTuple_bind, uncons_bind, isNil_bind, one_bind, cond_bind, ite_bind_, List.cons_append, List.nil_append, wrap_next (show i < l.length by omega) (by omega)]
      refine W.again (i + 1, σ1) ⟨by show i + 1 ≤ l.length; omega, hle.trans l1, fun j y hj hy => ?_⟩ (by simp only; omega) rfl rfl
      simp only at hj
      by_cases hij : j = i
      · subst hij
        rw [hx'] at hy
        injection hy with hy
        rw [← hy]; exact hb
      · exact hok j y (by omega) hy
  · try simp only [q_bind_some, Option.bind_assoc, castInt_int, q_castBool, q_castStr, q_castPtr, q_castFn, q_castAgg, q_castTuple, q_uncons, q_isNil, q_sl, q_nils, q_emp, q_ptr, q_nilp, q_fn, q_cond_true, q_cond_false, Bool.not_true, Bool.not_false, decide_true, decide_false, castInt_bind, castBool_bind, castStr_bind, castPtr_bind, castFn_bind, castAgg_bind, castTuple_bind, uncons_bind, isNil_bind, one_bind, cond_bind, ite_bind_, List.cons_append, List.nil_append, slices_IndexFunc_int_int.A0_x0]
    exact W.ret ⟨by rw [fidx_none fun j y hy => hok j y (by have := lt_of_get hy; omega) hy], hle⟩

theorem slices_ContainsFunc_int_int_gives {σ : Heap} {v : V} {l : List Int} (hf : l.length ≤ 1073741824) (h : RepS 1 IntRep σ v l) (f : FuncId) (cap : List V) (p : Int → Bool)
    (hx : ∀ x, x ∈ l → ∀ σ', Lh σ σ' → Gives G f ([.int .i64 x] ++ cap) σ' (.bool (p x))) : Gives G n_slices_ContainsFunc_int_int [v, .fn f cap] σ (.bool (l.any p)) := by
  refine Gives.of (W.to (fun k _ => slices_ContainsFunc_int_int.eq k _ _ _) ?_)
  refine W.give (slices_IndexFunc_int_int_gives hf h f cap p hx) fun σ1 l1 => ?_
  try simp only [q_bind_some, Option.bind_assoc, castInt_int, q_castBool, q_castStr, q_castPtr, q_castFn, q_castAgg, q_castTuple, q_uncons, q_isNil, q_sl, q_nils, q_emp, q_ptr, q_nilp, q_fn, q_cond_true, q_cond_false, Bool.not_true, Bool.not_false, decide_true, decide_false, castInt_bind, castBool_bind, castStr_bind, castPtr_bind, castFn_bind, castAgg_bind, castTuple_bind, uncons_bind, isNil_bind, one_bind, cond_bind, ite_bind_, List.cons_append, List.nil_append, fidx_any]
  exact W.ret ⟨rfl, l1⟩

theorem areTypes_gives {σ : Heap} {v : V} {l : List Int} (h : RepS 1 IntRep σ v l) : Gives G n_impl_areTypes [v] σ (.bool (decide (Typs l))) := by
  refine Gives.of (W.to (fun k _ => impl_areTypes.eq k _ _) ?_)
  refine W.len h (W.ite (fun k1 => ?_) fun k1 => ?_)
  · refine W.give (slices_ContainsFunc_int_int_gives (by omega) h n_impl_areTypes_1 [] (fun t => !decide (IsT t)) fun x hx σ' hl => ?_) fun σ1 l1 => ?_
    · refine Gives.of (W.to (fun k _ => impl_areTypes_1.eq k _ _) ?_)
      refine W.run (isT_runs x) ?_
      try simp only [q_bind_some, Option.bind_assoc, castInt_int, q_castBool, q_castStr, q_castPtr, q_castFn, q_castAgg, q_castTuple, q_uncons, q_isNil, q_sl, q_nils, q_emp, q_ptr, q_nilp, q_fn, q_cond_true, q_cond_false, Bool.not_true, Bool.not_false, decide_true, decide_false, castInt_bind, castBool_bind, castStr_bind, castPtr_bind, castFn_bind, castAgg_bind, castTuple_bind, uncons_bind, isNil_bind, one_bind, cond_bind, ite_bind_, List.cons_append, List.nil_append]
      exact W.ret ⟨rfl, Lh.refl _⟩
    · try simp only [q_bind_some, Option.bind_assoc, castInt_int, q_castBool, q_castStr, q_castPtr, q_castFn, q_castAgg, q_castTuple, q_uncons, q_isNil, q_sl, q_nils, q_emp, q_ptr, q_nilp, q_fn, q_cond_true, q_cond_false, Bool.not_true, Bool.not_false, decide_true, decide_false, castInt_bind, castBool_bind, castStr_bind, castPtr_bind, castFn_bind, castAgg_bind, castTuple_bind, uncons_bind, isNil_bind, one_bind, cond_bind, ite_bind_, List.cons_append, List.nil_append, any_not IsT l, Bool.not_not]
      exact W.ret ⟨dec_iff (show Typs l ↔ ∀ t, t ∈ l → IsT t from ⟨fun h => h.2, fun h => ⟨by omega, h⟩⟩), l1⟩
  · exact W.ret ⟨by rw [decide_eq_false (fun h : Typs l => k1 (by have := h.1; omega))], Lh.refl _⟩
end Go.R

/- Faces that are right: FaceOk of both. -/
set_option linter.unusedVariables false
set_option linter.unusedSimpArgs false
namespace Go.R
open Go.HM Go.Proofs
def SigIs (x : FaceSig) : Prop := IsName x.name ∧ Typs x.args ∧ IsT x.type
noncomputable instance (x : FaceSig) : Decidable (SigIs x) := Classical.propDecidable _
def Less (x y : FaceSig) : Prop := Op.bytesLess x.name.toList y.name.toList = true
def SigTo (l : List FaceSig) (i : Nat) : Prop := ∀ (j : Nat) x, j < i → l[j]? = some x → SigIs x
def RisTo (l : List FaceSig) (i : Nat) : Prop := ∀ (j : Nat) x y, j + 1 < i → l[j]? = some x → l[j + 1]? = some y → Less x y
def FaceIs (l : List FaceSig) : Prop := l.length ≤ 8 ∧ SigTo l l.length ∧ RisTo l l.length
noncomputable instance (l : List FaceSig) : Decidable (FaceIs l) := Classical.propDecidable _
theorem SigTo.next {l : List FaceSig} {i : Nat} {x : FaceSig} (h : SigTo l i) (hx : l[i]? = some x) (hs : SigIs x) : SigTo l (i + 1) := fun j y hj hy => by
  rcases Nat.lt_or_ge j i with hlt | hge
  · exact h j y hlt hy
  · obtain rfl : j = i := by omega
    rw [hx] at hy
    injection hy with hy
    subst hy
    exact hs
theorem RisTo.next {l : List FaceSig} {i : Nat} {y : FaceSig} (h : RisTo l i) (hy : l[i]? = some y) (hs : ∀ j x, i = j + 1 → l[j]? = some x → Less x y) : RisTo l (i + 1) := fun j x z hj hx hz => by
  rcases Nat.lt_or_ge (j + 1) i with hlt | hge
  · exact h j x z hlt hx hz
  · obtain rfl : i = j + 1 := by omega
    rw [hy] at hz
    injection hz with hz
    subst hz
    exact hs j x rfl hx
theorem not_face1 {l : List FaceSig} {i : Nat} {x : FaceSig} (hx : l[i]? = some x) (hs : ¬ SigIs x) : decide (FaceIs l) = false := decide_eq_false fun h => hs (h.2.1 i x (List.getElem?_eq_some_iff.1 hx).1 hx)
theorem not_face2 {l : List FaceSig} {i : Nat} {x y : FaceSig} (hx : l[i]? = some x) (hy : l[i + 1]? = some y) (hs : ¬ Less x y) : decide (FaceIs l) = false := decide_eq_false fun h => hs (h.2.2 i x y (List.getElem?_eq_some_iff.1 hy).1 hx hy)
theorem implFaceOk_gives {σ : Heap} {v : V} {l : List FaceSig} (hf : l.length ≤ 1073741824) (hF : ∀ x, x ∈ l → x.name.size ≤ 1099511627776) (h : RepS 3 (FaceSig.Rep σ) σ v l) : Gives G n_impl_FaceOk [v] σ (.bool (decide (FaceIs l))) := by
  refine Gives.of (W.to (fun k _ => impl_FaceOk.eq k _ _) ?_)
  refine W.len h ?_
  refine W.loop (S := Nat × Heap) (fun s => s.1 ≤ l.length ∧ SigTo l s.1 ∧ RisTo l s.1 ∧ Lh σ s.2) (fun s => [.v v, .v v, .v (.int .i64 (l.length : Int)), .v (.int .i64 (s.1 : Int))]) (fun s => s.2) (fun s => l.length - s.1)
    (fun ⟨i, σi⟩ ⟨hi, h1, h2, hl⟩ => ?_) (0, σ) ⟨Nat.zero_le _, fun j x hj => absurd hj (by omega), fun j x y hj => absurd hj (by omega), Lh.refl _⟩
  simp only at hi h1 h2 hl ⊢
  refine W.to (fun k _ => by rw [impl_FaceOk.L0_step]) ?_
  refine B.ite (fun hlt => ?_) fun hlt => ?_
  rotate_left
  · obtain rfl : i = l.length := by omega
    try simp only [q_bind_some, castInt_int, q_castBool, q_castStr, q_castPtr, q_castFn, q_castAgg, q_castTuple, q_uncons, q_isNil, q_sl, q_nils, q_emp, q_ptr, q_nilp, q_fn, q_cond_true, q_cond_false, Bool.not_true, Bool.not_false, decide_true, decide_false, List.cons_append, List.nil_append, impl_FaceOk.A0_x0]
    refine W.len h ?_
    refine W.ret ⟨?_, hl⟩
    by_cases h8 : l.length ≤ 8
    · rw [decide_eq_true (show FaceIs l from ⟨h8, h1, h2⟩), decide_eq_true (by omega)]
    · rw [decide_eq_false (fun hc : FaceIs l => h8 hc.1), decide_eq_false (by omega)]
  have hil : i < l.length := by omega
  have hx : l[i]? = some l[i] := List.getElem?_eq_getElem hil
  have hxm : l[i] ∈ l := List.getElem_mem hil
  generalize l[i] = x at hx hxm
  have hnext := wrap_next hil (by omega)
  obtain ⟨r, o, hv, cs, hr, hP⟩ := h.at' hx
  have hr' := hl.rdc hr
  cases hP with
  | mk q0 =>
  rename_i a0
  try simp only [q_bind_some, castInt_int, q_castBool, q_castStr, q_castPtr, q_castFn, q_castAgg, q_castTuple, q_uncons, q_isNil, q_sl, q_nils, q_emp, q_ptr, q_nilp, q_fn, q_cond_true, q_cond_false, Bool.not_true, Bool.not_false, decide_true, decide_false, List.cons_append, List.nil_append, hv, hr']
  refine B.give (implLexName_gives σi x.name (by have := hF x hxm; omega)) fun σ1 l1 => ?_
  by_cases hn : IsName x.name
  rotate_left
  · try simp only [q_bind_some, castInt_int, q_castBool, q_castStr, q_castPtr, q_castFn, q_castAgg, q_castTuple, q_uncons, q_isNil, q_sl, q_nils, q_emp, q_ptr, q_nilp, q_fn, q_cond_true, q_cond_false, Bool.not_true, Bool.not_false, decide_true, decide_false, List.cons_append, List.nil_append, decide_eq_false hn, impl_FaceOk.A0_ret]
    exact W.ret ⟨by rw [not_face1 hx fun hc => hn hc.1], hl.trans l1⟩
  try simp only [q_bind_some, castInt_int, q_castBool, q_castStr, q_castPtr, q_castFn, q_castAgg, q_castTuple, q_uncons, q_isNil, q_sl, q_nils, q_emp, q_ptr, q_nilp, q_fn, q_cond_true, q_cond_false, Bool.not_true, Bool.not_false, decide_true, decide_false, List.cons_append, List.nil_append, decide_eq_true hn]
  have hl1 := hl.trans l1
  have q0' := q0.le hl1
  by_cases hi0 : 0 < i
  · obtain ⟨j, rfl⟩ : ∃ j, i = j + 1 := ⟨i - 1, by omega⟩
    have hy : l[j]? = some (l[j]'(by omega)) := List.getElem?_eq_getElem (by omega)
    generalize (l[j]'(by omega)) = y at hy
    obtain ⟨r2, o2, hv2, cs2, hr2, hP2⟩ := h.at' hy
    have hr2' := hl1.rdc hr2
    have wj : IntKind.wrap .i64 (((j + 1 : Nat) : Int) - 1) = (j : Int) := by rw [wrap_id (by omega) (by omega)]; omega
    have hp : (0 : Int) < ((j + 1 : Nat) : Int) := by omega
    cases hP2 with
    | mk u0 =>
    have g0 : rdc σ1 r2 (o2 + 0) 1 = some [.str y.name] := rdc_sub hr2' 0 1 (by omega)
    try simp only [q_bind_some, castInt_int, q_castBool, q_castStr, q_castPtr, q_castFn, q_castAgg, q_castTuple, q_uncons, q_isNil, q_sl, q_nils, q_emp, q_ptr, q_nilp, q_fn, q_cond_true, q_cond_false, Bool.not_true, Bool.not_false, decide_true, decide_false, List.cons_append, List.nil_append, hp, wj, hv2, g0]
    by_cases hless : Op.bytesLess y.name.toList x.name.toList = true
    rotate_left
    · have hless' : Op.bytesLess y.name.toList x.name.toList = false := by simpa using hless
      try simp only [q_bind_some, castInt_int, q_castBool, q_castStr, q_castPtr, q_castFn, q_castAgg, q_castTuple, q_uncons, q_isNil, q_sl, q_nils, q_emp, q_ptr, q_nilp, q_fn, q_cond_true, q_cond_false, Bool.not_true, Bool.not_false, decide_true, decide_false, List.cons_append, List.nil_append, hless', impl_FaceOk.A0_ret]
      exact W.ret ⟨by rw [not_face2 hy hx hless], hl1⟩
    try simp only [q_bind_some, castInt_int, q_castBool, q_castStr, q_castPtr, q_castFn, q_castAgg, q_castTuple, q_uncons, q_isNil, q_sl, q_nils, q_emp, q_ptr, q_nilp, q_fn, q_cond_true, q_cond_false, Bool.not_true, Bool.not_false, decide_true, decide_false, List.cons_append, List.nil_append, hless]
    refine B.give (areTypes_gives (q0'.prot1 r2)) fun σ2 l2 => ?_
    have l2' := hl1.trans l2.unprot1
    by_cases ht : Typs x.args
    rotate_left
    · try simp only [q_bind_some, castInt_int, q_castBool, q_castStr, q_castPtr, q_castFn, q_castAgg, q_castTuple, q_uncons, q_isNil, q_sl, q_nils, q_emp, q_ptr, q_nilp, q_fn, q_cond_true, q_cond_false, Bool.not_true, Bool.not_false, decide_true, decide_false, List.cons_append, List.nil_append, decide_eq_false ht, impl_FaceOk.A0_ret]
      exact W.ret ⟨by rw [not_face1 hx fun hc => ht hc.2.1], l2'⟩
    try simp only [q_bind_some, castInt_int, q_castBool, q_castStr, q_castPtr, q_castFn, q_castAgg, q_castTuple, q_uncons, q_isNil, q_sl, q_nils, q_emp, q_ptr, q_nilp, q_fn, q_cond_true, q_cond_false, Bool.not_true, Bool.not_false, decide_true, decide_false, List.cons_append, List.nil_append, decide_eq_true ht]
    refine B.run (isT_runs _) ?_
    by_cases h3 : IsT x.type
    rotate_left
    · try simp only [q_bind_some, castInt_int, q_castBool, q_castStr, q_castPtr, q_castFn, q_castAgg, q_castTuple, q_uncons, q_isNil, q_sl, q_nils, q_emp, q_ptr, q_nilp, q_fn, q_cond_true, q_cond_false, Bool.not_true, Bool.not_false, decide_true, decide_false, List.cons_append, List.nil_append, decide_eq_false h3, impl_FaceOk.A0_ret, unprot_prot]
      exact W.ret ⟨by rw [not_face1 hx fun hc => h3 hc.2.2], l2'⟩
    try simp only [q_bind_some, castInt_int, q_castBool, q_castStr, q_castPtr, q_castFn, q_castAgg, q_castTuple, q_uncons, q_isNil, q_sl, q_nils, q_emp, q_ptr, q_nilp, q_fn, q_cond_true, q_cond_false, Bool.not_true, Bool.not_false, decide_true, decide_false, List.cons_append, List.nil_append, decide_eq_true h3, unprot_prot, hnext]
    exact W.again (j + 1 + 1, _) ⟨by show j + 1 + 1 ≤ l.length; omega, h1.next hx ⟨hn, ht, h3⟩, h2.next hx (fun j' x' hj' hx' => by
      obtain rfl : j' = j := by omega
      rw [hy] at hx'
      injection hx' with hx'
      subst hx'
      exact hless), l2'⟩ (by simp only; omega) rfl rfl
  · obtain rfl : i = 0 := by omega
    try simp only [q_bind_some, castInt_int, q_castBool, q_castStr, q_castPtr, q_castFn, q_castAgg, q_castTuple, q_uncons, q_isNil, q_sl, q_nils, q_emp, q_ptr, q_nilp, q_fn, q_cond_true, q_cond_false, Bool.not_true, Bool.not_false, decide_true, decide_false, List.cons_append, List.nil_append]
    refine B.give (areTypes_gives q0') fun σ2 l2 => ?_
    by_cases ht : Typs x.args
    rotate_left
    · try simp only [q_bind_some, castInt_int, q_castBool, q_castStr, q_castPtr, q_castFn, q_castAgg, q_castTuple, q_uncons, q_isNil, q_sl, q_nils, q_emp, q_ptr, q_nilp, q_fn, q_cond_true, q_cond_false, Bool.not_true, Bool.not_false, decide_true, decide_false, List.cons_append, List.nil_append, decide_eq_false ht, impl_FaceOk.A0_ret]
      exact W.ret ⟨by rw [not_face1 hx fun hc => ht hc.2.1], hl1.trans l2⟩
    try simp only [q_bind_some, castInt_int, q_castBool, q_castStr, q_castPtr, q_castFn, q_castAgg, q_castTuple, q_uncons, q_isNil, q_sl, q_nils, q_emp, q_ptr, q_nilp, q_fn, q_cond_true, q_cond_false, Bool.not_true, Bool.not_false, decide_true, decide_false, List.cons_append, List.nil_append, decide_eq_true ht]
    refine B.run (isT_runs _) ?_
    by_cases h3 : IsT x.type
    rotate_left
    · try simp only [q_bind_some, castInt_int, q_castBool, q_castStr, q_castPtr, q_castFn, q_castAgg, q_castTuple, q_uncons, q_isNil, q_sl, q_nils, q_emp, q_ptr, q_nilp, q_fn, q_cond_true, q_cond_false, Bool.not_true, Bool.not_false, decide_true, decide_false, List.cons_append, List.nil_append, decide_eq_false h3, impl_FaceOk.A0_ret]
      exact W.ret ⟨by rw [not_face1 hx fun hc => h3 hc.2.2], hl1.trans l2⟩
    try simp only [q_bind_some, castInt_int, q_castBool, q_castStr, q_castPtr, q_castFn, q_castAgg, q_castTuple, q_uncons, q_isNil, q_sl, q_nils, q_emp, q_ptr, q_nilp, q_fn, q_cond_true, q_cond_false, Bool.not_true, Bool.not_false, decide_true, decide_false, List.cons_append, List.nil_append, decide_eq_true h3, hnext]
    exact W.again (0 + 1, σ2) ⟨by show 0 + 1 ≤ l.length; omega, h1.next hx ⟨hn, ht, h3⟩, h2.next hx (fun j' x' hj' hx' => by omega), hl1.trans l2⟩ (by simp only; omega) rfl rfl
end Go.R

/- Faces that are right, by the reference; rows of types as texts. -/
set_option linter.unusedVariables false
set_option linter.unusedSimpArgs false
namespace Go.R
open Go.HM Go.Proofs
theorem tword_none (n : Int) : tword n = ⟨#[]⟩ ↔ ¬ IsT n := by
  unfold tword IsT
  constructor
  · intro h hc
    have : n = 1 ∨ n = 2 ∨ n = 3 := by omega
    rcases this with rfl | rfl | rfl <;> simp at h
  · intro h
    rw [if_neg (by omega), if_neg (by omega), if_neg (by omega)]
theorem tword_size (n : Int) : (tword n).size ≤ 4 := by
  unfold tword
  split
  · decide
  split
  · decide
  split
  · decide
  · decide
theorem l3Sig_gives {σ : Heap} {x : FaceSig} {a : V} (hs : x.name.size ≤ 1099511627776) (q : RepS 1 IntRep σ a x.args) : Gives G n_spec_l3Sig [.agg [.str x.name, a, .int .i64 x.type]] σ (.bool (decide (SigIs x))) := by
  refine Gives.of (W.to (fun k _ => spec_l3Sig.eq k _ _ _ _) ?_)
  refine W.give (specLexName_gives σ x.name (by omega)) fun σ1 l1 => ?_
  by_cases hn : IsName x.name
  rotate_left
  · try simp only [q_bind_some, castInt_int, q_castBool, q_castStr, q_castPtr, q_castFn, q_castAgg, q_castTuple, q_uncons, q_isNil, q_sl, q_nils, q_emp, q_ptr, q_nilp, q_fn, q_cond_true, q_cond_false, Bool.not_true, Bool.not_false, decide_true, decide_false, List.cons_append, List.nil_append, decide_eq_false hn]
    exact W.ret ⟨by rw [decide_eq_false (fun hc : SigIs x => hn hc.1)], l1⟩
  try simp only [q_bind_some, castInt_int, q_castBool, q_castStr, q_castPtr, q_castFn, q_castAgg, q_castTuple, q_uncons, q_isNil, q_sl, q_nils, q_emp, q_ptr, q_nilp, q_fn, q_cond_true, q_cond_false, Bool.not_true, Bool.not_false, decide_true, decide_false, List.cons_append, List.nil_append, decide_eq_true hn]
  refine W.len q ?_
  by_cases h4 : (4 : Int) < (x.args.length : Int)
  · try simp only [q_bind_some, castInt_int, q_castBool, q_castStr, q_castPtr, q_castFn, q_castAgg, q_castTuple, q_uncons, q_isNil, q_sl, q_nils, q_emp, q_ptr, q_nilp, q_fn, q_cond_true, q_cond_false, Bool.not_true, Bool.not_false, decide_true, decide_false, List.cons_append, List.nil_append, h4]
    exact W.ret ⟨by rw [decide_eq_false (fun hc : SigIs x => by have := hc.2.1.1; omega)], l1⟩
  try simp only [q_bind_some, castInt_int, q_castBool, q_castStr, q_castPtr, q_castFn, q_castAgg, q_castTuple, q_uncons, q_isNil, q_sl, q_nils, q_emp, q_ptr, q_nilp, q_fn, q_cond_true, q_cond_false, Bool.not_true, Bool.not_false, decide_true, decide_false, List.cons_append, List.nil_append, h4]
  refine W.give (specTreeType_gives _ σ1) fun σ2 l2 => ?_
  by_cases h3 : IsT x.type
  rotate_left
  · try simp only [q_bind_some, castInt_int, q_castBool, q_castStr, q_castPtr, q_castFn, q_castAgg, q_castTuple, q_uncons, q_isNil, q_sl, q_nils, q_emp, q_ptr, q_nilp, q_fn, q_cond_true, q_cond_false, Bool.not_true, Bool.not_false, decide_true, decide_false, List.cons_append, List.nil_append, decide_eq_true ((tword_none x.type).2 h3)]
    exact W.ret ⟨by rw [decide_eq_false (fun hc : SigIs x => h3 hc.2.2)], l1.trans l2⟩
  try simp only [q_bind_some, castInt_int, q_castBool, q_castStr, q_castPtr, q_castFn, q_castAgg, q_castTuple, q_uncons, q_isNil, q_sl, q_nils, q_emp, q_ptr, q_nilp, q_fn, q_cond_true, q_cond_false, Bool.not_true, Bool.not_false, decide_true, decide_false, List.cons_append, List.nil_append, decide_eq_false (fun hc => (tword_none x.type).1 hc h3)]
  refine W.loop (S := Nat × Heap) (fun s => s.1 ≤ x.args.length ∧ (∀ (j : Nat) t, j < s.1 → x.args[j]? = some t → IsT t) ∧ Lh σ s.2) (fun s => [.box [.str x.name, a, .int .i64 x.type], .v (.int .i64 (s.1 : Int))]) (fun s => s.2) (fun s => x.args.length - s.1)
    (fun ⟨i, σi⟩ ⟨hi, h1, hl⟩ => ?_) (0, σ2) ⟨Nat.zero_le _, fun j x hj => absurd hj (by omega), l1.trans l2⟩
  simp only at hi h1 hl ⊢
  refine W.to (fun k _ => by rw [spec_l3Sig.L0_step]) ?_
  refine B.len q ?_
  refine B.ite (fun hlt => ?_) fun hlt => ?_
  rotate_left
  · obtain rfl : i = x.args.length := by omega
    try simp only [q_bind_some, castInt_int, q_castBool, q_castStr, q_castPtr, q_castFn, q_castAgg, q_castTuple, q_uncons, q_isNil, q_sl, q_nils, q_emp, q_ptr, q_nilp, q_fn, q_cond_true, q_cond_false, Bool.not_true, Bool.not_false, decide_true, decide_false, List.cons_append, List.nil_append, spec_l3Sig.A0_x0]
    refine W.ret ⟨?_, hl⟩
    rw [decide_eq_true (show SigIs x from ⟨hn, ⟨by omega, fun t ht => ?_⟩, h3⟩)]
    obtain ⟨j, hj⟩ := List.getElem?_of_mem ht
    exact h1 j t (List.getElem?_eq_some_iff.1 hj).1 hj
  have hil : i < x.args.length := by omega
  have ht : x.args[i]? = some x.args[i] := List.getElem?_eq_getElem hil
  generalize x.args[i] = t at ht
  have hnext := wrap_next hil (by omega)
  obtain ⟨r, o, hv, cs, hr, hP⟩ := q.at' ht
  have hr' := hl.rdc hr
  unfold IntRep at hP
  subst hP
  try simp only [q_bind_some, castInt_int, q_castBool, q_castStr, q_castPtr, q_castFn, q_castAgg, q_castTuple, q_uncons, q_isNil, q_sl, q_nils, q_emp, q_ptr, q_nilp, q_fn, q_cond_true, q_cond_false, Bool.not_true, Bool.not_false, decide_true, decide_false, List.cons_append, List.nil_append, hv, hr']
  refine B.give (specTreeType_gives _ σi) fun σ3 l3 => ?_
  by_cases h5 : IsT t
  rotate_left
  · try simp only [q_bind_some, castInt_int, q_castBool, q_castStr, q_castPtr, q_castFn, q_castAgg, q_castTuple, q_uncons, q_isNil, q_sl, q_nils, q_emp, q_ptr, q_nilp, q_fn, q_cond_true, q_cond_false, Bool.not_true, Bool.not_false, decide_true, decide_false, List.cons_append, List.nil_append, decide_eq_true ((tword_none t).2 h5), spec_l3Sig.A0_ret]
    exact W.ret ⟨by rw [decide_eq_false (fun hc : SigIs x => h5 (hc.2.1.2 t (List.mem_of_getElem? ht)))], hl.trans l3⟩
  try simp only [q_bind_some, castInt_int, q_castBool, q_castStr, q_castPtr, q_castFn, q_castAgg, q_castTuple, q_uncons, q_isNil, q_sl, q_nils, q_emp, q_ptr, q_nilp, q_fn, q_cond_true, q_cond_false, Bool.not_true, Bool.not_false, decide_true, decide_false, List.cons_append, List.nil_append, decide_eq_false (fun hc => (tword_none t).1 hc h5), hnext]
  exact W.again (i + 1, σ3) ⟨by show i + 1 ≤ x.args.length; omega, fun j y hj hy => by
    rcases Nat.lt_or_ge j i with hlt | hge
    · exact h1 j y hlt hy
    · obtain rfl : j = i := by omega
      rw [ht] at hy
      injection hy with hy
      subst hy
      exact h5, hl.trans l3⟩ (by simp only; omega) rfl rfl
theorem specFaceOk_gives {σ : Heap} {v : V} {l : List FaceSig} (hF : ∀ x, x ∈ l → x.name.size ≤ 1099511627776) (h : RepS 3 (FaceSig.Rep σ) σ v l) : Gives G n_spec_FaceOk [v] σ (.bool (decide (FaceIs l))) := by
  refine Gives.of (W.to (fun k _ => spec_FaceOk.eq k _ _) ?_)
  refine W.len h ?_
  by_cases h8 : (8 : Int) < (l.length : Int)
  · try simp only [q_bind_some, castInt_int, q_castBool, q_castStr, q_castPtr, q_castFn, q_castAgg, q_castTuple, q_uncons, q_isNil, q_sl, q_nils, q_emp, q_ptr, q_nilp, q_fn, q_cond_true, q_cond_false, Bool.not_true, Bool.not_false, decide_true, decide_false, List.cons_append, List.nil_append, h8]
    exact W.ret ⟨by rw [decide_eq_false (fun hc : FaceIs l => by have := hc.1; omega)], Lh.refl _⟩
  try simp only [q_bind_some, castInt_int, q_castBool, q_castStr, q_castPtr, q_castFn, q_castAgg, q_castTuple, q_uncons, q_isNil, q_sl, q_nils, q_emp, q_ptr, q_nilp, q_fn, q_cond_true, q_cond_false, Bool.not_true, Bool.not_false, decide_true, decide_false, List.cons_append, List.nil_append, h8]
  refine W.loop (S := Nat × Heap) (fun s => s.1 ≤ l.length ∧ SigTo l s.1 ∧ RisTo l s.1 ∧ Lh σ s.2) (fun s => [.v v, .v (.int .i64 (s.1 : Int))]) (fun s => s.2) (fun s => l.length - s.1)
    (fun ⟨i, σi⟩ ⟨hi, h1, h2, hl⟩ => ?_) (0, σ) ⟨Nat.zero_le _, fun j x hj => absurd hj (by omega), fun j x y hj => absurd hj (by omega), Lh.refl _⟩
  simp only at hi h1 h2 hl ⊢
  refine W.to (fun k _ => by rw [spec_FaceOk.L0_step]) ?_
  refine B.len h ?_
  refine B.ite (fun hlt => ?_) fun hlt => ?_
  rotate_left
  · obtain rfl : i = l.length := by omega
    try simp only [q_bind_some, castInt_int, q_castBool, q_castStr, q_castPtr, q_castFn, q_castAgg, q_castTuple, q_uncons, q_isNil, q_sl, q_nils, q_emp, q_ptr, q_nilp, q_fn, q_cond_true, q_cond_false, Bool.not_true, Bool.not_false, decide_true, decide_false, List.cons_append, List.nil_append, spec_FaceOk.A0_x0]
    exact W.ret ⟨by rw [decide_eq_true (show FaceIs l from ⟨by omega, h1, h2⟩)], hl⟩
  have hil : i < l.length := by omega
  have hx : l[i]? = some l[i] := List.getElem?_eq_getElem hil
  have hxm : l[i] ∈ l := List.getElem_mem hil
  generalize l[i] = x at hx hxm
  have hnext := wrap_next hil (by omega)
  obtain ⟨r, o, hv, cs, hr, hP⟩ := h.at' hx
  have hr' := hl.rdc hr
  cases hP with
  | mk q0 =>
  rename_i a0
  try simp only [q_bind_some, castInt_int, q_castBool, q_castStr, q_castPtr, q_castFn, q_castAgg, q_castTuple, q_uncons, q_isNil, q_sl, q_nils, q_emp, q_ptr, q_nilp, q_fn, q_cond_true, q_cond_false, Bool.not_true, Bool.not_false, decide_true, decide_false, List.cons_append, List.nil_append, hv, hr']
  refine B.give (l3Sig_gives (hF x hxm) (q0.le hl)) fun σ1 l1 => ?_
  have hl1 := hl.trans l1
  by_cases hs : SigIs x
  rotate_left
  · try simp only [q_bind_some, castInt_int, q_castBool, q_castStr, q_castPtr, q_castFn, q_castAgg, q_castTuple, q_uncons, q_isNil, q_sl, q_nils, q_emp, q_ptr, q_nilp, q_fn, q_cond_true, q_cond_false, Bool.not_true, Bool.not_false, decide_true, decide_false, List.cons_append, List.nil_append, decide_eq_false hs, spec_FaceOk.A0_ret]
    exact W.ret ⟨by rw [not_face1 hx hs], hl1⟩
  try simp only [q_bind_some, castInt_int, q_castBool, q_castStr, q_castPtr, q_castFn, q_castAgg, q_castTuple, q_uncons, q_isNil, q_sl, q_nils, q_emp, q_ptr, q_nilp, q_fn, q_cond_true, q_cond_false, Bool.not_true, Bool.not_false, decide_true, decide_false, List.cons_append, List.nil_append, decide_eq_true hs]
  by_cases hi0 : 0 < i
  · obtain ⟨j, rfl⟩ : ∃ j, i = j + 1 := ⟨i - 1, by omega⟩
    have hy : l[j]? = some (l[j]'(by omega)) := List.getElem?_eq_getElem (by omega)
    generalize (l[j]'(by omega)) = y at hy
    obtain ⟨r2, o2, hv2, cs2, hr2, hP2⟩ := h.at' hy
    have hr2' := hl1.rdc hr2
    have wj : IntKind.wrap .i64 (((j + 1 : Nat) : Int) - 1) = (j : Int) := by rw [wrap_id (by omega) (by omega)]; omega
    have hp : (0 : Int) < ((j + 1 : Nat) : Int) := by omega
    cases hP2 with
    | mk u0 =>
    have g0 : rdc σ1 r2 (o2 + 0) 1 = some [.str y.name] := rdc_sub hr2' 0 1 (by omega)
    have g1 : rdc σ1 r (o + 0) 1 = some [.str x.name] := rdc_sub (hl1.rdc hr) 0 1 (by omega)
    try simp only [q_bind_some, castInt_int, q_castBool, q_castStr, q_castPtr, q_castFn, q_castAgg, q_castTuple, q_uncons, q_isNil, q_sl, q_nils, q_emp, q_ptr, q_nilp, q_fn, q_cond_true, q_cond_false, Bool.not_true, Bool.not_false, decide_true, decide_false, List.cons_append, List.nil_append, hp, hv, g1, wj, hv2, g0]
    by_cases hless : Op.bytesLess y.name.toList x.name.toList = true
    rotate_left
    · have hless' : Op.bytesLess y.name.toList x.name.toList = false := by simpa using hless
      try simp only [q_bind_some, castInt_int, q_castBool, q_castStr, q_castPtr, q_castFn, q_castAgg, q_castTuple, q_uncons, q_isNil, q_sl, q_nils, q_emp, q_ptr, q_nilp, q_fn, q_cond_true, q_cond_false, Bool.not_true, Bool.not_false, decide_true, decide_false, List.cons_append, List.nil_append, hless', spec_FaceOk.A0_ret]
      exact W.ret ⟨by rw [not_face2 hy hx hless], hl1⟩
    try simp only [q_bind_some, castInt_int, q_castBool, q_castStr, q_castPtr, q_castFn, q_castAgg, q_castTuple, q_uncons, q_isNil, q_sl, q_nils, q_emp, q_ptr, q_nilp, q_fn, q_cond_true, q_cond_false, Bool.not_true, Bool.not_false, decide_true, decide_false, List.cons_append, List.nil_append, hless, hnext]
    exact W.again (j + 1 + 1, σ1) ⟨by show j + 1 + 1 ≤ l.length; omega, h1.next hx hs, h2.next hx (fun j' x' hj' hx' => by
      obtain rfl : j' = j := by omega
      rw [hy] at hx'
      injection hx' with hx'
      subst hx'
      exact hless), hl1⟩ (by simp only; omega) rfl rfl
  · obtain rfl : i = 0 := by omega
    try simp only [q_bind_some, castInt_int, q_castBool, q_castStr, q_castPtr, q_castFn, q_castAgg, q_castTuple, q_uncons, q_isNil, q_sl, q_nils, q_emp, q_ptr, q_nilp, q_fn, q_cond_true, q_cond_false, Bool.not_true, Bool.not_false, decide_true, decide_false, List.cons_append, List.nil_append, hnext]
    exact W.again (0 + 1, σ1) ⟨by show 0 + 1 ≤ l.length; omega, h1.next hx hs, h2.next hx (fun j' x' hj' hx' => by omega), hl1⟩ (by simp only; omega) rfl rfl
end Go.R

/- strings.Builder: what is written and read. -/
set_option linter.unusedVariables false
set_option linter.unusedSimpArgs false
namespace Go.R
open Go.HM Go.Proofs
def u8c (s : ByteArray) : List V := s.data.toList.map fun c => V.int .u8 c.toNat
theorem u8c_len (s : ByteArray) : (u8c s).length = s.size := by
  unfold u8c
  rw [List.length_map, Array.length_toList]
  rfl
theorem u8c_app (s t : ByteArray) : u8c (s ++ t) = u8c s ++ u8c t := by
  unfold u8c
  rw [ByteArray.data_append, Array.toList_append, List.map_append]
theorem u8s_map : ∀ (l : List UInt8), u8s (l.map fun c => V.int .u8 c.toNat) = some l
  | [] => rfl
  | c :: l => by
    have h : (0 : Int) ≤ (c.toNat : Int) ∧ (c.toNat : Int) < 256 := ⟨by omega, by have := c.toNat_lt; omega⟩
    have e : UInt8.ofNat ((c.toNat : Int)).toNat = c := by simp
    simp only [List.map_cons, u8s, if_pos h, u8s_map l, Option.bind_some, e]
/-- A builder in row b that holds the bytes s; they lie in a row from F on. -/
def Bld (F : Nat) (σ : Heap) (b : Nat) (s : ByteArray) : Prop := ∃ x v, σ[b]? = some (some ⟨[x, v], 2, false, hbT + 1⟩) ∧ (x = .nilp ∨ x = .ptr b 0) ∧
  ((s = ⟨#[]⟩ ∧ v = .nils) ∨ ∃ r, v = .sl r 0 s.size false ∧ F ≤ r ∧ r ≠ b ∧ s.size ≠ 0 ∧ σ[r]? = some (some ⟨u8c s, 1, false, hbU + 1⟩))
/-- What lies below F stays, but for the builder. -/
def KeepF (F b : Nat) (σ σ' : Heap) : Prop := σ.length ≤ σ'.length ∧ ∀ j, j < F → j ≠ b → σ'[j]? = σ[j]?
theorem KeepF.refl (F b : Nat) (σ : Heap) : KeepF F b σ σ := ⟨Nat.le_refl _, fun _ _ _ => rfl⟩
theorem KeepF.trans {F b : Nat} {a c d : Heap} (h : KeepF F b a c) (g : KeepF F b c d) : KeepF F b a d := ⟨Nat.le_trans h.1 g.1, fun j h1 h2 => (g.2 j h1 h2).trans (h.2 j h1 h2)⟩
theorem KeepF.lh {F b : Nat} {σ0 σ σ' : Heap} (h : KeepF F b σ σ') (hl : Lh σ0 σ) (hF : σ0.length ≤ F) (hb : ∀ row, σ0[b]? ≠ some (some row)) : Lh σ0 σ' := ⟨Nat.le_trans hl.len h.1, fun j row hj => by
  have hlt := get_lt hj
  rw [h.2 j (by omega) (fun hc => by subst hc; exact hb row hj)]
  exact hl.row _ _ hj⟩
theorem Bld.new (σ : Heap) : Bld (σ.length + 1) (hnewT σ (hbT + 1) 2 [.nilp, .nils]) σ.length ⟨#[]⟩ := ⟨.nilp, .nils, by simp [hnewT], .inl rfl, .inl ⟨rfl, rfl⟩⟩
theorem Bld.up {F F' : Nat} {σ : Heap} {b : Nat} (h : Bld F σ b ⟨#[]⟩) : Bld F' σ b ⟨#[]⟩ := by
  obtain ⟨x, v, h1, h2, h3⟩ := h
  refine ⟨x, v, h1, h2, .inl ⟨rfl, ?_⟩⟩
  rcases h3 with ⟨_, h⟩ | ⟨r, _, _, _, h, _⟩
  · exact h
  · exact absurd rfl h
theorem Bld.keep {F : Nat} {σ σ' : Heap} {b : Nat} {s : ByteArray} (h : Bld F σ b s) (hl : Lh σ σ') : Bld F σ' b s := by
  obtain ⟨x, v, h1, h2, h3⟩ := h
  refine ⟨x, v, hl.row _ _ h1, h2, ?_⟩
  rcases h3 with h | ⟨r, g1, g2, g3, g4, g5⟩
  · exact .inl h
  · exact .inr ⟨r, g1, g2, g3, g4, hl.row _ _ g5⟩
theorem copyCheck_bld {F : Nat} {σ : Heap} {b : Nat} {s : ByteArray} (h : Bld F σ b s) : ∃ σ' v, Runs G n_pstrings_Builder_copyCheck [.ptr b 0] σ (.tuple []) σ' ∧ σ'.length = σ.length ∧ (∀ j, j ≠ b → σ'[j]? = σ[j]?) ∧ σ'[b]? = some (some ⟨[.ptr b 0, v], 2, false, hbT + 1⟩) ∧
    ((s = ⟨#[]⟩ ∧ v = .nils) ∨ ∃ r, v = .sl r 0 s.size false ∧ F ≤ r ∧ r ≠ b ∧ s.size ≠ 0 ∧ σ'[r]? = some (some ⟨u8c s, 1, false, hbU + 1⟩)) := by
  obtain ⟨x, v, h1, h2, h3⟩ := h
  have hlt := get_lt h1
  rcases h2 with rfl | rfl
  · refine ⟨σ.set b (some ⟨[.ptr b 0, v], 2, false, hbT + 1⟩), v, hook_runs (h := hkCopy hbT) rfl (by simp [hkCopy, h1]), by simp, fun j hj => by rw [List.getElem?_set, if_neg (Ne.symm hj)], by simp [hlt], ?_⟩
    rcases h3 with h | ⟨r, g1, g2, g3, g4, g5⟩
    · exact .inl h
    · exact .inr ⟨r, g1, g2, g3, g4, by rw [List.getElem?_set, if_neg (Ne.symm g3)]; exact g5⟩
  · exact ⟨σ, v, hook_runs (h := hkCopy hbT) rfl (by simp [hkCopy, h1]), rfl, fun _ _ => rfl, h1, h3⟩
/-- Bytes put behind. -/
theorem app_bld {F : Nat} {σ : Heap} {b : Nat} {s t : ByteArray} {v : V} (hF : F ≤ σ.length) (hb : b < σ.length) (h : (s = ⟨#[]⟩ ∧ v = .nils) ∨ ∃ r, v = .sl r 0 s.size false ∧ F ≤ r ∧ r ≠ b ∧ s.size ≠ 0 ∧ σ[r]? = some (some ⟨u8c s, 1, false, hbU + 1⟩)) (hs : s.size + t.size ≤ 1099511627776) :
    ∃ v' σ', vappendT (hbU + 1) 1 1 σ v t.size (u8c t) = some (v', σ') ∧ v'.flat = true ∧ σ.length ≤ σ'.length ∧ (∀ j, j < F → σ'[j]? = σ[j]?) ∧ σ'[b]? = σ[b]? ∧
      ((s ++ t = ⟨#[]⟩ ∧ v' = .nils) ∨ ∃ r, v' = .sl r 0 (s ++ t).size false ∧ F ≤ r ∧ r ≠ b ∧ (s ++ t).size ≠ 0 ∧ σ'[r]? = some (some ⟨u8c (s ++ t), 1, false, hbU + 1⟩)) := by
  have e46 : (2 : Nat) ^ 46 = 70368744177664 := by decide
  have hsz : (s ++ t).size = s.size + t.size := ByteArray.size_append
  rcases h with ⟨rfl, rfl⟩ | ⟨r, rfl, hr, hrb, hs0, hrow⟩
  · have he : (⟨#[]⟩ : ByteArray) ++ t = t := ByteArray.empty_append
    rw [he]
    by_cases h0 : t.size = 0
    · refine ⟨.nils, σ, by simp [vappendT, h0], rfl, Nat.le_refl _, fun _ _ => rfl, rfl, .inl ⟨?_, rfl⟩⟩
      obtain ⟨d⟩ := t
      have : d = #[] := Array.eq_empty_of_size_eq_zero h0
      rw [this]
    · refine ⟨.sl σ.length 0 t.size false, hnewT σ (hbU + 1) 1 (u8c t), ?_, rfl, by simp [hnewT], fun j hj => by rw [hnewT, List.getElem?_append_left (by omega)], by rw [hnewT, List.getElem?_append_left hb], .inr ⟨σ.length, rfl, hF, by omega, h0, by simp [hnewT]⟩⟩
      have hz : (⟨#[]⟩ : ByteArray).size = 0 := rfl
      simp only [vappendT, if_neg h0]
      rw [if_pos ⟨by omega, by omega⟩]
  · have hrl := get_lt hrow
    refine ⟨.sl σ.length 0 (s ++ t).size false, hnewT (σ.set r none) (hbU + 1) 1 (u8c (s ++ t)), ?_, rfl, by simp [hnewT], fun j hj => ?_, ?_, .inr ⟨σ.length, rfl, hF, by omega, by omega, by simp [hnewT]⟩⟩
    · simp only [vappendT, hrow]
      have h1 : True ∧ 0 + s.size * 1 ≤ (u8c s).length ∧ (s.size + t.size) * 1 ≤ 2 ^ 46 ∧ s.size + t.size ≤ 2 ^ 46 := ⟨trivial, by rw [u8c_len]; omega, by omega, by omega⟩
      rw [if_pos h1]
      have h2 : (u8c s).take (s.size * 1) = u8c s := List.take_of_length_le (by rw [u8c_len]; omega)
      simp only [Bool.false_eq_true, if_false, true_and, and_self, if_true, h2, hsz, u8c_app]
    · rw [hnewT, List.getElem?_append_left (by simp; omega), List.getElem?_set, if_neg (by omega)]
    · rw [hnewT, List.getElem?_append_left (by simpa using hb), List.getElem?_set, if_neg hrb]
theorem put_bld {F : Nat} {σ : Heap} {b : Nat} {s : ByteArray} {v v' : V} (hF : F ≤ σ.length) (hrow : σ[b]? = some (some ⟨[.ptr b 0, v], 2, false, hbT + 1⟩))
    (h : (s = ⟨#[]⟩ ∧ v' = .nils) ∨ ∃ r, v' = .sl r 0 s.size false ∧ F ≤ r ∧ r ≠ b ∧ s.size ≠ 0 ∧ σ[r]? = some (some ⟨u8c s, 1, false, hbU + 1⟩)) :
    ∃ σ', wrc σ b (0 + 1) [v'] = some σ' ∧ Bld F σ' b s ∧ KeepF F b σ σ' := by
  have hlt := get_lt hrow
  refine ⟨σ.set b (some ⟨[.ptr b 0, v'], 2, false, hbT + 1⟩), by simp [wrc, hrow, setCells], ⟨.ptr b 0, v', by simp [hlt], .inr rfl, ?_⟩, by simp, fun j _ hj => by rw [List.getElem?_set, if_neg (Ne.symm hj)]⟩
  rcases h with h | ⟨r, g1, g2, g3, g4, g5⟩
  · exact .inl h
  · exact .inr ⟨r, g1, g2, g3, g4, by rw [List.getElem?_set, if_neg (Ne.symm g3)]; exact g5⟩
theorem writeString_runs {F : Nat} {σ : Heap} {b : Nat} {s : ByteArray} (hF : F ≤ σ.length) (h : Bld F σ b s) (t : ByteArray) (hs : s.size + t.size ≤ 1099511627776) :
    ∃ σ', Runs G n_pstrings_Builder_WriteString [.ptr b 0, .str t] σ (.tuple [.int .i64 (t.size : Int), .nili]) σ' ∧ Bld F σ' b (s ++ t) ∧ KeepF F b σ σ' := by
  obtain ⟨σ1, v, c1, l1, o1, r1, h1⟩ := copyCheck_bld h
  obtain ⟨v', σ2, a1, a2, a3, a4, a5, a6⟩ := app_bld (t := t) (by rw [l1]; exact hF) (get_lt r1) h1 hs
  obtain ⟨σ3, w1, w2, w3⟩ := put_bld (F := F) (σ := σ2) (b := b) (v := v) (v' := v') (by omega) (by rw [a5]; exact r1) a6
  refine ⟨σ3, Runs.of (W.to (fun k _ => pstrings_Builder_WriteString.eq k _ _ _) ?_), w2, ⟨by have := w3.1; omega, fun j hj hjb => by rw [w3.2 j hj hjb, a4 j hj, o1 j hjb]⟩⟩
  refine W.run c1 ?_
  have e1 : rdc σ1 b (0 + 1) 1 = some [v] := by simp [rdc, r1]
  have a1' : vappendT 6 1 1 σ1 v t.size (t.data.toList.map fun c => V.int .u8 c.toNat) = some (v', σ2) := a1
  have ho : ∀ {β : Type} (K : Option β), one v' K = K := fun K => one_of a2 K
  try simp only [q_bind_some, castInt_int, q_castBool, q_castStr, q_castPtr, q_castFn, q_castAgg, q_castTuple, q_uncons, q_isNil, q_sl, q_nils, q_emp, q_ptr, q_nilp, q_fn, q_cond_true, q_cond_false, Bool.not_true, Bool.not_false, decide_true, decide_false, List.cons_append, List.nil_append, e1, a1', ho, w1]
  exact W.ret ⟨rfl, rfl⟩
theorem builderText_runs {F : Nat} {σ : Heap} {b : Nat} {s : ByteArray} (h : Bld F σ b s) (hs : s.size ≤ 1099511627776) :
    ∃ σ', Runs G n_pstrings_Builder_String [.ptr b 0] σ (.str s) σ' ∧ KeepF F b σ σ' := by
  obtain ⟨x, v, h1, h2, h3⟩ := h
  rcases h3 with ⟨rfl, rfl⟩ | ⟨r, rfl, hr, hrb, hs0, hrow⟩
  · exact ⟨σ, hook_runs (h := hkText hbT hbU) rfl (by simp [hkText, h1]), KeepF.refl _ _ _⟩
  · refine ⟨σ.set r none, hook_runs (h := hkText hbT hbU) rfl ?_, by simp, fun j hj _ => by rw [List.getElem?_set, if_neg (by omega)]⟩
    have e1 : (u8c s).take s.size = u8c s := List.take_of_length_le (by rw [u8c_len]; omega)
    have e2 : u8s (u8c s) = some s.data.toList := u8s_map _
    have e3 : (⟨s.data.toList.toArray⟩ : ByteArray) = s := by simp
    have e4 : s.size ≤ (u8c s).length := by rw [u8c_len]; omega
    have e5 : s.size ≤ 4611686018427387904 := by omega
    simp [hkText, h1, hrow, e1, e2, e3, hs0, e4, e5]
end Go.R

/- Rows of types as texts; FaceText of both. -/
set_option linter.unusedVariables false
set_option linter.unusedSimpArgs false
namespace Go.R
open Go.HM Go.Proofs
/-- A text of bytes. -/
theorem join_snoc (xs : List (List UInt8)) (x sep : List UInt8) : Lib.join (xs ++ [x]) sep = if xs = [] then x else Lib.join xs sep ++ sep ++ x := by
  cases xs with
  | nil => simp [Lib.join_one]
  | cons y r =>
    rw [List.cons_append, Lib.join_cons, Lib.join_cons, if_neg (by simp)]
    simp [Lib.joinTail]
def tyL (l : List Int) : List UInt8 := Lib.join (l.map fun n => (tword n).data.toList) [44]
theorem tyL_next {l : List Int} {i : Nat} {n : Int} (h : l[i]? = some n) : tyL (l.take (i + 1)) = if i = 0 then (tword n).data.toList else tyL (l.take i) ++ [44] ++ (tword n).data.toList := by
  have hi := (List.getElem?_eq_some_iff.1 h).1
  unfold tyL
  rw [take_next' h, List.map_append, List.map_cons, List.map_nil, join_snoc]
  by_cases h0 : i = 0
  · subst h0
    simp
  · rw [if_neg h0, if_neg (fun hc => ?_)]
    have := congrArg List.length hc
    simp only [List.length_map, List.length_take, List.length_nil] at this
    omega
theorem tyL_len (l : List Int) : ∀ i, i ≤ l.length → (tyL (l.take i)).length ≤ 5 * i
  | 0, _ => by simp [tyL, Lib.join_nil]
  | i + 1, h => by
    have hx : l[i]? = some (l[i]'(by omega)) := List.getElem?_eq_getElem (by omega)
    have ih := tyL_len l i (by omega)
    have hs := tword_size (l[i]'(by omega))
    have hb := ba_list (tword (l[i]'(by omega)))
    rw [tyL_next hx]
    split
    · omega
    · simp only [List.length_append, List.length_cons, List.length_nil]
      omega
theorem l3Types_gives {σ : Heap} {v : V} {l : List Int} (hf : l.length ≤ 1048576) (h : RepS 1 IntRep σ v l) : Gives G n_spec_l3Types [v] σ (.str (ba (tyL l))) := by
  refine Gives.of (W.to (fun k _ => spec_l3Types.eq k _ _) ?_)
  have h0 : (⟨#[]⟩ : ByteArray) = ba (tyL (l.take 0)) := by simp [tyL, Lib.join_nil, ba]
  rw [h0]
  refine W.loop (S := Nat × Heap) (fun s => s.1 ≤ l.length ∧ Lh σ s.2) (fun s => [.v v, .v (.str (ba (tyL (l.take s.1)))), .v (.int .i64 (s.1 : Int))]) (fun s => s.2) (fun s => l.length - s.1)
    (fun ⟨i, σi⟩ ⟨hi, hl⟩ => ?_) (0, σ) ⟨Nat.zero_le _, Lh.refl _⟩
  simp only at hi hl ⊢
  refine W.to (fun k _ => by rw [spec_l3Types.L0_step]) ?_
  refine B.len h ?_
  refine B.ite (fun hlt => ?_) fun hlt => ?_
  rotate_left
  · obtain rfl : i = l.length := by omega
    try simp only [q_bind_some, castInt_int, q_castBool, q_castStr, q_castPtr, q_castFn, q_castAgg, q_castTuple, q_uncons, q_isNil, q_sl, q_nils, q_emp, q_ptr, q_nilp, q_fn, q_cond_true, q_cond_false, Bool.not_true, Bool.not_false, decide_true, decide_false, List.cons_append, List.nil_append, spec_l3Types.A0_x0]
    exact W.ret ⟨by rw [List.take_length], hl⟩
  have hil : i < l.length := by omega
  have hx : l[i]? = some l[i] := List.getElem?_eq_getElem hil
  generalize l[i] = n at hx
  have hnext := wrap_next hil (by omega)
  obtain ⟨r, o, hv, cs, hr, hP⟩ := h.at' hx
  have hr' := hl.rdc hr
  unfold IntRep at hP
  subst hP
  have hsz := ba_size (tyL (l.take i))
  have hln := tyL_len l i hi
  have hts := tword_size n
  have hstep := tyL_next hx
  have e62 : (2 : Nat) ^ 62 = 4611686018427387904 := by decide
  by_cases hi0 : 0 < i
  · have hp : (0 : Int) < (i : Int) := by omega
    rw [if_neg (by omega)] at hstep
    have s1 : (ba (tyL (l.take i))).size + (⟨#[44]⟩ : ByteArray).size ≤ 2 ^ 62 := by
      rw [hsz, e62]
      show _ + 1 ≤ _
      omega
    have a1 : ba (tyL (l.take i)) ++ (⟨#[44]⟩ : ByteArray) = ba (tyL (l.take i) ++ [44]) := ba_app _ _
    have s2 : (ba (tyL (l.take i) ++ [44])).size + (tword n).size ≤ 2 ^ 62 := by
      rw [ba_size, e62, List.length_append]
      show _ + 1 + _ ≤ _
      omega
    try simp only [q_bind_some, castInt_int, q_castBool, q_castStr, q_castPtr, q_castFn, q_castAgg, q_castTuple, q_uncons, q_isNil, q_sl, q_nils, q_emp, q_ptr, q_nilp, q_fn, q_cond_true, q_cond_false, Bool.not_true, Bool.not_false, decide_true, decide_false, List.cons_append, List.nil_append, hp, s1, hv, hr']
    refine B.give (specTreeType_gives _ σi) fun σ1 l1 => ?_
    try simp only [q_bind_some, castInt_int, q_castBool, q_castStr, q_castPtr, q_castFn, q_castAgg, q_castTuple, q_uncons, q_isNil, q_sl, q_nils, q_emp, q_ptr, q_nilp, q_fn, q_cond_true, q_cond_false, Bool.not_true, Bool.not_false, decide_true, decide_false, List.cons_append, List.nil_append, a1, s2, hnext]
    rw [ba_app, ← hstep]
    exact W.again (i + 1, σ1) ⟨by show i + 1 ≤ l.length; omega, hl.trans l1⟩ (by simp only; omega) rfl rfl
  · obtain rfl : i = 0 := by omega
    rw [if_pos rfl] at hstep
    have s2 : (ba (tyL (l.take 0))).size + (tword n).size ≤ 2 ^ 62 := by
      rw [hsz, e62]
      omega
    try simp only [q_bind_some, castInt_int, q_castBool, q_castStr, q_castPtr, q_castFn, q_castAgg, q_castTuple, q_uncons, q_isNil, q_sl, q_nils, q_emp, q_ptr, q_nilp, q_fn, q_cond_true, q_cond_false, Bool.not_true, Bool.not_false, decide_true, decide_false, List.cons_append, List.nil_append, hv, hr']
    refine B.give (specTreeType_gives _ σi) fun σ1 l1 => ?_
    have a2 : ba (tyL (l.take 0)) ++ tword n = ba (tyL (l.take (0 + 1))) := by
      rw [ba_app, hstep]
      simp [tyL, Lib.join_nil]
    try simp only [q_bind_some, castInt_int, q_castBool, q_castStr, q_castPtr, q_castFn, q_castAgg, q_castTuple, q_uncons, q_isNil, q_sl, q_nils, q_emp, q_ptr, q_nilp, q_fn, q_cond_true, q_cond_false, Bool.not_true, Bool.not_false, decide_true, decide_false, List.cons_append, List.nil_append, s2, a2, hnext]
    exact W.again (0 + 1, σ1) ⟨by show 0 + 1 ≤ l.length; omega, hl.trans l1⟩ (by simp only; omega) rfl rfl
theorem join_runs {b : Nat} {σ : Heap} {v : V} {l : List ByteArray} (h : GrS b σ v l) (sep : ByteArray) (h1 : l.length ≤ 1048576) (h2 : (Lib.join (l.map (·.data.toList)) sep.data.toList).length ≤ 1048576) :
    Runs G n_strings_Join [v, .str sep] σ (.str (ba (Lib.join (l.map (·.data.toList)) sep.data.toList))) σ := by
  obtain ⟨q, lim, hq, rfl, ty, hrow⟩ := h
  refine hook_runs (h := hkJoin) rfl ?_
  have hr : rdc σ q 0 l.length = some (l.map .str) := by
    unfold rdc
    rw [hrow]
    simp only [List.length_map, Nat.zero_add, List.drop_zero]
    rw [if_pos (Nat.le_refl _), List.take_of_length_le (by simp)]
  simp only [hkJoin, hr, Option.bind_some, strL_map]
  rw [if_pos ⟨by omega, by omega⟩]
  rfl
theorem typeList_gives {σ : Heap} (ht : TypeW σ) {v : V} {l : List Int} (hf : l.length ≤ 4) (h : RepS 1 IntRep σ v l) : Gives G n_impl_typeList [v] σ (.str (ba (tyL l))) := by
  refine Gives.of (W.to (fun k _ => impl_typeList.eq k _ _) ?_)
  refine W.len h ?_
  refine W.loop (S := Nat × V × Heap) (fun s => s.1 ≤ l.length ∧ Lh σ s.2.2 ∧ GrS σ.length s.2.2 s.2.1 ((l.take s.1).map tword)) (fun s => [.v s.2.1, .v v, .v (.int .i64 (l.length : Int)), .v (.int .i64 (s.1 : Int))]) (fun s => s.2.2) (fun s => l.length - s.1)
    (fun ⟨i, a, σi⟩ ⟨hi, hl, hg⟩ => ?_) (0, .sl σ.length 0 0 true, hnew σ 1 []) ⟨Nat.zero_le _, Lh.new _ _ _, GrS.new σ true⟩
  simp only at hi hl hg ⊢
  refine W.to (fun k _ => by rw [impl_typeList.L0_step]) ?_
  refine B.ite (fun hlt => ?_) fun hlt => ?_
  rotate_left
  · obtain rfl : i = l.length := by omega
    rw [List.take_length] at hg
    have hln := tyL_len l l.length (Nat.le_refl _)
    rw [List.take_length] at hln
    have he : Lib.join ((l.map tword).map (·.data.toList)) (⟨#[44]⟩ : ByteArray).data.toList = tyL l := by
      unfold tyL
      rw [List.map_map]
      rfl
    try simp only [q_bind_some, castInt_int, q_castBool, q_castStr, q_castPtr, q_castFn, q_castAgg, q_castTuple, q_uncons, q_isNil, q_sl, q_nils, q_emp, q_ptr, q_nilp, q_fn, q_cond_true, q_cond_false, Bool.not_true, Bool.not_false, decide_true, decide_false, List.cons_append, List.nil_append, impl_typeList.A0_x0]
    refine W.run (join_runs hg ⟨#[44]⟩ (by rw [List.length_map]; omega) (by rw [he]; omega)) ?_
    rw [he]
    try simp only [q_bind_some, castInt_int, q_castBool, q_castStr, q_castPtr, q_castFn, q_castAgg, q_castTuple, q_uncons, q_isNil, q_sl, q_nils, q_emp, q_ptr, q_nilp, q_fn, q_cond_true, q_cond_false, Bool.not_true, Bool.not_false, decide_true, decide_false, List.cons_append, List.nil_append]
    exact W.ret ⟨rfl, hl⟩
  have hil : i < l.length := by omega
  have hx : l[i]? = some l[i] := List.getElem?_eq_getElem hil
  generalize l[i] = n at hx
  have hnext := wrap_next hil (by omega)
  obtain ⟨r, o, hv, cs, hr, hP⟩ := h.at' hx
  have hr' := hl.rdc hr
  unfold IntRep at hP
  subst hP
  try simp only [q_bind_some, castInt_int, q_castBool, q_castStr, q_castPtr, q_castFn, q_castAgg, q_castTuple, q_uncons, q_isNil, q_sl, q_nils, q_emp, q_ptr, q_nilp, q_fn, q_cond_true, q_cond_false, Bool.not_true, Bool.not_false, decide_true, decide_false, List.cons_append, List.nil_append, hv, hr']
  refine B.run (implTreeType_runs n σi (hl.row _ _ ht)) ?_
  obtain ⟨v', σ', g1, g2, g3, g4, g5⟩ := hg.app' (tword n) (by rw [List.length_map, List.length_take]; omega)
  try simp only [q_bind_some, castInt_int, q_castBool, q_castStr, q_castPtr, q_castFn, q_castAgg, q_castTuple, q_uncons, q_isNil, q_sl, q_nils, q_emp, q_ptr, q_nilp, q_fn, q_cond_true, q_cond_false, Bool.not_true, Bool.not_false, decide_true, decide_false, List.cons_append, List.nil_append, g1, hnext]
  exact W.again (i + 1, v', σ') ⟨by show i + 1 ≤ l.length; omega, g3 σ (Nat.le_refl _) hl, by show GrS _ _ _ ((l.take (i + 1)).map tword); rw [take_next' hx, List.map_append]; exact g2⟩ (by simp only; omega) rfl rfl
end Go.R

/- FaceText of the reference . -/
set_option linter.unusedVariables false
set_option linter.unusedSimpArgs false
namespace Go.R
open Go.HM Go.Proofs
def lineL (x : FaceSig) : List UInt8 := x.name.data.toList ++ [40] ++ tyL x.args ++ [41] ++ (tword x.type).data.toList ++ [10]
def faceL (l : List FaceSig) (i : Nat) : List UInt8 := ((l.take i).map lineL).flatten
theorem faceL_next {l : List FaceSig} {i : Nat} {x : FaceSig} (h : l[i]? = some x) : faceL l (i + 1) = faceL l i ++ lineL x := by
  unfold faceL
  rw [take_next' h, List.map_append, List.flatten_append]
  simp
theorem line_len {x : FaceSig} (h : SigIs x) : (lineL x).length ≤ 64 := by
  have h1 := tyL_len x.args x.args.length (Nat.le_refl _)
  rw [List.take_length] at h1
  have h2 := tword_size x.type
  have h3 := ba_list (tword x.type)
  have h4 := ba_list x.name
  have h5 := h.1.2.1
  have h6 := h.2.1.1
  unfold lineL
  simp only [List.length_append, List.length_cons, List.length_nil]
  omega
theorem faceL_len {l : List FaceSig} (h : SigTo l l.length) : ∀ i, i ≤ l.length → (faceL l i).length ≤ 64 * i
  | 0, _ => by simp [faceL]
  | i + 1, hi => by
    have hx : l[i]? = some (l[i]'(by omega)) := List.getElem?_eq_getElem (by omega)
    have ih := faceL_len h i (by omega)
    have hl := line_len (h i _ (by omega) hx)
    rw [faceL_next hx, List.length_append]
    omega
theorem prot2 (r : Nat) (σ : Heap) : prot [r, r] σ = prot [r] σ := by
  show toRo (toRo σ r) r = toRo σ r
  cases h : σ[r]? with
  | none =>
    have e : toRo σ r = σ := by unfold toRo; rw [h]
    rw [e, e]
  | some x =>
    cases x with
    | none =>
      have e : toRo σ r = σ := by unfold toRo; rw [h]
      rw [e, e]
    | some row =>
      have e : toRo σ r = σ.set r (some ⟨row.cells, row.esz, true, row.ty⟩) := by unfold toRo; rw [h]
      rw [e]
      unfold toRo
      rw [List.getElem?_set_self (get_lt h)]
      simp
theorem unprot2 (r : Nat) (σ τ : Heap) : unprot [r, r] σ τ = unprot [r] σ τ := by
  show back σ (back σ τ r) r = back σ τ r
  unfold back
  split <;> simp
theorem specFaceText_gives {σ : Heap} {v : V} {l : List FaceSig} (hF : ∀ x, x ∈ l → x.name.size ≤ 1099511627776) (h : RepS 3 (FaceSig.Rep σ) σ v l) : Gives G n_spec_FaceText [v] σ (.str (if FaceIs l then ba (faceL l l.length) else ⟨#[]⟩)) := by
  refine Gives.of (W.to (fun k _ => spec_FaceText.eq k _ _) ?_)
  refine W.give (specFaceOk_gives hF h) fun σ1 l1 => ?_
  by_cases hok : FaceIs l
  rotate_left
  · try simp only [q_bind_some, castInt_int, q_castBool, q_castStr, q_castPtr, q_castFn, q_castAgg, q_castTuple, q_uncons, q_isNil, q_sl, q_nils, q_emp, q_ptr, q_nilp, q_fn, q_cond_true, q_cond_false, Bool.not_true, Bool.not_false, decide_true, decide_false, List.cons_append, List.nil_append, decide_eq_false hok]
    exact W.ret ⟨by rw [if_neg hok], l1⟩
  try simp only [q_bind_some, castInt_int, q_castBool, q_castStr, q_castPtr, q_castFn, q_castAgg, q_castTuple, q_uncons, q_isNil, q_sl, q_nils, q_emp, q_ptr, q_nilp, q_fn, q_cond_true, q_cond_false, Bool.not_true, Bool.not_false, decide_true, decide_false, List.cons_append, List.nil_append, decide_eq_true hok]
  have hlen := faceL_len hok.2.1
  have h8 := hok.1
  rw [if_pos hok]
  have h0 : (⟨#[]⟩ : ByteArray) = ba (faceL l 0) := by simp [faceL, ba]
  rw [h0]
  have e62 : (2 : Nat) ^ 62 = 4611686018427387904 := by decide
  refine W.loop (S := Nat × Heap) (fun s => s.1 ≤ l.length ∧ Lh σ s.2) (fun s => [.v v, .v (.str (ba (faceL l s.1))), .v (.int .i64 (s.1 : Int))]) (fun s => s.2) (fun s => l.length - s.1)
    (fun ⟨i, σi⟩ ⟨hi, hl⟩ => ?_) (0, σ1) ⟨Nat.zero_le _, l1⟩
  simp only at hi hl ⊢
  refine W.to (fun k _ => by rw [spec_FaceText.L0_step]) ?_
  refine B.len h ?_
  refine B.ite (fun hlt => ?_) fun hlt => ?_
  rotate_left
  · obtain rfl : i = l.length := by omega
    try simp only [q_bind_some, castInt_int, q_castBool, q_castStr, q_castPtr, q_castFn, q_castAgg, q_castTuple, q_uncons, q_isNil, q_sl, q_nils, q_emp, q_ptr, q_nilp, q_fn, q_cond_true, q_cond_false, Bool.not_true, Bool.not_false, decide_true, decide_false, List.cons_append, List.nil_append, spec_FaceText.A0_x0]
    exact W.ret ⟨rfl, hl⟩
  have hil : i < l.length := by omega
  have hx : l[i]? = some l[i] := List.getElem?_eq_getElem hil
  generalize l[i] = x at hx
  have hnext := wrap_next hil (by omega)
  have hsx := hok.2.1 i x hil hx
  have hstep := faceL_next hx
  have hl1 := hlen i hi
  have hl2 := line_len hsx
  obtain ⟨r, o, hv, cs, hr, hP⟩ := h.at' hx
  have hr' := hl.rdc hr
  cases hP with
  | mk q0 =>
  rename_i a0
  have g0 : rdc σi r (o + 0) 1 = some [.str x.name] := rdc_sub hr' 0 1 (by omega)
  have g1 : rdc σi r (o + 1) 1 = some [a0] := rdc_sub hr' 1 1 (by omega)
  have g2 : rdc σi r (o + 2) 1 = some [.int .i64 x.type] := rdc_sub hr' 2 1 (by omega)
  have hb4 := ba_list x.name
  have hb3 := ba_list (tword x.type)
  unfold lineL at hl2 hstep
  simp only [List.length_append, List.length_cons, List.length_nil] at hl2
  have k1 : (⟨#[40]⟩ : ByteArray) = ba [40] := rfl
  have k2 : (⟨#[41]⟩ : ByteArray) = ba [41] := rfl
  have k3 : (⟨#[10]⟩ : ByteArray) = ba [10] := rfl
  have d1 : ∀ L : List UInt8, (ba L).data.toList = L := fun L => rfl
  have big : ∀ (L : List UInt8) (n : Nat), L.length ≤ 2048 → n ≤ 2048 → (ba L).size + n ≤ 2 ^ 62 := fun L n h1 h2 => by
    rw [ba_size, e62]
    omega
  have z1 := big (faceL l i) x.name.size (by omega) (by omega)
  have z2 := big (faceL l i ++ x.name.data.toList) (ba [40]).size (by simp only [List.length_append]; omega) (by rw [ba_size]; simp)
  have z3 := big (faceL l i ++ x.name.data.toList ++ [40]) (ba (tyL x.args)).size (by simp only [List.length_append, List.length_cons, List.length_nil]; omega) (by rw [ba_size]; omega)
  have z4 := big (faceL l i ++ x.name.data.toList ++ [40] ++ tyL x.args) (ba [41]).size (by simp only [List.length_append, List.length_cons, List.length_nil]; omega) (by rw [ba_size]; simp)
  have z5 := big (faceL l i ++ x.name.data.toList ++ [40] ++ tyL x.args ++ [41]) (tword x.type).size (by simp only [List.length_append, List.length_cons, List.length_nil]; omega) (by omega)
  have z6 := big (faceL l i ++ x.name.data.toList ++ [40] ++ tyL x.args ++ [41] ++ (tword x.type).data.toList) (ba [10]).size (by simp only [List.length_append, List.length_cons, List.length_nil]; omega) (by rw [ba_size]; simp)
  simp only [← List.append_assoc] at hstep
  try simp only [q_bind_some, castInt_int, q_castBool, q_castStr, q_castPtr, q_castFn, q_castAgg, q_castTuple, q_uncons, q_isNil, q_sl, q_nils, q_emp, q_ptr, q_nilp, q_fn, q_cond_true, q_cond_false, Bool.not_true, Bool.not_false, decide_true, decide_false, List.cons_append, List.nil_append, hv, g0, g1, g2, k1, k2, k3, ba_app, d1, prot2, unprot2, z1, z2]
  refine B.give (l3Types_gives (by have := hsx.2.1.1; omega) ((q0.le hl).prot1 r)) fun σ2 l2 => ?_
  try simp only [q_bind_some, castInt_int, q_castBool, q_castStr, q_castPtr, q_castFn, q_castAgg, q_castTuple, q_uncons, q_isNil, q_sl, q_nils, q_emp, q_ptr, q_nilp, q_fn, q_cond_true, q_cond_false, Bool.not_true, Bool.not_false, decide_true, decide_false, List.cons_append, List.nil_append, k1, k2, k3, ba_app, d1, prot2, unprot2, z3, z4]
  refine B.give (specTreeType_gives _ _) fun σ3 l3 => ?_
  try simp only [q_bind_some, castInt_int, q_castBool, q_castStr, q_castPtr, q_castFn, q_castAgg, q_castTuple, q_uncons, q_isNil, q_sl, q_nils, q_emp, q_ptr, q_nilp, q_fn, q_cond_true, q_cond_false, Bool.not_true, Bool.not_false, decide_true, decide_false, List.cons_append, List.nil_append, k1, k2, k3, ba_app, d1, prot2, unprot2, z5, z6, hnext]
  rw [← hstep]
  exact W.again (i + 1, _) ⟨by show i + 1 ≤ l.length; omega, (hl.trans l2.unprot1).trans l3.unprot1⟩ (by simp only; omega) rfl rfl
end Go.R

/- FaceText of the program. -/
set_option linter.unusedVariables false
set_option linter.unusedSimpArgs false
namespace Go.R
open Go.HM Go.Proofs
theorem implFaceText_gives {σ : Heap} (ht : TypeW σ) {v : V} {l : List FaceSig} (hf : l.length ≤ 1073741824) (hF : ∀ x, x ∈ l → x.name.size ≤ 1099511627776) (h : RepS 3 (FaceSig.Rep σ) σ v l) : Gives G n_impl_FaceText [v] σ (.str (if FaceIs l then ba (faceL l l.length) else ⟨#[]⟩)) := by
  refine Gives.of (W.to (fun k _ => impl_FaceText.eq k _ _) ?_)
  refine W.give (implFaceOk_gives hf hF h) fun σ1 l1 => ?_
  by_cases hok : FaceIs l
  rotate_left
  · try simp only [q_bind_some, castInt_int, q_castBool, q_castStr, q_castPtr, q_castFn, q_castAgg, q_castTuple, q_uncons, q_isNil, q_sl, q_nils, q_emp, q_ptr, q_nilp, q_fn, q_cond_true, q_cond_false, Bool.not_true, Bool.not_false, decide_true, decide_false, List.cons_append, List.nil_append, decide_eq_false hok]
    exact W.ret ⟨by rw [if_neg hok], l1⟩
  try simp only [q_bind_some, castInt_int, q_castBool, q_castStr, q_castPtr, q_castFn, q_castAgg, q_castTuple, q_uncons, q_isNil, q_sl, q_nils, q_emp, q_ptr, q_nilp, q_fn, q_cond_true, q_cond_false, Bool.not_true, Bool.not_false, decide_true, decide_false, List.cons_append, List.nil_append, decide_eq_true hok]
  have hlen := faceL_len hok.2.1
  have h8 := hok.1
  rw [if_pos hok]
  have h0 : (⟨#[]⟩ : ByteArray) = ba (faceL l 0) := by simp [faceL, ba]
  have e62 : (2 : Nat) ^ 62 = 4611686018427387904 := by decide
  have hl1 : Lh σ1 (hnewT σ1 (hbT + 1) 2 [.nilp, .nils]) := Lh.append _ _
  have hno : ∀ row, σ1[σ1.length]? ≠ some (some row) := fun row hc => by rw [List.getElem?_eq_none (Nat.le_refl _)] at hc; cases hc
  refine W.len h ?_
  refine W.loop (S := Nat × Heap) (fun s => s.1 ≤ l.length ∧ Bld (σ1.length + 1) s.2 σ1.length (ba (faceL l s.1)) ∧ Lh σ1 s.2 ∧ σ1.length + 1 ≤ s.2.length)
    (fun s => [.v (.ptr σ1.length 0), .v v, .v (.int .i64 (l.length : Int)), .v (.int .i64 (s.1 : Int))]) (fun s => s.2) (fun s => l.length - s.1)
    (fun ⟨i, σi⟩ ⟨hi, hB, hle, hlen'⟩ => ?_) (0, hnewT σ1 (hbT + 1) 2 [.nilp, .nils]) ⟨Nat.zero_le _, by show Bld _ _ _ (ba (faceL l 0)); rw [← h0]; exact Bld.new σ1, hl1, by simp [hnewT]⟩
  simp only at hi hB hle hlen' ⊢
  have hl := l1.trans hle
  have hl1 := hlen i hi
  have hbs := ba_size (faceL l i)
  refine W.to (fun k _ => by rw [impl_FaceText.L0_step]) ?_
  refine B.ite (fun hlt => ?_) fun hlt => ?_
  rotate_left
  · obtain rfl : i = l.length := by omega
    try simp only [q_bind_some, castInt_int, q_castBool, q_castStr, q_castPtr, q_castFn, q_castAgg, q_castTuple, q_uncons, q_isNil, q_sl, q_nils, q_emp, q_ptr, q_nilp, q_fn, q_cond_true, q_cond_false, Bool.not_true, Bool.not_false, decide_true, decide_false, List.cons_append, List.nil_append, impl_FaceText.A0_x0]
    obtain ⟨σ2, c2, K2⟩ := builderText_runs hB (by omega)
    refine W.run c2 ?_
    try simp only [q_bind_some, castInt_int, q_castBool, q_castStr, q_castPtr, q_castFn, q_castAgg, q_castTuple, q_uncons, q_isNil, q_sl, q_nils, q_emp, q_ptr, q_nilp, q_fn, q_cond_true, q_cond_false, Bool.not_true, Bool.not_false, decide_true, decide_false, List.cons_append, List.nil_append]
    exact W.ret ⟨rfl, l1.trans (K2.lh hle (by omega) hno)⟩
  have hil : i < l.length := by omega
  have hx : l[i]? = some l[i] := List.getElem?_eq_getElem hil
  generalize l[i] = x at hx
  have hnext := wrap_next hil (by omega)
  have hsx := hok.2.1 i x hil hx
  have hstep := faceL_next hx
  have hl2 := line_len hsx
  obtain ⟨r, o, hv, cs, hr, hP⟩ := h.at' hx
  have hr' := hl.rdc hr
  cases hP with
  | mk q0 =>
  have hb4 := ba_list x.name
  have hb3 := ba_list (tword x.type)
  have hl3 := hl2
  unfold lineL at hl2
  simp only [List.length_append, List.length_cons, List.length_nil] at hl2
  have k1 : (⟨#[40]⟩ : ByteArray) = ba [40] := rfl
  have k2 : (⟨#[41]⟩ : ByteArray) = ba [41] := rfl
  have k3 : (⟨#[10]⟩ : ByteArray) = ba [10] := rfl
  have d1 : ∀ L : List UInt8, (ba L).data.toList = L := fun L => rfl
  have kn : x.name = ba x.name.data.toList := ba_self _
  have big : ∀ (L : List UInt8) (n : Nat), L.length ≤ 2048 → n ≤ 2048 → (ba L).size + n ≤ 2 ^ 62 := fun L n h1 h2 => by
    rw [ba_size, e62]
    omega
  have z2 := big x.name.data.toList (ba [40]).size (by omega) (by rw [ba_size]; simp)
  have z3 := big (x.name.data.toList ++ [40]) (ba (tyL x.args)).size (by simp only [List.length_append, List.length_cons, List.length_nil]; omega) (by rw [ba_size]; omega)
  have z4 := big (x.name.data.toList ++ [40] ++ tyL x.args) (ba [41]).size (by simp only [List.length_append, List.length_cons, List.length_nil]; omega) (by rw [ba_size]; simp)
  have z5 := big (x.name.data.toList ++ [40] ++ tyL x.args ++ [41]) (tword x.type).size (by simp only [List.length_append, List.length_cons, List.length_nil]; omega) (by omega)
  have z6 := big (x.name.data.toList ++ [40] ++ tyL x.args ++ [41] ++ (tword x.type).data.toList) (ba [10]).size (by simp only [List.length_append, List.length_cons, List.length_nil]; omega) (by rw [ba_size]; simp)
  have hline : ba (x.name.data.toList ++ [40] ++ tyL x.args ++ [41] ++ (tword x.type).data.toList ++ [10]) = ba (lineL x) := rfl
  generalize hnm : x.name.data.toList = nm at kn z2 z3 z4 z5 z6 hline
  rw [kn] at hr'
  try simp only [q_bind_some, castInt_int, q_castBool, q_castStr, q_castPtr, q_castFn, q_castAgg, q_castTuple, q_uncons, q_isNil, q_sl, q_nils, q_emp, q_ptr, q_nilp, q_fn, q_cond_true, q_cond_false, Bool.not_true, Bool.not_false, decide_true, decide_false, List.cons_append, List.nil_append, hv, hr', k1, k2, k3, ba_app, d1, z2]
  refine B.give (typeList_gives (hl.row _ _ ht) hsx.2.1.1 (q0.le hl)) fun σ2 l2 => ?_
  try simp only [q_bind_some, castInt_int, q_castBool, q_castStr, q_castPtr, q_castFn, q_castAgg, q_castTuple, q_uncons, q_isNil, q_sl, q_nils, q_emp, q_ptr, q_nilp, q_fn, q_cond_true, q_cond_false, Bool.not_true, Bool.not_false, decide_true, decide_false, List.cons_append, List.nil_append, k1, k2, k3, ba_app, d1, z3, z4]
  refine B.run (implTreeType_runs x.type σ2 ((hl.trans l2).row _ _ ht)) ?_
  try simp only [q_bind_some, castInt_int, q_castBool, q_castStr, q_castPtr, q_castFn, q_castAgg, q_castTuple, q_uncons, q_isNil, q_sl, q_nils, q_emp, q_ptr, q_nilp, q_fn, q_cond_true, q_cond_false, Bool.not_true, Bool.not_false, decide_true, decide_false, List.cons_append, List.nil_append, k1, k2, k3, ba_app, d1, z5, z6, hline]
  obtain ⟨σ3, c3, B3, K3⟩ := writeString_runs (F := σ1.length + 1) (Nat.le_trans hlen' l2.len) (hB.keep l2) (ba (lineL x)) (by rw [hbs, ba_size]; omega)
  refine B.run c3 ?_
  try simp only [q_bind_some, castInt_int, q_castBool, q_castStr, q_castPtr, q_castFn, q_castAgg, q_castTuple, q_uncons, q_isNil, q_sl, q_nils, q_emp, q_ptr, q_nilp, q_fn, q_cond_true, q_cond_false, Bool.not_true, Bool.not_false, decide_true, decide_false, List.cons_append, List.nil_append, hnext]
  rw [ba_app, d1, ← hstep] at B3
  exact W.again (i + 1, σ3) ⟨by show i + 1 ≤ l.length; omega, B3, K3.lh (hle.trans l2) (by omega) hno, Nat.le_trans (Nat.le_trans hlen' l2.len) K3.1⟩ (by simp only; omega) rfl rfl
end Go.R

/- Faces read: plain. What either reads, and that it reads what is written. -/
set_option linter.unusedVariables false
set_option linter.unusedSimpArgs false
namespace Go.R
open Go.HM Go.Proofs
def typeNo (s : ByteArray) : Int := if s = ⟨#[105, 110, 116]⟩ then 1 else if s = ⟨#[98, 111, 111, 108]⟩ then 2 else if s = ⟨#[114, 111, 119]⟩ then 3 else 0
def readT (l : List UInt8) : List Int := if l = [] then [] else (splitL 44 l).map fun w => typeNo (ba w)
/-- A line, by the program. -/
def lineP (l : List UInt8) : FaceSig := ⟨ba (cutAt 40 l).1, readT (cutAt 41 (cutAt 40 l).2).1, typeNo (ba (cutAt 41 (cutAt 40 l).2).2)⟩
def faceP (l : List UInt8) : List FaceSig := if l = [] then [] else (splitL 10 (trimL 10 l)).map lineP
/-- A line, by the reference. -/
def lineQ (l : List UInt8) : FaceSig :=
  if Lib.indexByte l 40 < 0 then ⟨⟨#[]⟩, [], 0⟩ else if Lib.indexByte l 41 < Lib.indexByte l 40 then ⟨⟨#[]⟩, [], 0⟩ else
  ⟨ba (l.take (Lib.indexByte l 40).toNat), readT ((l.take (Lib.indexByte l 41).toNat).drop ((Lib.indexByte l 40).toNat + 1)), typeNo (ba (l.drop ((Lib.indexByte l 41).toNat + 1)))⟩
def faceQ (l : List UInt8) : List FaceSig := ((splitL 10 l).take ((splitL 10 l).length - 1)).map lineQ
def RdT (l : List UInt8) (x : List FaceSig) : Prop := FaceIs x ∧ faceL x x.length = l
def small (c : UInt8) : Prop := c = 40 ∨ c = 41 ∨ c = 44 ∨ c = 10
theorem name_no {s : ByteArray} (h : IsName s) {c : UInt8} (hc : small c) : c ∉ s.data.toList := fun hm => by
  obtain ⟨i, hi, e⟩ := List.getElem_of_mem hm
  have hs : i < s.size := by simpa using hi
  have := h.1 i hs
  have e2 : s[i] = c := by
    obtain ⟨⟨l⟩⟩ := s
    exact e
  rw [e2] at this
  unfold small at hc
  rcases hc with rfl | rfl | rfl | rfl <;> (simp at this)
theorem word_no (n : Int) {c : UInt8} (hc : small c) : c ∉ (tword n).data.toList := by
  have key : ∀ d : UInt8, small d → d ∉ ([105, 110, 116] : List UInt8) ∧ d ∉ ([98, 111, 111, 108] : List UInt8) ∧ d ∉ ([114, 111, 119] : List UInt8) := fun d hd => by
    unfold small at hd
    rcases hd with rfl | rfl | rfl | rfl <;> decide
  obtain ⟨h1, h2, h3⟩ := key c hc
  unfold tword
  split
  · exact h1
  split
  · exact h2
  split
  · exact h3
  · simp
theorem join_no {c : UInt8} (hc : c = 40 ∨ c = 41 ∨ c = 10) : ∀ l : List Int, c ∉ tyL l
  | l => fun hm => by
    have hs : small c := by unfold small; rcases hc with h | h | h <;> simp [h]
    have h44 : c ≠ 44 := by rcases hc with rfl | rfl | rfl <;> decide
    have key : ∀ xs : List (List UInt8), (∀ x, x ∈ xs → c ∉ x) → c ∉ Lib.join xs [44] := fun xs => by
      intro hx
      cases xs with
      | nil => simp [Lib.join_nil]
      | cons y r =>
        rw [Lib.join_cons]
        have ht : ∀ r : List (List UInt8), (∀ x, x ∈ r → c ∉ x) → c ∉ Lib.joinTail [44] r := fun r => by
          induction r with
          | nil => intro _; simp [Lib.joinTail]
          | cons z r ih =>
            intro hz
            have := ih fun x hx => hz x (by simp [hx])
            have h2 := hz z (by simp)
            simp [Lib.joinTail] at this ⊢
            exact ⟨h44, h2, this⟩
        have h1 := hx y (by simp)
        have h2 := ht r fun x hx' => hx x (by simp [hx'])
        simp [h1, h2]
    refine key (l.map fun n => (tword n).data.toList) (fun x hx => ?_) hm
    obtain ⟨n, _, rfl⟩ := List.mem_map.1 hx
    exact word_no n hs
theorem split_join : ∀ xs : List (List UInt8), xs ≠ [] → (∀ x, x ∈ xs → (44 : UInt8) ∉ x) → splitL 44 (Lib.join xs [44]) = xs
  | [], h, _ => absurd rfl h
  | [x], _, h => by
    rw [Lib.join_one]
    exact split_plain (h x (by simp))
  | x :: y :: r, _, h => by
    have e : Lib.join (x :: y :: r) [44] = x ++ 44 :: Lib.join (y :: r) [44] := by
      rw [Lib.join_cons, Lib.join_cons]
      simp [Lib.joinTail]
    rw [e, split_at (h x (by simp)), split_join (y :: r) (by simp) fun z hz => h z (by simp [hz])]
theorem typeNo_word {n : Int} (h : IsT n) : typeNo (tword n) = n := by
  unfold IsT at h
  have : n = 1 ∨ n = 2 ∨ n = 3 := by omega
  rcases this with rfl | rfl | rfl <;> (unfold typeNo tword; decide)
theorem word_ne {n : Int} (h : IsT n) : (tword n).data.toList ≠ [] := by
  unfold IsT at h
  have : n = 1 ∨ n = 2 ∨ n = 3 := by omega
  rcases this with rfl | rfl | rfl <;> (unfold tword; decide)
theorem readT_tyL {l : List Int} (h : Typs l) : readT (tyL l) = l := by
  unfold readT
  cases l with
  | nil => simp [tyL, Lib.join_nil]
  | cons n l =>
    have hne : tyL (n :: l) ≠ [] := by
      unfold tyL
      rw [List.map_cons, Lib.join_cons]
      have := word_ne (h.2 n (by simp))
      simp [this]
    rw [if_neg hne]
    unfold tyL
    rw [split_join _ (by simp) fun x hx => by
      obtain ⟨m, _, rfl⟩ := List.mem_map.1 hx
      exact word_no m (by unfold small; simp)]
    rw [List.map_map]
    conv => rhs; rw [← List.map_id (n :: l)]
    apply List.map_congr_left
    intro m hm
    show typeNo (ba (tword m).data.toList) = m
    rw [← ba_self]
    exact typeNo_word (h.2 m hm)
/-- A line without its end. -/
def lineO (x : FaceSig) : List UInt8 := x.name.data.toList ++ 40 :: (tyL x.args ++ 41 :: (tword x.type).data.toList)
theorem lineO_eq (x : FaceSig) : lineL x = lineO x ++ [10] := by
  unfold lineL lineO
  simp
theorem lineO_no {x : FaceSig} (h : SigIs x) : (10 : UInt8) ∉ lineO x := by
  have h1 := name_no h.1 (c := 10) (by unfold small; simp)
  have h2 := join_no (c := 10) (by simp) x.args
  have h3 := word_no x.type (c := 10) (by unfold small; simp)
  unfold lineO
  simp [h1, h2, h3]
theorem lineP_at {x : FaceSig} (h : SigIs x) : lineP (lineO x) = x := by
  have h1 := name_no h.1 (c := 40) (by unfold small; simp)
  have h2 := join_no (c := 41) (by simp) x.args
  unfold lineP lineO
  rw [cutAt_at h1]
  simp only
  rw [cutAt_at h2]
  simp only
  rw [← ba_self, ← ba_self, readT_tyL h.2.1, typeNo_word h.2.2]
theorem lineQ_at {x : FaceSig} (h : SigIs x) : lineQ (lineO x) = x := by
  have h1 := name_no h.1 (c := 40) (by unfold small; simp)
  have h2 := join_no (c := 41) (by simp) x.args
  have h3 := name_no h.1 (c := 41) (by unfold small; simp)
  have e1 : Lib.indexByte (lineO x) 40 = (x.name.data.toList.length : Int) := idx_at h1 _
  have eq : lineO x = (x.name.data.toList ++ 40 :: tyL x.args) ++ 41 :: (tword x.type).data.toList := by unfold lineO; simp
  have e2 : Lib.indexByte (lineO x) 41 = ((x.name.data.toList ++ 40 :: tyL x.args).length : Int) := by
    rw [eq]
    exact idx_at (by simp [h2, h3]) _
  unfold lineQ
  rw [e1, e2, if_neg (by omega), if_neg (by simp; omega), Int.toNat_natCast, Int.toNat_natCast]
  have t1 : (lineO x).take x.name.data.toList.length = x.name.data.toList := by unfold lineO; exact List.take_left
  have t2 : (lineO x).take (x.name.data.toList ++ 40 :: tyL x.args).length = x.name.data.toList ++ 40 :: tyL x.args := by rw [eq]; exact List.take_left
  have t3 : (x.name.data.toList ++ 40 :: tyL x.args).drop (x.name.data.toList.length + 1) = tyL x.args := by
    rw [show x.name.data.toList.length + 1 = (x.name.data.toList ++ [40]).length by simp, show x.name.data.toList ++ 40 :: tyL x.args = (x.name.data.toList ++ [40]) ++ tyL x.args by simp]
    exact List.drop_left
  have t4 : (lineO x).drop ((x.name.data.toList ++ 40 :: tyL x.args).length + 1) = (tword x.type).data.toList := by
    rw [eq, show (x.name.data.toList ++ 40 :: tyL x.args).length + 1 = ((x.name.data.toList ++ 40 :: tyL x.args) ++ [41]).length by simp; omega, show (x.name.data.toList ++ 40 :: tyL x.args) ++ 41 :: (tword x.type).data.toList = ((x.name.data.toList ++ 40 :: tyL x.args) ++ [41]) ++ (tword x.type).data.toList by simp]
    exact List.drop_left
  rw [t1, t2, t3, t4, ← ba_self, ← ba_self, readT_tyL h.2.1, typeNo_word h.2.2]
theorem sigs_all {l : List FaceSig} (h : FaceIs l) : ∀ x, x ∈ l → SigIs x := fun x hx => by
  obtain ⟨j, hj⟩ := List.getElem?_of_mem hx
  exact h.2.1 j x (lt_of_get hj) hj
theorem split_lines : ∀ l : List FaceSig, (∀ x, x ∈ l → SigIs x) → splitL 10 ((l.map lineL).flatten) = l.map lineO ++ [[]]
  | [], _ => rfl
  | x :: l, h => by
    rw [List.map_cons, List.flatten_cons, lineO_eq, List.append_assoc]
    show splitL 10 (lineO x ++ 10 :: (l.map lineL).flatten) = _
    rw [split_at (lineO_no (h x (by simp))), split_lines l fun y hy => h y (by simp [hy])]
    rfl
theorem split_trim : ∀ l : List FaceSig, l ≠ [] → (∀ x, x ∈ l → SigIs x) → splitL 10 (trimL 10 ((l.map lineL).flatten)) = l.map lineO := by
  intro l hne h
  have key : ∀ l : List FaceSig, l ≠ [] → (∀ x, x ∈ l → SigIs x) → ∃ m, (l.map lineL).flatten = m ++ [10] ∧ splitL 10 m = l.map lineO := fun l => by
    induction l with
    | nil => intro hn; exact absurd rfl hn
    | cons x l ih =>
      intro _ h
      rw [List.map_cons, List.flatten_cons, lineO_eq]
      cases l with
      | nil => exact ⟨lineO x, by simp, split_plain (lineO_no (h x (by simp)))⟩
      | cons y l =>
        obtain ⟨m, m1, m2⟩ := ih (by simp) fun z hz => h z (by simp [hz])
        refine ⟨lineO x ++ 10 :: m, by rw [m1]; simp, ?_⟩
        rw [split_at (lineO_no (h x (by simp))), m2]
        rfl
  obtain ⟨m, m1, m2⟩ := key l hne h
  rw [m1, trim_at, m2]
theorem map_back {l : List FaceSig} {f : List UInt8 → FaceSig} (h : ∀ x, x ∈ l → f (lineO x) = x) : (l.map lineO).map f = l := by
  rw [List.map_map]
  conv => rhs; rw [← List.map_id l]
  exact List.map_congr_left fun x hx => h x hx
theorem faceL_all (l : List FaceSig) : faceL l l.length = (l.map lineL).flatten := by unfold faceL; rw [List.take_length]
theorem faceP_back {l : List FaceSig} (h : FaceIs l) : faceP (faceL l l.length) = l := by
  have hs := sigs_all h
  rw [faceL_all]
  unfold faceP
  cases l with
  | nil => simp
  | cons x l =>
    have hne : ((x :: l).map lineL).flatten ≠ [] := by
      rw [List.map_cons, List.flatten_cons, lineO_eq]
      simp
    rw [if_neg hne, split_trim _ (by simp) hs, map_back fun y hy => lineP_at (hs y hy)]
theorem faceQ_back {l : List FaceSig} (h : FaceIs l) : faceQ (faceL l l.length) = l := by
  have hs := sigs_all h
  rw [faceL_all]
  unfold faceQ
  rw [split_lines l hs]
  have : (l.map lineO ++ [[]]).length - 1 = (l.map lineO).length := by simp
  rw [this, List.take_left, map_back fun y hy => lineQ_at (hs y hy)]
theorem rdT_P {t : List UInt8} {x : List FaceSig} (h : RdT t x) : faceP t = x := by rw [← h.2]; exact faceP_back h.1
theorem rdT_Q {t : List UInt8} {x : List FaceSig} (h : RdT t x) : faceQ t = x := by rw [← h.2]; exact faceQ_back h.1
theorem line_len' {x : FaceSig} (h : SigIs x) : (lineL x).length ≤ 40 := by
  have h1 := tyL_len x.args x.args.length (Nat.le_refl _)
  rw [List.take_length] at h1
  have h2 := tword_size x.type
  have h3 := ba_list (tword x.type)
  have h4 := ba_list x.name
  have h5 := h.1.2.1
  have h6 := h.2.1.1
  unfold lineL
  simp only [List.length_append, List.length_cons, List.length_nil]
  omega
theorem face_len {l : List FaceSig} (h : FaceIs l) : (faceL l l.length).length ≤ 320 := by
  have key : ∀ l : List FaceSig, (∀ x, x ∈ l → SigIs x) → ((l.map lineL).flatten).length ≤ 40 * l.length := fun l => by
    induction l with
    | nil => intro _; simp
    | cons x l ih =>
      intro h
      have h1 := line_len' (h x (by simp))
      have h2 := ih fun y hy => h y (by simp [hy])
      rw [List.map_cons, List.flatten_cons, List.length_append, List.length_cons]
      omega
  rw [faceL_all]
  have := key l (sigs_all h)
  have := h.1
  omega
/-- The pieces are no longer than the whole. -/
theorem cutF_le (c : UInt8) (n : Nat) : ∀ (l : List UInt8) (A : List (List UInt8)) (w : List UInt8), (∀ x, x ∈ A → x.length ≤ n) → w.length + l.length ≤ n → (∀ x, x ∈ (cutF c (A, w) l).1 → x.length ≤ n) ∧ (cutF c (A, w) l).2.length ≤ n
  | [], A, w, hA, hw => ⟨hA, by simpa [cutF] using hw⟩
  | b :: l, A, w, hA, hw => by
    simp only [List.length_cons] at hw
    show (∀ x, x ∈ (cutF c (if b = c then (A ++ [w], []) else (A, w ++ [b])) l).1 → x.length ≤ n) ∧ (cutF c (if b = c then (A ++ [w], []) else (A, w ++ [b])) l).2.length ≤ n
    split
    · refine cutF_le c n l _ _ (fun x hx => ?_) (by simp; omega)
      rcases List.mem_append.1 hx with hx | hx
      · exact hA x hx
      · simp at hx
        subst hx
        omega
    · exact cutF_le c n l _ _ hA (by simp; omega)
theorem split_le (c : UInt8) (l : List UInt8) : ∀ x, x ∈ splitL c l → x.length ≤ l.length := by
  obtain ⟨h1, h2⟩ := cutF_le c l.length l [] [] (fun x hx => (List.not_mem_nil hx).elim) (by simp)
  intro x hx
  unfold splitL at hx
  rcases List.mem_append.1 hx with hx | hx
  · exact h1 x hx
  · simp at hx
    subst hx
    exact h2
theorem lineP_name (l : List UInt8) : (lineP l).name.size ≤ l.length := by
  show (ba (cutAt 40 l).1).size ≤ _
  rw [ba_size]
  exact (cutAt_le 40 l).1
theorem lineQ_name (l : List UInt8) : (lineQ l).name.size ≤ l.length := by
  unfold lineQ
  split
  · exact Nat.zero_le _
  split
  · exact Nat.zero_le _
  · show (ba _).size ≤ _
    rw [ba_size, List.length_take]
    omega
theorem faceP_le (l : List UInt8) : (faceP l).length ≤ l.length + 1 ∧ ∀ x, x ∈ faceP l → x.name.size ≤ l.length := by
  unfold faceP
  have ht := trim_le 10 l
  split
  · exact ⟨Nat.zero_le _, fun x hx => (List.not_mem_nil hx).elim⟩
  · refine ⟨?_, fun x hx => ?_⟩
    · rw [List.length_map]
      have := split_len 10 (trimL 10 l)
      omega
    · obtain ⟨w, hw, rfl⟩ := List.mem_map.1 hx
      have h1 := lineP_name w
      have h2 := split_le 10 (trimL 10 l) w hw
      omega
theorem faceQ_le (l : List UInt8) : (faceQ l).length ≤ l.length ∧ ∀ x, x ∈ faceQ l → x.name.size ≤ l.length := by
  unfold faceQ
  refine ⟨?_, fun x hx => ?_⟩
  · rw [List.length_map, List.length_take]
    have := split_len 10 l
    omega
  · obtain ⟨w, hw, rfl⟩ := List.mem_map.1 hx
    have h1 := lineQ_name w
    have h2 := split_le 10 l w (List.mem_of_mem_take hw)
    omega
end Go.R

/- The text of a mark. -/
set_option linter.unusedVariables false
set_option linter.unusedSimpArgs false
namespace Go.R
open Go.HM Go.Proofs
theorem markText_runs (σ : Heap) {n : Nat} (h1 : 1 ≤ n) (h2 : n ≤ 1099511627776) : Runs G n_laws_markText [.int .i64 (n : Int)] σ (.str (mText n)) σ := by
  have e62 : (2 : Nat) ^ 62 = 4611686018427387904 := by decide
  refine Runs.of (W.to (fun k _ => laws_markText.eq k _ _) ?_)
  refine W.ite (fun h => absurd h (by omega)) fun _ => ?_
  refine W.loop (S := Nat × ByteArray) (fun s => s.2.size + s.1 ≤ n ∧ mDig s.1 s.2 = mDig n ⟨#[]⟩) (fun s => [.v (.int .i64 (s.1 : Int)), .v (.str s.2)]) (fun _ => σ) (fun s => s.1) (fun ⟨m, s⟩ ⟨hs, hd⟩ => ?_)
    (n, ⟨#[]⟩) ⟨Nat.le_of_eq (by show 0 + n = n; omega), rfl⟩
  simp only at hs hd ⊢
  refine W.to (fun k _ => by rw [laws_markText.L0_step]) ?_
  refine B.ite (fun h0 => ?_) fun h0 => ?_
  · have hm : m ≠ 0 := by omega
    have hb : bytesOf [.int .u8 (IntKind.wrap .u8 (IntKind.wrap .i64 (48 + Int.tmod (m : Int) 10)))] .empty = some (mByte m) := rfl
    refine B.bind hb ?_
    have hsz : (mByte m).size = 1 := rfl
    refine B.iff (fun hx => ?_) fun hx => absurd (by rw [hsz, e62]; omega) hx
    have hdiv : IntKind.wrap .i64 (Int.tdiv (m : Int) 10) = ((m / 10 : Nat) : Int) := by
      have : Int.tdiv (m : Int) 10 = ((m / 10 : Nat) : Int) := rfl
      rw [this, wrap_id (by omega) (by omega)]
    refine W.again (m / 10, mByte m ++ s) ⟨?_, ?_⟩ (by simp only; omega) (by rw [hdiv]) rfl
    · simp only [ByteArray.size_append, hsz]; omega
    · simp only
      rw [← hd]
      conv => rhs; rw [mDig, dif_neg hm]
  · have hm : m = 0 := by omega
    try simp only [q_bind_some, castInt_int, q_castBool, q_castStr, q_castPtr, q_castFn, q_castAgg, q_castTuple, q_uncons, q_isNil, q_sl, q_nils, q_emp, q_ptr, q_nilp, q_fn, q_cond_true, q_cond_false, Bool.not_true, Bool.not_false, decide_true, decide_false, List.cons_append, List.nil_append, laws_markText.A0_x0]
    have hsz : (⟨#[109]⟩ : ByteArray).size = 1 := rfl
    refine W.iff (fun hx => W.ret ⟨?_, rfl⟩) fun hx => absurd (by rw [hsz, e62]; omega) hx
    rw [mText, ← hd, hm, mDig, dif_pos rfl]
end Go.R

/- The places of marks, and what marks and looks at them. -/
set_option linter.unusedVariables false
set_option linter.unusedSimpArgs false
namespace Go.R
open Go.HM Go.Proofs
def PInt (σ : Heap) (r o : Nat) (ls : List Leaf) : Prop := Fl σ .i r o ∧ ls = [(.i, r, o)]
theorem PInt.shp {σ σ' : Heap} (s : Shp σ σ') {r o : Nat} {ls : List Leaf} (h : PInt σ r o ls) : PInt σ' r o ls := ⟨h.1.shp s, h.2⟩
theorem PInt.cells {σ : Heap} {r o : Nat} {ls : List Leaf} (h : PInt σ r o ls) : ∀ k r' o', (k, r', o') ∈ ls → cellAt σ r' o' ≠ none := fun k r' o' hm => by
  obtain ⟨h1, rfl⟩ := h
  simp at hm
  obtain ⟨rfl, rfl, rfl⟩ := hm
  exact h1.cell
theorem PInt.pos {σ : Heap} {r o : Nat} {ls : List Leaf} (h : PInt σ r o ls) : 1 ≤ ls.length := by rw [h.2]; simp
theorem markIntS_lv {σ0 σ : Heap} {n : Nat} {A : List Leaf} {v : V} {lss : List (List Leaf)} (s : Shp σ0 (wrs σ n A)) (h : LvS 1 (PInt σ0) σ0 v lss) (h1 : 1 ≤ n) (h2 : n + A.length + lss.flatten.length ≤ 1099511627776) : Runs G n_laws_markIntS [v, .int .i64 ((n + A.length : Nat) : Int)] (wrs σ n A) (.int .i64 ((n + (A ++ lss.flatten).length : Nat) : Int)) (wrs σ n (A ++ lss.flatten)) ∧ Shp σ0 (wrs σ n (A ++ lss.flatten)) := by
  suffices hE : HM.Ends G n_laws_markIntS [v, .int .i64 ((n + A.length : Nat) : Int)] (wrs σ n A) (fun w σ' => w = .int .i64 ((n + (A ++ lss.flatten).length : Nat) : Int) ∧ σ' = wrs σ n (A ++ lss.flatten) ∧ Shp σ0 σ') by
    obtain ⟨w, σ', ⟨rfl, rfl, hs⟩, hr⟩ := hE
    exact ⟨hr, hs⟩
  have hlen : lss.length ≤ 4611686018427387904 := h.len_le (by omega) fun r o ls h => by
      have := PInt.pos h
      omega
  refine HM.Ends.mk (W.to (fun k _ => laws_markIntS.eq k _ _ _) ?_)
  generalize hG : (fun (w : V) (σ' : Heap) => w = .int .i64 ((n + (A ++ lss.flatten).length : Nat) : Int) ∧ σ' = wrs σ n (A ++ lss.flatten) ∧ Shp σ0 σ') = Good
  rw [← List.append_nil A]
  refine W.loop (S := Nat) (fun i => i ≤ lss.length ∧ Shp σ0 (wrs σ n (A ++ (lss.take i).flatten))) (fun i => [.v v, .v (.int .i64 ((n + (A ++ (lss.take i).flatten).length : Nat) : Int)), .v (.int .i64 (i : Int))]) (fun i => wrs σ n (A ++ (lss.take i).flatten)) (fun i => lss.length - i) (fun i ⟨hi', sB⟩ => ?_)
    0 ⟨Nat.zero_le _, by simpa using s⟩
  refine W.to (fun k _ => by rw [laws_markIntS.L0_step]) ?_
  refine B.bind h.vlen (B.ite (fun hlt => ?_) fun hlt => ?_)
  rotate_left
  · rw [List.take_of_length_le (by omega)] at sB ⊢
    try simp only [q_bind_some, castInt_int, q_castBool, q_castStr, q_castPtr, q_castFn, q_castAgg, q_castTuple, q_uncons, q_isNil, q_sl, q_nils, q_emp, q_ptr, q_nilp, q_fn, q_cond_true, q_cond_false, Bool.not_true, Bool.not_false, decide_true, decide_false, List.cons_append, List.nil_append, laws_markIntS.A0_x0]
    subst hG
    exact W.ret ⟨rfl, rfl, sB⟩
  have hil : i < lss.length := by omega
  have hx : lss[i]? = some lss[i] := List.getElem?_eq_getElem hil
  have hnext := flat_next hx
  have hle := flat_le hx
  generalize lss[i] = ls at hx hnext hle
  have hw0 := wrap_next hil hlen
  have hnx : A ++ (lss.take (i + 1)).flatten = (A ++ (lss.take i).flatten) ++ ls := by rw [hnext, List.append_assoc]
  have hBl : (A ++ (lss.take i).flatten).length = A.length + (lss.take i).flatten.length := List.length_append
  generalize A ++ (lss.take i).flatten = B0 at sB hnx hBl ⊢
  obtain ⟨r, o, hv, hP⟩ := h.at hx
  obtain ⟨f0, rfl⟩ := hP
  simp only [List.length_append, List.length_cons, List.length_nil] at hle
  have e0 : (B0 ++ [(MK.i, r, o)]).length = B0.length + 1 := List.length_append
  obtain ⟨p0, s0⟩ := put_i sB f0
  have x0 := nx (n := n) (A := B0) (MK.i, r, o) (by omega)
  try simp only [q_bind_some, castInt_int, q_castBool, q_castStr, q_castPtr, q_castFn, q_castAgg, q_castTuple, q_uncons, q_isNil, q_sl, q_nils, q_emp, q_ptr, q_nilp, q_fn, q_cond_true, q_cond_false, Bool.not_true, Bool.not_false, decide_true, decide_false, List.cons_append, List.nil_append, hv, p0, x0]
  generalize hb0 : B0 ++ [(MK.i, r, o)] = B1 at *
  have hfin : A ++ (lss.take (i + 1)).flatten = B1 := by
      rw [hnx, ← hb0]
      try simp only [List.append_assoc]
  refine W.again (i + 1) ⟨by omega, by rw [hfin]; exact s0⟩ (by omega) (by rw [hfin, hw0]) (by rw [hfin])
theorem heldIntS_lv {σ0 σ : Heap} {n : Nat} {v : V} {lss : List (List Leaf)} (s : Shp σ0 σ) (h : LvS 1 (PInt σ0) σ0 v lss) (hm : HeldAt σ n lss.flatten) (h1 : 1 ≤ n) (h2 : n + lss.flatten.length ≤ 1099511627776) : Runs G n_laws_heldIntS [v, .int .i64 (n : Int)] σ (.int .i64 ((n + lss.flatten.length : Nat) : Int)) σ := by
  have hlen : lss.length ≤ 4611686018427387904 := h.len_le (by omega) fun r o ls h => by
      have := PInt.pos h
      omega
  refine Runs.of (W.to (fun k _ => laws_heldIntS.eq k _ _ _) ?_)
  refine W.loop (S := Nat) (fun i => i ≤ lss.length) (fun i => [.v v, .v (.int .i64 ((n + (lss.take i).flatten.length : Nat) : Int)), .v (.int .i64 (i : Int))]) (fun i => σ) (fun i => lss.length - i) (fun i hi' => ?_) 0 (Nat.zero_le _)
  refine W.to (fun k _ => by rw [laws_heldIntS.L0_step]) ?_
  refine B.bind h.vlen (B.ite (fun hlt => ?_) fun hlt => ?_)
  rotate_left
  · rw [List.take_of_length_le (by omega)]
    try simp only [q_bind_some, castInt_int, q_castBool, q_castStr, q_castPtr, q_castFn, q_castAgg, q_castTuple, q_uncons, q_isNil, q_sl, q_nils, q_emp, q_ptr, q_nilp, q_fn, q_cond_true, q_cond_false, Bool.not_true, Bool.not_false, decide_true, decide_false, List.cons_append, List.nil_append, laws_heldIntS.A0_x0]
    exact W.ret ⟨rfl, rfl⟩
  have hil : i < lss.length := by omega
  have hx : lss[i]? = some lss[i] := List.getElem?_eq_getElem hil
  have hnext := flat_next hx
  have hle := flat_le hx
  obtain ⟨rest, hcut⟩ := flat_cut hx
  generalize lss[i] = ls at hx hnext hle hcut
  have hw0 := wrap_next hil hlen
  have hh := (hcut ▸ hm : HeldAt σ n ((lss.take i).flatten ++ (ls ++ rest))).app.2.app.1
  obtain ⟨r, o, hv, hP⟩ := h.at hx
  obtain ⟨f0, rfl⟩ := hP
  simp only [List.length_append, List.length_cons, List.length_nil] at hle hnext
  have hm0 : n + (lss.take i).flatten.length = n + (lss.take i).flatten.length := rfl
  generalize hq0 : n + (lss.take i).flatten.length = m0 at hh ⊢
  have z0 : n ≤ m0 := by omega
  have t0 := hh
  have r0 := rdc_cell t0.one
  have r0 : rdc σ r (o) 1 = some [.int .i64 (m0 : Int)] := r0
  try simp only [q_bind_some, castInt_int, q_castBool, q_castStr, q_castPtr, q_castFn, q_castAgg, q_castTuple, q_uncons, q_isNil, q_sl, q_nils, q_emp, q_ptr, q_nilp, q_fn, q_cond_true, q_cond_false, Bool.not_true, Bool.not_false, decide_true, decide_false, List.cons_append, List.nil_append, hv, r0]
  try simp only [q_bind_some, castInt_int, q_castBool, q_castStr, q_castPtr, q_castFn, q_castAgg, q_castTuple, q_uncons, q_isNil, q_sl, q_nils, q_emp, q_ptr, q_nilp, q_fn, q_cond_true, q_cond_false, Bool.not_true, Bool.not_false, decide_true, decide_false, List.cons_append, List.nil_append, decide_eq_true (rfl : (m0 : Int) = (m0 : Int))]
  generalize hq1 : m0 + 1 = m1 at *
  have w0 : IntKind.wrap .i64 ((m0 : Int) + 1) = (m1 : Int) := by rw [wrap_id (by omega) (by omega)]; omega
  try try simp only [q_bind_some, castInt_int, q_castBool, q_castStr, q_castPtr, q_castFn, q_castAgg, q_castTuple, q_uncons, q_isNil, q_sl, q_nils, q_emp, q_ptr, q_nilp, q_fn, q_cond_true, q_cond_false, Bool.not_true, Bool.not_false, decide_true, decide_false, List.cons_append, List.nil_append, w0]
  have hfin : n + (lss.take (i + 1)).flatten.length = m1 := by rw [hnext]; simp only [List.length_append, List.length_cons, List.length_nil]; omega
  exact W.again (i + 1) (show i + 1 ≤ lss.length by omega) (by omega) (by rw [hfin, hw0]) rfl
def PFaceSig (σ : Heap) (r o : Nat) (ls : List Leaf) : Prop := ∃ (v1 : V) (l1 : List (List Leaf)), Fl σ .s r (o + 0) ∧ Cl σ r (o + 1) v1 ∧ LvS 1 (PInt σ) σ v1 l1 ∧ Fl σ .i r (o + 2) ∧ ls = [(.s, r, o + 0)] ++ (l1.flatten ++ ([(.i, r, o + 2)]))
theorem PFaceSig.shp {σ σ' : Heap} (s : Shp σ σ') {r o : Nat} {ls : List Leaf} (h : PFaceSig σ r o ls) : PFaceSig σ' r o ls := by
  obtain ⟨v1, l1, h0, c1, h1, h2, rfl⟩ := h
  exact ⟨v1, l1, h0.shp s, c1.shp s, h1.mono s fun _ _ _ h => PInt.shp s h, h2.shp s, rfl⟩
theorem PFaceSig.cells {σ : Heap} {r o : Nat} {ls : List Leaf} (h : PFaceSig σ r o ls) : ∀ k r' o', (k, r', o') ∈ ls → cellAt σ r' o' ≠ none := fun k r' o' hm => by
      obtain ⟨v1, l1, h0, c1, h1, h2, rfl⟩ := h
      rcases List.mem_append.1 hm with hm | hm
      · exact (fun k r' o' hm => by
          simp at hm
          obtain ⟨rfl, rfl, rfl⟩ := hm
          exact h0.cell) k r' o' hm
      rcases List.mem_append.1 hm with hm | hm
      · exact (h1.cells fun _ _ _ h => PInt.cells h) k r' o' hm
      exact (fun k r' o' hm => by
        simp at hm
        obtain ⟨rfl, rfl, rfl⟩ := hm
        exact h2.cell) k r' o' hm
theorem PFaceSig.pos {σ : Heap} {r o : Nat} {ls : List Leaf} (h : PFaceSig σ r o ls) : 1 ≤ ls.length := by
  obtain ⟨v1, l1, f0, c1, f1, f2, rfl⟩ := h
  simp
theorem markFaceSigS_lv {σ0 σ : Heap} {n : Nat} {A : List Leaf} {v : V} {lss : List (List Leaf)} (s : Shp σ0 (wrs σ n A)) (h : LvS 3 (PFaceSig σ0) σ0 v lss) (h1 : 1 ≤ n) (h2 : n + A.length + lss.flatten.length ≤ 1099511627776) : Runs G n_laws_markFaceSigS [v, .int .i64 ((n + A.length : Nat) : Int)] (wrs σ n A) (.int .i64 ((n + (A ++ lss.flatten).length : Nat) : Int)) (wrs σ n (A ++ lss.flatten)) ∧ Shp σ0 (wrs σ n (A ++ lss.flatten)) := by
  suffices hE : HM.Ends G n_laws_markFaceSigS [v, .int .i64 ((n + A.length : Nat) : Int)] (wrs σ n A) (fun w σ' => w = .int .i64 ((n + (A ++ lss.flatten).length : Nat) : Int) ∧ σ' = wrs σ n (A ++ lss.flatten) ∧ Shp σ0 σ') by
    obtain ⟨w, σ', ⟨rfl, rfl, hs⟩, hr⟩ := hE
    exact ⟨hr, hs⟩
  have hlen : lss.length ≤ 4611686018427387904 := h.len_le (by omega) fun r o ls h => by
      have := PFaceSig.pos h
      omega
  refine HM.Ends.mk (W.to (fun k _ => laws_markFaceSigS.eq k _ _ _) ?_)
  generalize hG : (fun (w : V) (σ' : Heap) => w = .int .i64 ((n + (A ++ lss.flatten).length : Nat) : Int) ∧ σ' = wrs σ n (A ++ lss.flatten) ∧ Shp σ0 σ') = Good
  rw [← List.append_nil A]
  refine W.loop (S := Nat) (fun i => i ≤ lss.length ∧ Shp σ0 (wrs σ n (A ++ (lss.take i).flatten))) (fun i => [.v v, .v (.int .i64 ((n + (A ++ (lss.take i).flatten).length : Nat) : Int)), .v (.int .i64 (i : Int))]) (fun i => wrs σ n (A ++ (lss.take i).flatten)) (fun i => lss.length - i) (fun i ⟨hi', sB⟩ => ?_)
    0 ⟨Nat.zero_le _, by simpa using s⟩
  refine W.to (fun k _ => by rw [laws_markFaceSigS.L0_step]) ?_
  refine B.bind h.vlen (B.ite (fun hlt => ?_) fun hlt => ?_)
  rotate_left
  · rw [List.take_of_length_le (by omega)] at sB ⊢
    try simp only [q_bind_some, castInt_int, q_castBool, q_castStr, q_castPtr, q_castFn, q_castAgg, q_castTuple, q_uncons, q_isNil, q_sl, q_nils, q_emp, q_ptr, q_nilp, q_fn, q_cond_true, q_cond_false, Bool.not_true, Bool.not_false, decide_true, decide_false, List.cons_append, List.nil_append, laws_markFaceSigS.A0_x0]
    subst hG
    exact W.ret ⟨rfl, rfl, sB⟩
  have hil : i < lss.length := by omega
  have hx : lss[i]? = some lss[i] := List.getElem?_eq_getElem hil
  have hnext := flat_next hx
  have hle := flat_le hx
  generalize lss[i] = ls at hx hnext hle
  have hw0 := wrap_next hil hlen
  have hnx : A ++ (lss.take (i + 1)).flatten = (A ++ (lss.take i).flatten) ++ ls := by rw [hnext, List.append_assoc]
  have hBl : (A ++ (lss.take i).flatten).length = A.length + (lss.take i).flatten.length := List.length_append
  generalize A ++ (lss.take i).flatten = B0 at sB hnx hBl ⊢
  obtain ⟨r, o, hv, hP⟩ := h.at hx
  obtain ⟨v1, l1, f0, c1, f1, f2, rfl⟩ := hP
  simp only [List.length_append, List.length_cons, List.length_nil] at hle
  have e0 : (B0 ++ [(MK.s, r, o + 0)]).length = B0.length + 1 := List.length_append
  try try simp only [q_bind_some, castInt_int, q_castBool, q_castStr, q_castPtr, q_castFn, q_castAgg, q_castTuple, q_uncons, q_isNil, q_sl, q_nils, q_emp, q_ptr, q_nilp, q_fn, q_cond_true, q_cond_false, Bool.not_true, Bool.not_false, decide_true, decide_false, List.cons_append, List.nil_append, hv]
  refine B.run (markText_runs (wrs σ n B0) (n := n + B0.length) (by omega) (by omega)) ?_
  try simp only [q_bind_some, castInt_int, q_castBool, q_castStr, q_castPtr, q_castFn, q_castAgg, q_castTuple, q_uncons, q_isNil, q_sl, q_nils, q_emp, q_ptr, q_nilp, q_fn, q_cond_true, q_cond_false, Bool.not_true, Bool.not_false, decide_true, decide_false, List.cons_append, List.nil_append]
  obtain ⟨p0, s0⟩ := put_s sB f0
  have x0 := nx (n := n) (A := B0) (MK.s, r, o + 0) (by omega)
  try simp only [q_bind_some, castInt_int, q_castBool, q_castStr, q_castPtr, q_castFn, q_castAgg, q_castTuple, q_uncons, q_isNil, q_sl, q_nils, q_emp, q_ptr, q_nilp, q_fn, q_cond_true, q_cond_false, Bool.not_true, Bool.not_false, decide_true, decide_false, List.cons_append, List.nil_append, hv, p0, x0]
  generalize hb0 : B0 ++ [(MK.s, r, o + 0)] = B1 at *
  have e1 : (B1 ++ l1.flatten).length = B1.length + l1.flatten.length := List.length_append
  have q1 := rdc_cell (c1.shp s0).1
  try simp only [q_bind_some, castInt_int, q_castBool, q_castStr, q_castPtr, q_castFn, q_castAgg, q_castTuple, q_uncons, q_isNil, q_sl, q_nils, q_emp, q_ptr, q_nilp, q_fn, q_cond_true, q_cond_false, Bool.not_true, Bool.not_false, decide_true, decide_false, List.cons_append, List.nil_append, hv, q1]
  obtain ⟨g1, s1⟩ := markIntS_lv (A := B1) s0 f1 h1 (by omega)
  refine B.run g1 ?_
  try simp only [q_bind_some, castInt_int, q_castBool, q_castStr, q_castPtr, q_castFn, q_castAgg, q_castTuple, q_uncons, q_isNil, q_sl, q_nils, q_emp, q_ptr, q_nilp, q_fn, q_cond_true, q_cond_false, Bool.not_true, Bool.not_false, decide_true, decide_false, List.cons_append, List.nil_append]
  generalize hb1 : B1 ++ l1.flatten = B2 at *
  have e2 : (B2 ++ [(MK.i, r, o + 2)]).length = B2.length + 1 := List.length_append
  obtain ⟨p2, s2⟩ := put_i s1 f2
  have x2 := nx (n := n) (A := B2) (MK.i, r, o + 2) (by omega)
  try simp only [q_bind_some, castInt_int, q_castBool, q_castStr, q_castPtr, q_castFn, q_castAgg, q_castTuple, q_uncons, q_isNil, q_sl, q_nils, q_emp, q_ptr, q_nilp, q_fn, q_cond_true, q_cond_false, Bool.not_true, Bool.not_false, decide_true, decide_false, List.cons_append, List.nil_append, hv, p2, x2]
  generalize hb2 : B2 ++ [(MK.i, r, o + 2)] = B3 at *
  have hfin : A ++ (lss.take (i + 1)).flatten = B3 := by
      rw [hnx, ← hb2, ← hb1, ← hb0]
      try simp only [List.append_assoc]
  refine W.again (i + 1) ⟨by omega, by rw [hfin]; exact s2⟩ (by omega) (by rw [hfin, hw0]) (by rw [hfin])
theorem heldFaceSigS_lv {σ0 σ : Heap} {n : Nat} {v : V} {lss : List (List Leaf)} (s : Shp σ0 σ) (h : LvS 3 (PFaceSig σ0) σ0 v lss) (hm : HeldAt σ n lss.flatten) (h1 : 1 ≤ n) (h2 : n + lss.flatten.length ≤ 1099511627776) : Runs G n_laws_heldFaceSigS [v, .int .i64 (n : Int)] σ (.int .i64 ((n + lss.flatten.length : Nat) : Int)) σ := by
  have hlen : lss.length ≤ 4611686018427387904 := h.len_le (by omega) fun r o ls h => by
      have := PFaceSig.pos h
      omega
  refine Runs.of (W.to (fun k _ => laws_heldFaceSigS.eq k _ _ _) ?_)
  refine W.loop (S := Nat) (fun i => i ≤ lss.length) (fun i => [.v v, .v (.int .i64 ((n + (lss.take i).flatten.length : Nat) : Int)), .v (.int .i64 (i : Int))]) (fun i => σ) (fun i => lss.length - i) (fun i hi' => ?_) 0 (Nat.zero_le _)
  refine W.to (fun k _ => by rw [laws_heldFaceSigS.L0_step]) ?_
  refine B.bind h.vlen (B.ite (fun hlt => ?_) fun hlt => ?_)
  rotate_left
  · rw [List.take_of_length_le (by omega)]
    try simp only [q_bind_some, castInt_int, q_castBool, q_castStr, q_castPtr, q_castFn, q_castAgg, q_castTuple, q_uncons, q_isNil, q_sl, q_nils, q_emp, q_ptr, q_nilp, q_fn, q_cond_true, q_cond_false, Bool.not_true, Bool.not_false, decide_true, decide_false, List.cons_append, List.nil_append, laws_heldFaceSigS.A0_x0]
    exact W.ret ⟨rfl, rfl⟩
  have hil : i < lss.length := by omega
  have hx : lss[i]? = some lss[i] := List.getElem?_eq_getElem hil
  have hnext := flat_next hx
  have hle := flat_le hx
  obtain ⟨rest, hcut⟩ := flat_cut hx
  generalize lss[i] = ls at hx hnext hle hcut
  have hw0 := wrap_next hil hlen
  have hh := (hcut ▸ hm : HeldAt σ n ((lss.take i).flatten ++ (ls ++ rest))).app.2.app.1
  obtain ⟨r, o, hv, hP⟩ := h.at hx
  obtain ⟨v1, l1, f0, c1, f1, f2, rfl⟩ := hP
  simp only [List.length_append, List.length_cons, List.length_nil] at hle hnext
  have hm0 : n + (lss.take i).flatten.length = n + (lss.take i).flatten.length := rfl
  generalize hq0 : n + (lss.take i).flatten.length = m0 at hh ⊢
  have z0 : n ≤ m0 := by omega
  have t0 := hh.app.1
  have u0 := hh.app.2
  have r0 := rdc_cell t0.one
  have r0 : rdc σ r (o + 0) 1 = some [.str (mText m0)] := r0
  try simp only [q_bind_some, castInt_int, q_castBool, q_castStr, q_castPtr, q_castFn, q_castAgg, q_castTuple, q_uncons, q_isNil, q_sl, q_nils, q_emp, q_ptr, q_nilp, q_fn, q_cond_true, q_cond_false, Bool.not_true, Bool.not_false, decide_true, decide_false, List.cons_append, List.nil_append, hv, r0]
  refine B.run (markText_runs (prot [r] σ) (n := m0) (by omega) (by omega)) ?_
  try simp only [q_bind_some, castInt_int, q_castBool, q_castStr, q_castPtr, q_castFn, q_castAgg, q_castTuple, q_uncons, q_isNil, q_sl, q_nils, q_emp, q_ptr, q_nilp, q_fn, q_cond_true, q_cond_false, Bool.not_true, Bool.not_false, decide_true, decide_false, List.cons_append, List.nil_append, decide_eq_true (rfl : mText m0 = mText m0), unprot0]
  generalize hq1 : m0 + [((MK.s, r, o + 0) : Leaf)].length = m1 at *
  have hq1 : m0 + 1 = m1 := hq1
  have w0 : IntKind.wrap .i64 ((m0 : Int) + 1) = (m1 : Int) := by rw [wrap_id (by omega) (by omega)]; omega
  try try simp only [q_bind_some, castInt_int, q_castBool, q_castStr, q_castPtr, q_castFn, q_castAgg, q_castTuple, q_uncons, q_isNil, q_sl, q_nils, q_emp, q_ptr, q_nilp, q_fn, q_cond_true, q_cond_false, Bool.not_true, Bool.not_false, decide_true, decide_false, List.cons_append, List.nil_append, w0]
  have t1 := u0.app.1
  have u1 := u0.app.2
  have r1 := rdc_cell (c1.shp s).1
  try simp only [q_bind_some, castInt_int, q_castBool, q_castStr, q_castPtr, q_castFn, q_castAgg, q_castTuple, q_uncons, q_isNil, q_sl, q_nils, q_emp, q_ptr, q_nilp, q_fn, q_cond_true, q_cond_false, Bool.not_true, Bool.not_false, decide_true, decide_false, List.cons_append, List.nil_append, hv, r1]
  refine B.run (heldIntS_lv s f1 t1 (by omega) (by omega)) ?_
  try simp only [q_bind_some, castInt_int, q_castBool, q_castStr, q_castPtr, q_castFn, q_castAgg, q_castTuple, q_uncons, q_isNil, q_sl, q_nils, q_emp, q_ptr, q_nilp, q_fn, q_cond_true, q_cond_false, Bool.not_true, Bool.not_false, decide_true, decide_false, List.cons_append, List.nil_append, decide_eq_false (show ¬ ((m1 + l1.flatten.length : Nat) : Int) < 0 by omega)]
  generalize hq2 : m1 + l1.flatten.length = m2 at *
  have t2 := u1
  have r2 := rdc_cell t2.one
  have r2 : rdc σ r (o + 2) 1 = some [.int .i64 (m2 : Int)] := r2
  try simp only [q_bind_some, castInt_int, q_castBool, q_castStr, q_castPtr, q_castFn, q_castAgg, q_castTuple, q_uncons, q_isNil, q_sl, q_nils, q_emp, q_ptr, q_nilp, q_fn, q_cond_true, q_cond_false, Bool.not_true, Bool.not_false, decide_true, decide_false, List.cons_append, List.nil_append, hv, r2]
  try simp only [q_bind_some, castInt_int, q_castBool, q_castStr, q_castPtr, q_castFn, q_castAgg, q_castTuple, q_uncons, q_isNil, q_sl, q_nils, q_emp, q_ptr, q_nilp, q_fn, q_cond_true, q_cond_false, Bool.not_true, Bool.not_false, decide_true, decide_false, List.cons_append, List.nil_append, decide_eq_true (rfl : (m2 : Int) = (m2 : Int))]
  generalize hq3 : m2 + 1 = m3 at *
  have w2 : IntKind.wrap .i64 ((m2 : Int) + 1) = (m3 : Int) := by rw [wrap_id (by omega) (by omega)]; omega
  try try simp only [q_bind_some, castInt_int, q_castBool, q_castStr, q_castPtr, q_castFn, q_castAgg, q_castTuple, q_uncons, q_isNil, q_sl, q_nils, q_emp, q_ptr, q_nilp, q_fn, q_cond_true, q_cond_false, Bool.not_true, Bool.not_false, decide_true, decide_false, List.cons_append, List.nil_append, w2]
  have hfin : n + (lss.take (i + 1)).flatten.length = m3 := by rw [hnext]; simp only [List.length_append, List.length_cons, List.length_nil]; omega
  exact W.again (i + 1) (show i + 1 ≤ lss.length by omega) (by omega) (by rw [hfin, hw0]) rfl
end Go.R

/- Values with their rows, and the places of their marks. -/
set_option linter.unusedVariables false
set_option linter.unusedSimpArgs false
namespace Go.R
open Go.HM Go.Proofs
def RInt (σ : Heap) (cs : List V) (x : Int) (R : List Nat) : Prop := cs = [.int .i64 x] ∧ R = []
theorem RInt.keep {σ σ' : Heap} (cs : List V) (x : Int) (R : List Nat) (h : RInt σ cs x R) (_ : ∀ j, j ∈ R → σ'[j]? = σ[j]?) : RInt σ' cs x R := h
theorem RInt.le {σ σ' : Heap} (hl : Lh σ σ') (cs : List V) (x : Int) (R : List Nat) (h : RInt σ cs x R) : RInt σ' cs x R := h
theorem RInt.lt {σ : Heap} (cs : List V) (x : Int) (R : List Nat) (h : RInt σ cs x R) : ∀ j, j ∈ R → j < σ.length := fun j hj => by
  rw [h.2] at hj
  cases hj
theorem RInt.rep {σ : Heap} (cs : List V) (x : Int) (R : List Nat) (h : RInt σ cs x R) : IntRep cs x := h.1
theorem RInt.lv {σ : Heap} (r o : Nat) (cs : List V) (x : Int) (R : List Nat) (hw : ∃ row, σ[r]? = some (some row) ∧ row.ro = false) (hr : rdc σ r o 1 = some cs) (h : RInt σ cs x R) (hn : R.Nodup) (hrn : r ∉ R) : ∃ ls, PInt σ r o ls ∧ LOk r o (o + 1) R ls ∧ ls.length ≤ 8 := by
  obtain ⟨rfl, rfl⟩ := h
  exact ⟨_, ⟨fl_of (f := 0) (x := .int .i64 x) hw hr rfl rfl, rfl⟩, LOk.one _ _ _, by simp⟩
theorem PInt.of {σ : Heap} (r o : Nat) (cs : List V) (x : Int) (hw : ∃ row, σ[r]? = some (some row) ∧ row.ro = false) (hr : rdc σ r o 1 = some cs) (h : IntRep cs x) : ∃ ls, PInt σ r o ls ∧ ls.length ≤ 8 := by
  unfold IntRep at h
  subst h
  exact ⟨_, ⟨fl_of (f := 0) (x := .int .i64 x) hw hr rfl rfl, rfl⟩, by simp⟩
theorem PFaceSig.of {σ : Heap} (r o : Nat) (cs : List V) (x : FaceSig) (hw : ∀ (r : Nat) row, σ[r]? = some (some row) → row.ro = false) (hr : rdc σ r o 3 = some cs) (h : FaceSig.Rep σ cs x) : ∃ ls, PFaceSig σ r o ls ∧ ls.length ≤ 8 + 8 * x.total := by
  obtain ⟨row0, hrow0, _, _⟩ := rdc_some hr
  have hw0 : ∃ row, σ[r]? = some (some row) ∧ row.ro = false := ⟨row0, hrow0, hw r row0 hrow0⟩
  cases h with
  | mk h1 =>
  obtain ⟨l1, k1, b1⟩ := h1.lv (P := PInt σ) (c := (fun _ => 8)) hw (fun r o cs x _ hw' hr hq => PInt.of r o cs x hw' hr hq)
  rw [totS_eight] at b1
  refine ⟨_, ⟨_, l1, fl_of (f := 0) (x := .str x.name) hw0 hr rfl trivial, cl_of (f := 1) hr rfl h1.isSl, k1, fl_of (f := 2) (x := .int .i64 x.type) hw0 hr rfl rfl, rfl⟩, ?_⟩
  rw [FaceSig.total_eq]
  simp only [List.length_append, List.length_cons, List.length_nil]
  omega
end Go.R

/- Rows of one's own. -/
set_option linter.unusedVariables false
set_option linter.unusedSimpArgs false
namespace Go.R
open Go.HM Go.Proofs
/-- A list of numbers in a row of one's own. -/
structure Ow (σ σi : Heap) (v : V) (l : List Int) (R : List Nat) : Prop where
  r : RepR 1 (RInt σi) σi v l R
  a : At0 v
  nd : R.Nodup
  lo : ∀ j, j ∈ R → σ.length ≤ j
  le : Lh σ σi
theorem Ow.nils (σ : Heap) : Ow σ σ .nils [] [] := ⟨.nils, .inl rfl, List.nodup_nil, fun j hj => (List.not_mem_nil hj).elim, Lh.refl _⟩
theorem Ow.start (σ : Heap) : Ow σ (hnew σ 1 []) (.sl σ.length 0 0 true) [] [σ.length] :=
  ⟨.sl σ.length 0 0 true ⟨[], 1, false, 0⟩ [] [] rfl (by simp [hnew]) rfl rfl (by simp) rfl fun i x R hx => by simp at hx, .inr ⟨_, _, _, rfl⟩, by simp, fun j hj => by simp at hj; omega, Lh.new _ _ _⟩
theorem Ow.up {σ σi σ' : Heap} {v : V} {l : List Int} {R : List Nat} (h : Ow σ σi v l R) (hl : Lh σi σ') : Ow σ σ' v l R := ⟨h.r.le hl fun cs x R hq => hq, h.a, h.nd, h.lo, h.le.trans hl⟩
theorem Ow.down {σ0 σ σi : Heap} {v : V} {l : List Int} {R : List Nat} (h : Ow σ σi v l R) (h0 : Lh σ0 σ) : Ow σ0 σi v l R := ⟨h.r, h.a, h.nd, fun j hj => by have := h.lo j hj; have := h0.len; omega, h0.trans h.le⟩
theorem Ow.rep {σ σi : Heap} {v : V} {l : List Int} {R : List Nat} (h : Ow σ σi v l R) : RepS 1 IntRep σi v l := h.r.rep fun cs x R _ hq => RInt.rep cs x R hq
theorem Ow.add {σ σi : Heap} {v : V} {l : List Int} {R : List Nat} (h : Ow σ σi v l R) (n : Int) (hl : l.length ≤ 1048576) :
    ∃ v' σ' R', vappend 1 8 σi v 1 [.int .i64 n] = some (v', σ') ∧ Ow σ σ' v' (l ++ [n]) R' := by
  obtain ⟨v', σ', R', g1, g2, g3, g4, g5, g6, g7⟩ := h.r.app (bytes := 8) h.a (cs := [.int .i64 n]) (x := n) (Rx := []) ⟨rfl, rfl⟩ rfl (fun cs x R hq hk => RInt.keep cs x R hq hk) (fun cs x R hq => RInt.lt cs x R hq) (by simpa using h.nd) (by omega) (by omega)
  have hlen := h.le.len
  refine ⟨v', σ', R', g1, g2, g3, g4, fun j hj => ?_, ⟨by rw [g6]; omega, fun j row hj => ?_⟩⟩
  · rcases g5 j hj with hj | hj | hj
    · omega
    · exact h.lo j hj
    · cases hj
  · have hjl := get_lt hj
    rw [g7 j (by omega) fun hc => by have := h.lo j hc; omega]
    exact h.le.row _ _ hj
/-- As Ow.add, and what it leaves alone. -/
theorem Ow.add' {σ σi : Heap} {v : V} {l : List Int} {R : List Nat} (h : Ow σ σi v l R) (n : Int) (hl : l.length ≤ 2097152) :
    ∃ v' σ' R', vappend 1 8 σi v 1 [.int .i64 n] = some (v', σ') ∧ Ow σ σ' v' (l ++ [n]) R' ∧ (∀ j, j ∈ R' → j = σi.length ∨ j ∈ R) ∧ ∀ j, j < σi.length → j ∉ R → σ'[j]? = σi[j]? := by
  obtain ⟨v', σ', R', g1, g2, g3, g4, g5, g6, g7⟩ := h.r.app (bytes := 8) h.a (cs := [.int .i64 n]) (x := n) (Rx := []) ⟨rfl, rfl⟩ rfl (fun cs x R hq hk => RInt.keep cs x R hq hk) (fun cs x R hq => RInt.lt cs x R hq) (by simpa using h.nd) (by omega) (by omega)
  have hlen := h.le.len
  have g5' : ∀ j, j ∈ R' → j = σi.length ∨ j ∈ R := fun j hj => by
    rcases g5 j hj with hj | hj | hj
    · exact .inl hj
    · exact .inr hj
    · cases hj
  refine ⟨v', σ', R', g1, ⟨g2, g3, g4, fun j hj => ?_, ⟨by rw [g6]; omega, fun j row hj => ?_⟩⟩, g5', g7⟩
  · rcases g5' j hj with hj | hj
    · omega
    · exact h.lo j hj
  · have hjl := get_lt hj
    rw [g7 j (by omega) fun hc => by have := h.lo j hc; omega]
    exact h.le.row _ _ hj
end Go.R

/- Rows of signatures of one's own. -/
set_option linter.unusedVariables false
set_option linter.unusedSimpArgs false
namespace Go.R
open Go.HM Go.Proofs
def RSig (σ : Heap) (cs : List V) (x : FaceSig) (R : List Nat) : Prop := ∃ v1, cs = [.str x.name, v1, .int .i64 x.type] ∧ RepR 1 (RInt σ) σ v1 x.args R
theorem RSig.keep {σ σ' : Heap} (cs : List V) (x : FaceSig) (R : List Nat) (h : RSig σ cs x R) (hk : ∀ j, j ∈ R → σ'[j]? = σ[j]?) : RSig σ' cs x R := by
  obtain ⟨v1, h1, h2⟩ := h
  exact ⟨v1, h1, h2.keep hk fun cs x R hq hk => RInt.keep cs x R hq hk⟩
theorem RSig.le {σ σ' : Heap} (hl : Lh σ σ') (cs : List V) (x : FaceSig) (R : List Nat) (h : RSig σ cs x R) : RSig σ' cs x R := by
  obtain ⟨v1, h1, h2⟩ := h
  exact ⟨v1, h1, h2.le hl fun cs x R hq => hq⟩
theorem RSig.lt {σ : Heap} (cs : List V) (x : FaceSig) (R : List Nat) (h : RSig σ cs x R) : ∀ j, j ∈ R → j < σ.length := by
  obtain ⟨v1, h1, h2⟩ := h
  exact h2.lt fun cs x R hq => RInt.lt cs x R hq
theorem RSig.rep {σ : Heap} (cs : List V) (x : FaceSig) (R : List Nat) (h : RSig σ cs x R) : FaceSig.Rep σ cs x := by
  obtain ⟨v1, rfl, h2⟩ := h
  exact .mk (h2.rep fun cs y R _ h => RInt.rep cs y R h)
theorem RSig.lv {σ : Heap} (r o : Nat) (cs : List V) (x : FaceSig) (R : List Nat) (hw : ∃ row, σ[r]? = some (some row) ∧ row.ro = false) (hr : rdc σ r o 3 = some cs) (h : RSig σ cs x R) (hn : R.Nodup) (hrn : r ∉ R) : ∃ ls, PFaceSig σ r o ls ∧ LOk r o (o + 3) R ls ∧ ls.length ≤ 8 + 8 * x.args.length := by
  obtain ⟨v1, rfl, h1⟩ := h
  obtain ⟨l1, k1, o1, b1⟩ := h1.lv (P := PInt σ) (c := (fun _ => 8)) hn (fun r o cs x R hw hr hq hn hrn => RInt.lv r o cs x R hw hr hq hn hrn)
  rw [totS_eight] at b1
  refine ⟨_, ⟨v1, l1, fl_of (f := 0) (x := .str x.name) hw hr rfl trivial, cl_of (f := 1) (x := v1) hr rfl h1.isSl, k1, fl_of (f := 2) (x := .int .i64 x.type) hw hr rfl rfl, rfl⟩, ?_, ?_⟩
  · have a1 : LOk r (o + 1) (o + 3) (R ++ []) (l1.flatten ++ [(.i, r, o + 2)]) := LOk.app (m := o + 2) (o1.field r (o + 1)) (LOk.one _ r (o + 2)) (by omega) (by omega) (by simpa using hn) (by simpa using hrn)
    rw [List.append_nil] at a1
    exact LOk.app (m := o + 1) (R1 := []) (R2 := R) (LOk.one _ r (o + 0)) a1 (by omega) (by omega) (by simpa using hn) (by simpa using hrn)
  · simp only [List.length_append, List.length_cons, List.length_nil]
    omega
/-- A signature in a row: its list, and that list's rows. -/
structure El where
  s : FaceSig
  v : V
  R : List Nat
def El.cells (e : El) : List V := [.str e.s.name, e.v, .int .i64 e.s.type]
def flatE (l : List El) : List V := (l.map El.cells).flatten
theorem flatE_len (l : List El) : (flatE l).length = l.length * 3 := by
  unfold flatE
  induction l with
  | nil => rfl
  | cons e l ih => rw [List.map_cons, List.flatten_cons, List.length_append, ih]; simp [El.cells]; omega
theorem flatE_at : ∀ (l : List El) (i : Nat) (e : El), l[i]? = some e → ((flatE l).drop (i * 3)).take 3 = e.cells
  | x :: l, 0, e, h => by simp at h; subst h; rfl
  | x :: l, i + 1, e, h => by
    have : flatE (x :: l) = x.cells ++ flatE l := rfl
    rw [this, show (i + 1) * 3 = x.cells.length + i * 3 by simp [El.cells]; omega, ← List.drop_drop, List.drop_left]
    exact flatE_at l i e (by simpa using h)
theorem flatE_set : ∀ (l : List El) (i : Nat) (e : El), i < l.length → setCells (flatE l) (i * 3) e.cells = flatE (l.set i e) := by
  intro l i e hi
  apply List.ext_getElem?
  intro j
  have hl := flatE_len l
  rw [setCells_get _ _ _ _ (by rw [hl]; simp [El.cells]; omega)]
  have key : ∀ (m : List El) (i j : Nat) (x : El), m[i]? = some x → i * 3 ≤ j → j < i * 3 + 3 → (flatE m)[j]? = x.cells[j - i * 3]? := fun m i j x hx h1 h2 => by
    have := flatE_at m i x hx
    rw [← this, List.getElem?_take, if_pos (by omega), List.getElem?_drop]
    congr 1
    omega
  by_cases h : i * 3 ≤ j ∧ j < i * 3 + e.cells.length
  · rw [if_pos h, key (l.set i e) i j e (by simp [hi]) h.1 (by have := h.2; simp [El.cells] at this; omega)]
  · rw [if_neg h]
    by_cases hj : j < l.length * 3
    · obtain ⟨q, hq1, hq2⟩ : ∃ q, q * 3 ≤ j ∧ j < q * 3 + 3 := ⟨j / 3, by omega, by omega⟩
      have hql : q < l.length := by omega
      have hqi : q ≠ i := fun hc => by subst hc; exact h ⟨hq1, by simp [El.cells]; omega⟩
      rw [key l q j l[q] (List.getElem?_eq_getElem hql) hq1 hq2, key (l.set i e) q j l[q] (by rw [List.getElem?_set, if_neg (Ne.symm hqi)]; exact List.getElem?_eq_getElem hql) hq1 hq2]
    · rw [List.getElem?_eq_none (by rw [hl]; omega), List.getElem?_eq_none (by rw [flatE_len, List.length_set]; omega)]
/-- A row that may be written and holds such signatures. -/
def SRow (σ : Heap) (q : Nat) (l : List El) : Prop := ∃ ty, σ[q]? = some (some ⟨flatE l, 3, false, ty⟩)
theorem SRow.rd {σ : Heap} {q : Nat} {l : List El} (h : SRow σ q l) {i : Nat} {e : El} (hx : l[i]? = some e) : rdc σ q (i * 3) 3 = some e.cells := by
  obtain ⟨ty, h⟩ := h
  have hi := lt_of_get hx
  unfold rdc
  rw [h]
  simp only
  rw [if_pos (by rw [flatE_len]; omega), flatE_at l i e hx]
theorem SRow.put {σ : Heap} {q : Nat} {l : List El} (h : SRow σ q l) {i : Nat} (hi : i < l.length) (e : El) : ∃ σ', wrc σ q (i * 3) e.cells = some σ' ∧ SRow σ' q (l.set i e) ∧ σ'.length = σ.length ∧ ∀ j, j ≠ q → σ'[j]? = σ[j]? := by
  obtain ⟨ty, h⟩ := h
  refine ⟨σ.set q (some ⟨flatE (l.set i e), 3, false, ty⟩), ?_, ⟨ty, by simp [get_lt h]⟩, by simp, fun j hj => by rw [List.getElem?_set, if_neg (Ne.symm hj)]⟩
  unfold wrc
  rw [h]
  simp only
  rw [if_pos ⟨trivial, by rw [flatE_len]; simp [El.cells]; omega⟩, flatE_set l i e hi]
def nm (l : List El) : List FaceSig := l.map (·.s)
end Go.R

/- Faces that are read or made: rows of signatures that grow. -/
set_option linter.unusedVariables false
set_option linter.unusedSimpArgs false
namespace Go.R
open Go.HM Go.Proofs
/-- A row of signatures of one's own, with the rows of their lists. -/
structure Fs (σ σi : Heap) (v : V) (l : List El) : Prop where
  row : ∃ q lim, v = .sl q 0 l.length lim ∧ SRow σi q l ∧ σ.length ≤ q ∧ (q :: (l.map (·.R)).flatten).Nodup
  els : ∀ e, e ∈ l → RepR 1 (RInt σi) σi e.v e.s.args e.R
  lo : ∀ e, e ∈ l → ∀ j, j ∈ e.R → σ.length ≤ j
  le : Lh σ σi
theorem Fs.start (σ : Heap) : Fs σ (hnew σ 3 []) (.sl σ.length 0 0 true) [] := ⟨⟨σ.length, true, rfl, ⟨0, by simp [hnew, flatE]⟩, Nat.le_refl _, by simp⟩, fun e he => (List.not_mem_nil he).elim, fun e he => (List.not_mem_nil he).elim, Lh.new _ _ _⟩
theorem Fs.up {σ σi σ' : Heap} {v : V} {l : List El} (h : Fs σ σi v l) (hl : Lh σi σ') : Fs σ σ' v l := by
  obtain ⟨⟨q, lim, h1, ⟨ty, h2⟩, h3, h4⟩, h5, h6, h7⟩ := h
  exact ⟨⟨q, lim, h1, ⟨ty, hl.row _ _ h2⟩, h3, h4⟩, fun e he => (h5 e he).le hl fun cs x R hq => hq, h6, h7.trans hl⟩
theorem elR_lt {σ : Heap} {e : El} (h : RepR 1 (RInt σ) σ e.v e.s.args e.R) : ∀ j, j ∈ e.R → j < σ.length := h.lt fun cs x R hq => RInt.lt cs x R hq
theorem Fs.add' {σ σi σ' : Heap} {v : V} {l : List El} (h : Fs σ σi v l) {s : FaceSig} {av : V} {R : List Nat} (hO : Ow σi σ' av s.args R) (hl : l.length ≤ 2097152) :
    ∃ v' σ'', vappend 3 48 σ' v 1 [.str s.name, av, .int .i64 s.type] = some (v', σ'') ∧ Fs σ σ'' v' (l ++ [⟨s, av, R⟩]) ∧ (∃ n, v' = .sl σ'.length 0 n false) ∧ ∀ j, j < σ'.length → (∀ q n lim, v = .sl q 0 n lim → j ≠ q) → σ''[j]? = σ'[j]? := by
  have h' := h.up hO.le
  have hold : ∀ e, e ∈ l → ∀ j, j ∈ e.R → j < σi.length := fun e he => elR_lt (h.els e he)
  obtain ⟨⟨q0, _, hv0, ⟨_, hS0⟩, _, _⟩, _, _, hle0⟩ := h
  have hq0 := get_lt hS0
  obtain ⟨⟨q, lim, rfl, ⟨ty, hS⟩, hq, hnd⟩, hels, hlo, hle⟩ := h'
  obtain rfl : q0 = q := by injection hv0 with e1 e2 e3 e4; exact e1.symm
  have hlt := get_lt hS
  have hRl := hO.r.lt fun cs x R hq => RInt.lt cs x R hq
  have hfl : ∀ j, j ∈ (l.map (·.R)).flatten → j < σi.length := fun j hj => by
    obtain ⟨R', hR', hj'⟩ := List.mem_flatten.1 hj
    obtain ⟨e, he, rfl⟩ := List.mem_map.1 hR'
    exact hold e he j hj'
  have hqn : q0 ∉ (l.map (·.R)).flatten := (List.nodup_cons.1 hnd).1
  have hqR : q0 ∉ R := fun hc => by have := hO.lo _ hc; omega
  have hi' := hO.le.len
  have h0' := hle0.len
  have hcells : ((flatE l).drop 0).take (l.length * 3) = flatE l := by rw [List.drop_zero]; exact List.take_of_length_le (by rw [flatE_len]; exact Nat.le_refl _)
  have hcells' : (flatE l).take (l.length * 3) = flatE l := List.take_of_length_le (by rw [flatE_len]; exact Nat.le_refl _)
  have happ : flatE l ++ [.str s.name, av, .int .i64 s.type] = flatE (l ++ [⟨s, av, R⟩]) := by unfold flatE; rw [List.map_append, List.flatten_append]; simp [El.cells]
  have fin : ∀ {σ'' : Heap}, σ''.length = σ'.length + 1 → σ''[σ'.length]? = some (some ⟨flatE (l ++ [⟨s, av, R⟩]), 3, false, 0⟩) → (∀ j, j ≠ q0 → j < σ'.length → σ''[j]? = σ'[j]?) → Fs σ σ'' (.sl σ'.length 0 (l.length + 1) false) (l ++ [⟨s, av, R⟩]) ∧ (∃ n, V.sl σ'.length 0 (l.length + 1) false = .sl σ'.length 0 n false) ∧ ∀ j, j < σ'.length → (∀ q n lim', V.sl q0 0 l.length lim = .sl q 0 n lim' → j ≠ q) → σ''[j]? = σ'[j]? := fun {σ''} hn hrow hk => by
    have kp : ∀ {v : V} {k : List Int} {R : List Nat}, RepR 1 (RInt σ') σ' v k R → q0 ∉ R → RepR 1 (RInt σ'') σ'' v k R := fun hr hqr => hr.keep (fun j hj => hk j (fun hc => hqr (hc ▸ hj)) ((hr.lt fun cs x R hq => RInt.lt cs x R hq) j hj)) fun cs x R hq hk => hq
    refine ⟨⟨⟨σ'.length, false, by simp, ⟨0, hrow⟩, by omega, ?_⟩, fun e he => ?_, fun e he j hj => ?_, ⟨by omega, fun j row hj => ?_⟩⟩, ⟨_, rfl⟩, fun j hj hq => hk j (hq q0 _ _ rfl) hj⟩
    · rw [List.map_append, List.flatten_append]
      refine List.nodup_cons.2 ⟨fun hc => ?_, nodup_far (n := σi.length) (List.nodup_cons.1 hnd).2 (by simpa using hO.nd) hfl (fun j hj => hO.lo j (by simpa using hj))⟩
      rcases List.mem_append.1 hc with hc | hc
      · have := hfl _ hc; omega
      · have := hRl _ (by simpa using hc); omega
    · rcases List.mem_append.1 he with he | he
      · refine kp (hels e he) fun hc => hqn (List.mem_flatten.2 ⟨e.R, List.mem_map_of_mem he, hc⟩)
      · simp at he
        subst he
        exact kp hO.r hqR
    · rcases List.mem_append.1 he with he | he
      · exact hlo e he j hj
      · simp at he
        subst he
        have := hO.lo j hj
        omega
    · have hjl := get_lt hj
      rw [hk j (by omega) (by omega)]
      exact hle.row _ _ hj
  unfold vappend
  simp only [hS]
  rw [if_pos ⟨trivial, by rw [flatE_len]; omega, by omega, by omega⟩]
  cases lim with
  | true =>
    rw [if_pos rfl, if_neg (by omega), hcells, happ]
    exact ⟨_, _, rfl, fin (by simp [hnew]) (by simp [hnew]) fun j _ hj => by simp [hnew, List.getElem?_append_left hj]⟩
  | false =>
    rw [if_neg (by simp), if_pos ⟨trivial, trivial⟩, hcells', happ]
    exact ⟨_, _, rfl, fin (by simp [hnew]) (by simp [hnew]) fun j hne hj => by rw [hnew, List.getElem?_append_left (by simpa using hj), List.getElem?_set, if_neg (Ne.symm hne)]⟩
theorem Fs.add {σ σi σ' : Heap} {v : V} {l : List El} (h : Fs σ σi v l) {s : FaceSig} {av : V} {R : List Nat} (hO : Ow σi σ' av s.args R) (hl : l.length ≤ 2097152) :
    ∃ v' σ'', vappend 3 48 σ' v 1 [.str s.name, av, .int .i64 s.type] = some (v', σ'') ∧ Fs σ σ'' v' (l ++ [⟨s, av, R⟩]) := by
  obtain ⟨v', σ'', h1, h2, _⟩ := h.add' hO hl
  exact ⟨v', σ'', h1, h2⟩
def FaceP (σ : Heap) (l : List FaceSig) (w : V) (σ' : Heap) : Prop := ∃ R, RepR 3 (RSig σ') σ' w l R ∧ R.Nodup ∧ (∀ j, j ∈ R → σ.length ≤ j) ∧ Lh σ σ'
theorem Fs.face {σ σi : Heap} {v : V} {l : List El} (h : Fs σ σi v l) : FaceP σ (nm l) v σi := by
  obtain ⟨⟨q, lim, rfl, ⟨ty, hS⟩, hq, hnd⟩, hels, hlo, hle⟩ := h
  refine ⟨q :: (l.map (·.R)).flatten, ?_, hnd, fun j hj => ?_, hle⟩
  · refine .sl q 0 l.length lim _ (nm l) (l.map (·.R)) (by simp [nm]) hS rfl rfl (by simp [nm, flatE_len]) (by simp [nm]) fun i x R hx hR => ?_
    unfold nm at hx
    rw [List.getElem?_map] at hx hR
    cases he : l[i]? with
    | none => rw [he] at hx; cases hx
    | some e =>
      rw [he] at hx hR
      injection hx with hx
      injection hR with hR
      subst hx hR
      show RSig σi (((flatE l).drop (0 + i * 3)).take 3) e.s e.R
      rw [Nat.zero_add, flatE_at l i e he]
      exact ⟨e.v, rfl, hels e (List.mem_of_getElem? he)⟩
  · rcases List.mem_cons.1 hj with rfl | hj
    · exact hq
    · obtain ⟨R', hR', hj'⟩ := List.mem_flatten.1 hj
      obtain ⟨e, he, rfl⟩ := List.mem_map.1 hR'
      exact hlo e he j hj'
theorem tot_cap {α : Type} {f : α → Nat} (c : Nat) : ∀ l : List α, (∀ x, x ∈ l → f x ≤ c) → totS f l ≤ c * l.length
  | [], _ => by simp [totS]
  | x :: l, h => by
    have h1 := tot_cap c l fun y hy => h y (by simp [hy])
    have h2 := h x (by simp)
    simp only [totS, List.length_cons, Nat.mul_add]
    omega
/-- The marks of a face, and what holds them. -/
theorem face_marks {σi : Heap} {v : V} {l : List FaceSig} {R : List Nat} (h : RepR 3 (RSig σi) σi v l R) (hn : R.Nodup) (hl : l.length ≤ 8) (ha : ∀ x, x ∈ l → x.args.length ≤ 4) :
    ∃ L : List Leaf, Runs G n_laws_markFaceSigS [v, .int .i64 1] σi (.int .i64 ((1 + L.length : Nat) : Int)) (wrs σi 1 L) ∧ (∀ j, j ∉ R → (wrs σi 1 L)[j]? = σi[j]?) ∧
      ∀ σ', Lh (wrs σi 1 L) σ' → Runs G n_laws_heldFaceSigS [v, .int .i64 1] σ' (.int .i64 ((1 + L.length : Nat) : Int)) σ' := by
  obtain ⟨l8, v8, o8, b8⟩ := h.lv (P := PFaceSig σi) (c := fun y => 8 + 8 * y.args.length) hn (fun r o cs x R hw hr hq hn hrn => RSig.lv r o cs x R hw hr hq hn hrn)
  have hb := tot_cap (f := fun y : FaceSig => 8 + 8 * y.args.length) 40 l fun x hx => by have := ha x hx; omega
  have hheld := held_wrs l8.flatten (σ := σi) (n := 1) (v8.cells (fun r o ls h => PFaceSig.cells h)) o8.1
  obtain ⟨m8, s8⟩ := markFaceSigS_lv (σ0 := σi) (σ := σi) (n := 1) (A := []) (Shp.refl _) v8 (Nat.le_refl _) (by simp only [List.length_nil]; omega)
  simp only [List.nil_append] at m8 s8
  exact ⟨l8.flatten, m8, fun j hj => wrs_out _ fun l hl he => hj (he ▸ o8.2 l hl), fun σ' hl' => heldFaceSigS_lv (n := 1) (s8.le hl') v8 (hheld.le hl') (Nat.le_refl _) (by omega)⟩
theorem FaceP.rep {σ' : Heap} {l : List FaceSig} {v : V} {R : List Nat} (h : RepR 3 (RSig σ') σ' v l R) : RepS 3 (FaceSig.Rep σ') σ' v l := h.rep fun cs x R _ hq => RSig.rep cs x R hq
end Go.R

/- FaceRead of the program and of the reference. -/
set_option linter.unusedVariables false
set_option linter.unusedSimpArgs false
namespace Go.R
open Go.HM Go.Proofs
theorem slices_Index_string_string_runs {σ : Heap} {v : V} {l : List ByteArray} (hf : l.length ≤ 1073741824) (h : RepS 1 StrRep σ v l) (s : ByteArray) : Runs G n_slices_Index_string_string [v, .str s] σ (.int .i64 (fidx (fun x => decide (s = x)) l)) σ := by
  refine Runs.of (W.to (fun k _ => slices_Index_string_string.eq k _ _ _) ?_)
  refine W.len h ?_
  refine W.loop (S := Nat) (fun i => i ≤ l.length ∧ ∀ (j : Nat) y, j < i → l[j]? = some y → decide (s = y) = false) (fun i => [.v v, .v (.str s), .v (.int .i64 (l.length : Int)), .v (.int .i64 (i : Int))]) (fun _ => σ) (fun i => l.length - i) (fun i ⟨hi, hok⟩ => ?_)
    0 ⟨Nat.zero_le _, fun j y hj => absurd hj (Nat.not_lt_zero _)⟩
  refine W.to (fun k _ => by rw [slices_Index_string_string.L0_step]) ?_
  try simp only [q_bind_some, Option.bind_assoc, castInt_int, q_castBool, q_castStr, q_castPtr, q_castFn, q_castAgg, q_castTuple, q_uncons, q_isNil, q_sl, q_nils, q_emp, q_ptr, q_nilp, q_fn, q_cond_true, q_cond_false, Bool.not_true, Bool.not_false, decide_true, decide_false, castInt_bind, castBool_bind, castStr_bind, castPtr_bind, castFn_bind, castAgg_bind, castTuple_bind, uncons_bind, isNil_bind, one_bind, cond_bind, ite_bind_, List.cons_append, List.nil_append]
  refine W.ite (fun hlt => ?_) fun hlt => ?_
  · refine W.at h (Lh.refl _) (by omega) fun r o cs x hx' hr hP => ?_
    unfold StrRep at hP
    subst hP
    try simp only [q_bind_some, Option.bind_assoc, castInt_int, q_castBool, q_castStr, q_castPtr, q_castFn, q_castAgg, q_castTuple, q_uncons, q_isNil, q_sl, q_nils, q_emp, q_ptr, q_nilp, q_fn, q_cond_true, q_cond_false, Bool.not_true, Bool.not_false, decide_true, decide_false, castInt_bind, castBool_bind, castStr_bind, castPtr_bind, castFn_bind, castAgg_bind, castTuple_bind, uncons_bind, isNil_bind, one_bind, cond_bind, ite_bind_, List.cons_append, List.nil_append, hr]
    refine W.ite (fun hs => ?_) fun hs => ?_
    · try simp only [q_bind_some, Option.bind_assoc, castInt_int, q_castBool, q_castStr, q_castPtr, q_castFn, q_castAgg, q_castTuple, q_uncons, q_isNil, q_sl, q_nils, q_emp, q_ptr, q_nilp, q_fn, q_cond_true, q_cond_false, Bool.not_true, Bool.not_false, decide_true, decide_false, castInt_bind, castBool_bind, castStr_bind, castPtr_bind, castFn_bind, castAgg_bind, castTuple_bind, uncons_bind, isNil_bind, one_bind, cond_bind, ite_bind_, List.cons_append, List.nil_append, slices_Index_string_string.A0_ret]
      exact W.ret ⟨by rw [fidx_at hx' (by simp [hs]) hok], rfl⟩
    · try simp only [q_bind_some, Option.bind_assoc, castInt_int, q_castBool, q_castStr, q_castPtr, q_castFn, q_castAgg, q_castTuple, q_uncons, q_isNil, q_sl, q_nils, q_emp, q_ptr, q_nilp, q_fn, q_cond_true, q_cond_false, Bool.not_true, Bool.not_false, decide_true, decide_false, castInt_bind, castBool_bind, castStr_bind, castPtr_bind, castFn_bind, castAgg_bind, castTuple_bind, uncons_bind, isNil_bind, one_bind, cond_bind, ite_bind_, List.cons_append, List.nil_append, wrap_next (show i < l.length by omega) (by omega)]
      refine W.again (i + 1) ⟨by omega, fun j y hj hy => ?_⟩ (by omega) rfl rfl
      by_cases hij : j = i
      · subst hij
        rw [hx'] at hy
        injection hy with hy
        rw [← hy]; simp [hs]
      · exact hok j y (by omega) hy
  · try simp only [q_bind_some, Option.bind_assoc, castInt_int, q_castBool, q_castStr, q_castPtr, q_castFn, q_castAgg, q_castTuple, q_uncons, q_isNil, q_sl, q_nils, q_emp, q_ptr, q_nilp, q_fn, q_cond_true, q_cond_false, Bool.not_true, Bool.not_false, decide_true, decide_false, castInt_bind, castBool_bind, castStr_bind, castPtr_bind, castFn_bind, castAgg_bind, castTuple_bind, uncons_bind, isNil_bind, one_bind, cond_bind, ite_bind_, List.cons_append, List.nil_append, slices_Index_string_string.A0_x0]
    exact W.ret ⟨by rw [fidx_none fun j y hy => hok j y (by have := lt_of_get hy; omega) hy], rfl⟩

theorem typeOf_runs {σ : Heap} (ht : TypeW σ) (s : ByteArray) : Runs G n_impl_typeOf [.str s] σ (.int .i64 (typeNo s)) σ := by
  refine Runs.of (W.to (fun k _ => impl_typeOf.eq k _ _) ?_)
  have hw : gwhole σ 0 0 3 1 = some (.sl 0 0 3 true) := by
    unfold gwhole
    rw [ht]
    rfl
  have hr : RepS 1 StrRep σ (.sl 0 0 3 true) [(⟨#[105, 110, 116]⟩ : ByteArray), ⟨#[98, 111, 111, 108]⟩, ⟨#[114, 111, 119]⟩] := by
    refine .sl 0 0 3 true _ _ rfl ht rfl (by decide) fun i x hx => ?_
    match i, hx with
    | 0, hx => injection hx with hx; subst hx; rfl
    | 1, hx => injection hx with hx; subst hx; rfl
    | 2, hx => injection hx with hx; subst hx; rfl
  refine W.bind hw ?_
  refine W.run (slices_Index_string_string_runs (by simp) hr s) ?_
  try simp only [q_bind_some, castInt_int, q_castBool, q_castStr, q_castPtr, q_castFn, q_castAgg, q_castTuple, q_uncons, q_isNil, q_sl, q_nils, q_emp, q_ptr, q_nilp, q_fn, q_cond_true, q_cond_false, Bool.not_true, Bool.not_false, decide_true, decide_false, List.cons_append, List.nil_append]
  unfold typeNo
  by_cases h1 : s = ⟨#[105, 110, 116]⟩
  · rw [if_pos h1]
    have : fidx (fun x => decide (s = x)) [(⟨#[105, 110, 116]⟩ : ByteArray), ⟨#[98, 111, 111, 108]⟩, ⟨#[114, 111, 119]⟩] = 0 := by simp [fidx, h1]
    try simp only [q_bind_some, castInt_int, q_castBool, q_castStr, q_castPtr, q_castFn, q_castAgg, q_castTuple, q_uncons, q_isNil, q_sl, q_nils, q_emp, q_ptr, q_nilp, q_fn, q_cond_true, q_cond_false, Bool.not_true, Bool.not_false, decide_true, decide_false, List.cons_append, List.nil_append, this, show decide ((0 : Int) < 0) = false from rfl]
    exact W.ret ⟨rfl, rfl⟩
  rw [if_neg h1]
  by_cases h2 : s = ⟨#[98, 111, 111, 108]⟩
  · rw [if_pos h2]
    have : fidx (fun x => decide (s = x)) [(⟨#[105, 110, 116]⟩ : ByteArray), ⟨#[98, 111, 111, 108]⟩, ⟨#[114, 111, 119]⟩] = 1 := by subst h2; simp [fidx]
    try simp only [q_bind_some, castInt_int, q_castBool, q_castStr, q_castPtr, q_castFn, q_castAgg, q_castTuple, q_uncons, q_isNil, q_sl, q_nils, q_emp, q_ptr, q_nilp, q_fn, q_cond_true, q_cond_false, Bool.not_true, Bool.not_false, decide_true, decide_false, List.cons_append, List.nil_append, this, show decide ((1 : Int) < 0) = false from rfl]
    exact W.ret ⟨rfl, rfl⟩
  rw [if_neg h2]
  by_cases h3 : s = ⟨#[114, 111, 119]⟩
  · rw [if_pos h3]
    have : fidx (fun x => decide (s = x)) [(⟨#[105, 110, 116]⟩ : ByteArray), ⟨#[98, 111, 111, 108]⟩, ⟨#[114, 111, 119]⟩] = 2 := by subst h3; simp [fidx]
    try simp only [q_bind_some, castInt_int, q_castBool, q_castStr, q_castPtr, q_castFn, q_castAgg, q_castTuple, q_uncons, q_isNil, q_sl, q_nils, q_emp, q_ptr, q_nilp, q_fn, q_cond_true, q_cond_false, Bool.not_true, Bool.not_false, decide_true, decide_false, List.cons_append, List.nil_append, this, show decide ((2 : Int) < 0) = false from rfl]
    exact W.ret ⟨rfl, rfl⟩
  rw [if_neg h3]
  have : fidx (fun x => decide (s = x)) [(⟨#[105, 110, 116]⟩ : ByteArray), ⟨#[98, 111, 111, 108]⟩, ⟨#[114, 111, 119]⟩] = -1 := by simp [fidx, h1, h2, h3]
  try simp only [q_bind_some, castInt_int, q_castBool, q_castStr, q_castPtr, q_castFn, q_castAgg, q_castTuple, q_uncons, q_isNil, q_sl, q_nils, q_emp, q_ptr, q_nilp, q_fn, q_cond_true, q_cond_false, Bool.not_true, Bool.not_false, decide_true, decide_false, List.cons_append, List.nil_append, this, show decide ((-1 : Int) < 0) = true from rfl]
  exact W.ret ⟨rfl, rfl⟩
theorem typeNo_cases (s : ByteArray) : (typeNo s = 0 ∧ ∀ n, IsT n → s ≠ tword n) ∨ (IsT (typeNo s) ∧ s = tword (typeNo s)) := by
  unfold typeNo
  split
  · exact .inr ⟨by unfold IsT; omega, by subst s; rfl⟩
  split
  · exact .inr ⟨by unfold IsT; omega, by subst s; rfl⟩
  split
  · exact .inr ⟨by unfold IsT; omega, by subst s; rfl⟩
  · rename_i h1 h2 h3
    refine .inl ⟨rfl, fun n hn hc => ?_⟩
    unfold IsT at hn
    have : n = 1 ∨ n = 2 ∨ n = 3 := by omega
    rcases this with rfl | rfl | rfl
    · exact h1 hc
    · exact h2 hc
    · exact h3 hc
theorem l3Kind_gives {σ : Heap} (s : ByteArray) : Gives G n_spec_l3Kind [.str s] σ (.int .i64 (typeNo s)) := by
  refine Gives.of (W.to (fun k _ => spec_l3Kind.eq k _ _) ?_)
  refine W.loop (S := Nat × Heap) (fun x => x.1 ≤ 3 ∧ Lh σ x.2 ∧ ∀ j : Nat, 1 ≤ j → j ≤ x.1 → tword (j : Int) ≠ s) (fun x => [.v (.str s), .v (.int .i64 ((x.1 + 1 : Nat) : Int))]) (fun x => x.2) (fun x => 4 - x.1) (fun ⟨i, σi⟩ ⟨hi, hl, hno⟩ => ?_)
    (0, σ) ⟨by show 0 ≤ 3; omega, Lh.refl _, fun j h1 h2 => by simp at h2; omega⟩
  simp only at hi hl hno ⊢
  refine W.to (fun k _ => by rw [spec_l3Kind.L0_step]) ?_
  refine B.ite (fun hlt => ?_) fun hlt => ?_
  · refine B.give (specTreeType_gives _ σi) fun σ1 l1 => ?_
    try simp only [q_bind_some, castInt_int, q_castBool, q_castStr, q_castPtr, q_castFn, q_castAgg, q_castTuple, q_uncons, q_isNil, q_sl, q_nils, q_emp, q_ptr, q_nilp, q_fn, q_cond_true, q_cond_false, Bool.not_true, Bool.not_false, decide_true, decide_false, List.cons_append, List.nil_append]
    by_cases hs : tword ((i + 1 : Nat) : Int) = s
    · have hT : IsT ((i + 1 : Nat) : Int) := by unfold IsT; omega
      try simp only [q_bind_some, castInt_int, q_castBool, q_castStr, q_castPtr, q_castFn, q_castAgg, q_castTuple, q_uncons, q_isNil, q_sl, q_nils, q_emp, q_ptr, q_nilp, q_fn, q_cond_true, q_cond_false, Bool.not_true, Bool.not_false, decide_true, decide_false, List.cons_append, List.nil_append, decide_eq_true hs, spec_l3Kind.A0_ret]
      refine W.ret ⟨?_, hl.trans l1⟩
      rw [← hs, typeNo_word hT]
    · try simp only [q_bind_some, castInt_int, q_castBool, q_castStr, q_castPtr, q_castFn, q_castAgg, q_castTuple, q_uncons, q_isNil, q_sl, q_nils, q_emp, q_ptr, q_nilp, q_fn, q_cond_true, q_cond_false, Bool.not_true, Bool.not_false, decide_true, decide_false, List.cons_append, List.nil_append, decide_eq_false hs, wrap_next (show i + 1 < 4 by omega) (by decide)]
      refine W.again (i + 1, σ1) ⟨by show i + 1 ≤ 3; omega, hl.trans l1, fun j h1 h2 => ?_⟩ (by simp only; omega) rfl rfl
      rcases Nat.lt_or_ge j (i + 1) with h | h
      · exact hno j h1 (by omega)
      · simp only at h2
        obtain rfl : j = i + 1 := by omega
        exact hs
  · try simp only [q_bind_some, castInt_int, q_castBool, q_castStr, q_castPtr, q_castFn, q_castAgg, q_castTuple, q_uncons, q_isNil, q_sl, q_nils, q_emp, q_ptr, q_nilp, q_fn, q_cond_true, q_cond_false, Bool.not_true, Bool.not_false, decide_true, decide_false, List.cons_append, List.nil_append, spec_l3Kind.A0_x0]
    refine W.ret ⟨?_, hl⟩
    obtain rfl : i = 3 := by omega
    rcases typeNo_cases s with ⟨h1, _⟩ | ⟨h1, h2⟩
    · rw [h1]
    · exfalso
      unfold IsT at h1
      have hn := hno (typeNo s).toNat (by omega) (by omega)
      rw [Int.toNat_of_nonneg (by omega)] at hn
      exact hn h2.symm
theorem ba_none (s : ByteArray) : s = ⟨#[]⟩ ↔ s.data.toList = [] := by
  constructor
  · intro h
    rw [h]
  · intro h
    rw [ba_self s, h]
    rfl
theorem row_at {σ : Heap} {q : Nat} {lim : Bool} {ls : List (List UInt8)} (h : StrRow σ q (ls.map ba)) {i : Nat} {x : List UInt8} (hx : ls[i]? = some x) : ∃ r o, vidx 1 (.sl q 0 ls.length lim) (i : Int) = some (r, o) ∧ rdc σ r o 1 = some [.str (ba x)] := by
  have hr : RepS 1 StrRep σ (.sl q 0 (ls.map ba).length lim) (ls.map ba) := h.rep (fun _ => rfl) lim
  obtain ⟨r, o, hv, cs, hr, hP⟩ := hr.at' (i := i) (x := ba x) (by rw [List.getElem?_map, hx]; rfl)
  unfold StrRep at hP
  subst hP
  rw [List.length_map] at hv
  exact ⟨r, o, hv, hr⟩
theorem readTypes_ends {σ : Heap} (ht : TypeW σ) (hm : MaxV σ) (s : ByteArray) (hs : s.size ≤ 1048576) : HM.Ends G n_impl_readTypes [.str s] σ (fun w σ' => ∃ R, Ow σ σ' w (readT s.data.toList) R) := by
  refine HM.Ends.mk (W.to (fun k _ => impl_readTypes.eq k _ _) ?_)
  unfold readT
  by_cases h0 : s.data.toList = []
  · try simp only [q_bind_some, castInt_int, q_castBool, q_castStr, q_castPtr, q_castFn, q_castAgg, q_castTuple, q_uncons, q_isNil, q_sl, q_nils, q_emp, q_ptr, q_nilp, q_fn, q_cond_true, q_cond_false, Bool.not_true, Bool.not_false, decide_true, decide_false, List.cons_append, List.nil_append, decide_eq_true ((ba_none s).2 h0)]
    rw [if_pos h0]
    exact W.ret ⟨_, Ow.start σ⟩
  rw [if_neg h0]
  try simp only [q_bind_some, castInt_int, q_castBool, q_castStr, q_castPtr, q_castFn, q_castAgg, q_castTuple, q_uncons, q_isNil, q_sl, q_nils, q_emp, q_ptr, q_nilp, q_fn, q_cond_true, q_cond_false, Bool.not_true, Bool.not_false, decide_true, decide_false, List.cons_append, List.nil_append, decide_eq_false (fun h => h0 ((ba_none s).1 h))]
  have lN : Lh σ (hnew σ 1 []) := Lh.new _ _ _
  obtain ⟨σ0, c1, lS, hrow, hlen⟩ := split_runs (σ := hnew σ 1 []) (let ⟨m, e⟩ := hm; ⟨m, lN.row _ _ e⟩) s 44 hs
  refine W.run c1 ?_
  try simp only [q_bind_some, castInt_int, q_castBool, q_castStr, q_castPtr, q_castFn, q_castAgg, q_castTuple, q_uncons, q_isNil, q_sl, q_nils, q_emp, q_ptr, q_nilp, q_fn, q_cond_true, q_cond_false, Bool.not_true, Bool.not_false, decide_true, decide_false, List.cons_append, List.nil_append]
  have hn := split_len 44 s.data.toList
  have hsz := ba_list s
  have hq : (hnew σ 1 []).length = σ.length + 1 := by simp [hnew]
  generalize splitL 44 s.data.toList = ls at hrow hn
  rw [hq] at hrow hlen ⊢
  refine W.loop (S := Nat × V × Heap × List Nat) (fun s => s.1 ≤ ls.length ∧ Ow σ s.2.2.1 s.2.1 ((ls.take s.1).map fun w => typeNo (ba w)) s.2.2.2 ∧ StrRow s.2.2.1 (σ.length + 1) (ls.map ba) ∧ σ.length + 1 ∉ s.2.2.2) (fun s => [.v s.2.1, .v (.sl (σ.length + 1) 0 ls.length false), .v (.int .i64 (ls.length : Int)), .v (.int .i64 (s.1 : Int))]) (fun s => s.2.2.1) (fun s => ls.length - s.1)
    (fun ⟨i, vi, σi, Ri⟩ ⟨hi, hO, hr, hq'⟩ => ?_) (0, .sl σ.length 0 0 true, σ0, [σ.length]) ⟨Nat.zero_le _, (Ow.start σ).up lS, hrow, by simp⟩
  simp only at hi hO hr hq' ⊢
  refine W.to (fun k _ => by rw [impl_readTypes.L0_step]) ?_
  refine B.ite (fun hlt => ?_) fun hlt => ?_
  · have hil : i < ls.length := by omega
    have hx : ls[i]? = some ls[i] := List.getElem?_eq_getElem hil
    generalize ls[i] = x at hx
    obtain ⟨r, o, hv, hrd⟩ := row_at (lim := false) hr hx
    have hql := hr.lt
    try simp only [q_bind_some, castInt_int, q_castBool, q_castStr, q_castPtr, q_castFn, q_castAgg, q_castTuple, q_uncons, q_isNil, q_sl, q_nils, q_emp, q_ptr, q_nilp, q_fn, q_cond_true, q_cond_false, Bool.not_true, Bool.not_false, decide_true, decide_false, List.cons_append, List.nil_append, hv, hrd]
    refine B.run (typeOf_runs (hO.le.row _ _ ht) (ba x)) ?_
    obtain ⟨v', σ', R', c1, c2, c3, c4⟩ := hO.add' (typeNo (ba x)) (by rw [List.length_map, List.length_take]; omega)
    try simp only [q_bind_some, castInt_int, q_castBool, q_castStr, q_castPtr, q_castFn, q_castAgg, q_castTuple, q_uncons, q_isNil, q_sl, q_nils, q_emp, q_ptr, q_nilp, q_fn, q_cond_true, q_cond_false, Bool.not_true, Bool.not_false, decide_true, decide_false, List.cons_append, List.nil_append, c1, wrap_next hil (by omega)]
    refine W.again (i + 1, v', σ', R') ⟨by show i + 1 ≤ ls.length; omega, by rw [take_next' hx, List.map_append]; exact c2, hr.keep (c4 _ hql hq'), fun hc => ?_⟩ (by simp only; omega) rfl rfl
    rcases c3 _ hc with h | h
    · omega
    · exact hq' h
  · obtain rfl : i = ls.length := by omega
    rw [List.take_length] at hO
    try simp only [q_bind_some, castInt_int, q_castBool, q_castStr, q_castPtr, q_castFn, q_castAgg, q_castTuple, q_uncons, q_isNil, q_sl, q_nils, q_emp, q_ptr, q_nilp, q_fn, q_cond_true, q_cond_false, Bool.not_true, Bool.not_false, decide_true, decide_false, List.cons_append, List.nil_append, impl_readTypes.A0_x0]
    exact W.ret ⟨Ri, hO⟩
theorem l3Kinds_ends {σ : Heap} (s : ByteArray) (hs : s.size ≤ 1048576) : HM.Ends G n_spec_l3Kinds [.str s] σ (fun w σ' => ∃ R, Ow σ σ' w (readT s.data.toList) R) := by
  refine HM.Ends.mk (W.to (fun k _ => spec_l3Kinds.eq k _ _) ?_)
  unfold readT
  by_cases h0 : s.data.toList = []
  · try simp only [q_bind_some, castInt_int, q_castBool, q_castStr, q_castPtr, q_castFn, q_castAgg, q_castTuple, q_uncons, q_isNil, q_sl, q_nils, q_emp, q_ptr, q_nilp, q_fn, q_cond_true, q_cond_false, Bool.not_true, Bool.not_false, decide_true, decide_false, List.cons_append, List.nil_append, decide_eq_true ((ba_none s).2 h0)]
    rw [if_pos h0]
    exact W.ret ⟨_, Ow.start σ⟩
  rw [if_neg h0]
  try simp only [q_bind_some, castInt_int, q_castBool, q_castStr, q_castPtr, q_castFn, q_castAgg, q_castTuple, q_uncons, q_isNil, q_sl, q_nils, q_emp, q_ptr, q_nilp, q_fn, q_cond_true, q_cond_false, Bool.not_true, Bool.not_false, decide_true, decide_false, List.cons_append, List.nil_append, decide_eq_false (fun h => h0 ((ba_none s).1 h))]
  have hq : (hnew σ 1 []).length = σ.length + 1 := by simp [hnew]
  have hn := split_len 44 s.data.toList
  have hsz := ba_list s
  have c0 := l23Cut_ends (σ := hnew σ 1 []) s 44 hs
  generalize splitL 44 s.data.toList = ls at hn c0
  refine W.call c0 ?_
  rintro _ σ0 ⟨⟨q, lim, hq0, rfl, hrow⟩, lS⟩
  rw [hq] at hq0
  rw [List.length_map]
  refine W.loop (S := Nat × V × Heap × List Nat) (fun s => s.1 ≤ ls.length ∧ Ow σ s.2.2.1 s.2.1 ((ls.take s.1).map fun w => typeNo (ba w)) s.2.2.2 ∧ StrRow s.2.2.1 q (ls.map ba) ∧ q ∉ s.2.2.2) (fun s => [.v s.2.1, .v (.sl q 0 ls.length lim), .v (.int .i64 (s.1 : Int))]) (fun s => s.2.2.1) (fun s => ls.length - s.1)
    (fun ⟨i, vi, σi, Ri⟩ ⟨hi, hO, hr, hq'⟩ => ?_) (0, .sl σ.length 0 0 true, σ0, [σ.length]) ⟨Nat.zero_le _, (Ow.start σ).up lS, hrow, by simp; omega⟩
  simp only at hi hO hr hq' ⊢
  refine W.to (fun k _ => by rw [spec_l3Kinds.L0_step]) ?_
  try simp only [q_bind_some, castInt_int, q_castBool, q_castStr, q_castPtr, q_castFn, q_castAgg, q_castTuple, q_uncons, q_isNil, q_sl, q_nils, q_emp, q_ptr, q_nilp, q_fn, q_cond_true, q_cond_false, Bool.not_true, Bool.not_false, decide_true, decide_false, List.cons_append, List.nil_append]
  refine B.ite (fun hlt => ?_) fun hlt => ?_
  · have hil : i < ls.length := by omega
    have hx : ls[i]? = some ls[i] := List.getElem?_eq_getElem hil
    generalize ls[i] = x at hx
    obtain ⟨r, o, hv, hrd⟩ := row_at (lim := lim) hr hx
    try simp only [q_bind_some, castInt_int, q_castBool, q_castStr, q_castPtr, q_castFn, q_castAgg, q_castTuple, q_uncons, q_isNil, q_sl, q_nils, q_emp, q_ptr, q_nilp, q_fn, q_cond_true, q_cond_false, Bool.not_true, Bool.not_false, decide_true, decide_false, List.cons_append, List.nil_append, hv, hrd]
    refine B.give (l3Kind_gives (ba x)) fun σ1 l1 => ?_
    have hql := (hr.lt : q < σi.length)
    have hr1 : StrRow σ1 q (ls.map ba) := by
      obtain ⟨ty, hr⟩ := hr
      exact ⟨ty, l1.row _ _ hr⟩
    have hlen := l1.len
    obtain ⟨v', σ', R', c1, c2, c3, c4⟩ := (hO.up l1).add' (typeNo (ba x)) (by rw [List.length_map, List.length_take]; omega)
    try simp only [q_bind_some, castInt_int, q_castBool, q_castStr, q_castPtr, q_castFn, q_castAgg, q_castTuple, q_uncons, q_isNil, q_sl, q_nils, q_emp, q_ptr, q_nilp, q_fn, q_cond_true, q_cond_false, Bool.not_true, Bool.not_false, decide_true, decide_false, List.cons_append, List.nil_append, c1, wrap_next hil (by omega)]
    refine W.again (i + 1, v', σ', R') ⟨by show i + 1 ≤ ls.length; omega, by rw [take_next' hx, List.map_append]; exact c2, hr1.keep (c4 _ (by omega) hq'), fun hc => ?_⟩ (by simp only; omega) rfl rfl
    rcases c3 _ hc with h | h
    · omega
    · exact hq' h
  · obtain rfl : i = ls.length := by omega
    rw [List.take_length] at hO
    try simp only [q_bind_some, castInt_int, q_castBool, q_castStr, q_castPtr, q_castFn, q_castAgg, q_castTuple, q_uncons, q_isNil, q_sl, q_nils, q_emp, q_ptr, q_nilp, q_fn, q_cond_true, q_cond_false, Bool.not_true, Bool.not_false, decide_true, decide_false, List.cons_append, List.nil_append, spec_l3Kinds.A0_x0]
    exact W.ret ⟨Ri, hO⟩
def SigO (σ : Heap) (s : FaceSig) (w : V) (σ' : Heap) : Prop := ∃ av R, w = .agg [.str s.name, av, .int .i64 s.type] ∧ Ow σ σ' av s.args R
theorem l3Line_ends {σ : Heap} (s : ByteArray) (hs : s.size ≤ 1048576) : HM.Ends G n_spec_l3Line [.str s] σ (SigO σ (lineQ s.data.toList)) := by
  have hl := ba_list s
  refine HM.Ends.mk (W.to (fun k _ => spec_l3Line.eq k _ _) ?_)
  refine W.run (l23Find_runs s 40 hs) ?_
  try simp only [q_bind_some, castInt_int, q_castBool, q_castStr, q_castPtr, q_castFn, q_castAgg, q_castTuple, q_uncons, q_isNil, q_sl, q_nils, q_emp, q_ptr, q_nilp, q_fn, q_cond_true, q_cond_false, Bool.not_true, Bool.not_false, decide_true, decide_false, List.cons_append, List.nil_append]
  refine W.run (l23Find_runs s 41 hs) ?_
  try simp only [q_bind_some, castInt_int, q_castBool, q_castStr, q_castPtr, q_castFn, q_castAgg, q_castTuple, q_uncons, q_isNil, q_sl, q_nils, q_emp, q_ptr, q_nilp, q_fn, q_cond_true, q_cond_false, Bool.not_true, Bool.not_false, decide_true, decide_false, List.cons_append, List.nil_append]
  unfold lineQ
  have none : W (ι := Unit) (SigO σ (⟨⟨#[]⟩, [], 0⟩ : FaceSig)) (fun _ => False) (fun _ _ => some (.agg [.str (⟨#[]⟩ : ByteArray), .nils, .int .i64 0], σ)) := W.ret ⟨.nils, [], rfl, Ow.nils σ⟩
  refine W.ite (fun h => by rw [if_pos h]; exact none) fun h => ?_
  rw [if_neg h]
  refine W.ite (fun h => by rw [if_pos h]; exact none) fun h' => ?_
  rw [if_neg h']
  rcases idx_cases 40 s.data.toList with ⟨_, a2⟩ | ⟨a, a1, a2, a3, _⟩
  · rw [a2] at h; omega
  rcases idx_cases 41 s.data.toList with ⟨_, b2⟩ | ⟨b, b1, b2, b3, _⟩
  · rw [a2, b2] at h'; omega
  rw [a2, b2] at h' ⊢
  have hab : a ≠ b := fun hc => by
    subst hc
    rw [a3] at b3
    injection b3 with b3
    exact absurd b3 (by decide)
  have w1 : IntKind.wrap .i64 ((a : Int) + 1) = ((a + 1 : Nat) : Int) := by rw [wrap_id (by omega) (by omega)]; omega
  have w2 : IntKind.wrap .i64 ((b : Int) + 1) = ((b + 1 : Nat) : Int) := by rw [wrap_id (by omega) (by omega)]; omega
  try simp only [q_bind_some, castInt_int, q_castBool, q_castStr, q_castPtr, q_castFn, q_castAgg, q_castTuple, q_uncons, q_isNil, q_sl, q_nils, q_emp, q_ptr, q_nilp, q_fn, q_cond_true, q_cond_false, Bool.not_true, Bool.not_false, decide_true, decide_false, List.cons_append, List.nil_append, w1, w2, sub_to (show a ≤ s.size by omega), sub_mid (show a + 1 ≤ b by omega) (show b ≤ s.size by omega), sub_from (show b + 1 ≤ s.size by omega)]
  refine W.call (l3Kinds_ends (ba ((s.data.toList.take b).drop (a + 1))) (by rw [ba_size, List.length_drop, List.length_take]; omega)) ?_
  rintro av σ1 ⟨R, hO⟩
  refine W.give (l3Kind_gives (ba (s.data.toList.drop (b + 1)))) fun σ2 l2 => ?_
  try simp only [q_bind_some, castInt_int, q_castBool, q_castStr, q_castPtr, q_castFn, q_castAgg, q_castTuple, q_uncons, q_isNil, q_sl, q_nils, q_emp, q_ptr, q_nilp, q_fn, q_cond_true, q_cond_false, Bool.not_true, Bool.not_false, decide_true, decide_false, List.cons_append, List.nil_append, one_sl' hO.r.isSl]
  exact W.ret ⟨av, R, rfl, hO.up l2⟩
end Go.R
