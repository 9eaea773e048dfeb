/- The contracts of this claim, laid together: part 0. -/
import Derived.Test.YtiefmflpmmgoaaaGreatDoorEF0
import Derived.Test.YtiefmflpmmgoaaaGreatDoorEF1
import Derived.Test.YtiefmflpmmgoaaaGreatDoorEF2
import Derived.Test.YtiefmflpmmgoaaaGreatDoorHMIdx
import Derived.Test.YtiefmflpmmgoaaaGreatDoorC
import Derived.Test.YtiefmflpmmgoaaaGreatDoorK
import Derived.Test.YtiefmflpmmgoaaaGreatDoorHMSplit
import Derived.Test.YtiefmflpmmgoaaaGreatDoorHMStr
import Derived.Test.YtiefmflpmmgoaaaGreatDoorHMLoop
import Derived.Test.YtiefmflpmmgoaaaGreatDoorHMWp
import Derived.Test.YtiefmflpmmgoaaaGreatDoorHMStd
import Derived.Test.YtiefmflpmmgoaaaGreatDoorHMDec
import Derived.Lib.ItoaLen
import Derived.Lib.AtoiAllCases
import Derived.Test.YtiefmflpmmgoaaaGreatDoorEG
import Derived.Test.YtiefmflpmmgoaaaGreatDoorHMLeaf
/- Texts as lists of bytes. -/
set_option linter.unusedVariables false
set_option linter.unusedSimpArgs false
namespace Go.F
open Go.HM Go.Proofs
def ba (l : List UInt8) : ByteArray := ⟨l.toArray⟩
theorem ba_app (l : List UInt8) (s : ByteArray) : ba l ++ s = ba (l ++ s.data.toList) := by
  obtain ⟨⟨d⟩⟩ := s
  apply ByteArray.ext
  rw [ByteArray.data_append]
  simp [ba]
theorem ba_size (l : List UInt8) : (ba l).size = l.length := by simp [ba, ByteArray.size]
theorem ba_self (s : ByteArray) : s = ba s.data.toList := by
  obtain ⟨⟨d⟩⟩ := s
  rfl
theorem ba_list (s : ByteArray) : s.data.toList.length = s.size := by simp
theorem fitB {α : Type} (L M : List UInt8) (x y : α) (h : L.length + M.length ≤ 4611686018427387904) : (if (ba L).size + (ba M).size ≤ 2 ^ 62 then x else y) = x := by
  have e62 : (2 : Nat) ^ 62 = 4611686018427387904 := by decide
  rw [if_pos (by rw [ba_size, ba_size, e62]; exact h)]
theorem ba2 (L M : List UInt8) : ba L ++ ba M = ba (L ++ M) := ba_app L (ba M)
theorem mk_ba (L : List UInt8) : (⟨L.toArray⟩ : ByteArray) = ba L := rfl
theorem ba_inj {L M : List UInt8} : ba L = ba M ↔ L = M := ⟨fun h => congrArg (fun s : ByteArray => s.data.toList) h, fun h => by rw [h]⟩
def catL {α : Type} (f : α → List UInt8) (l : List α) (i : Nat) : List UInt8 := ((l.take i).map f).flatten
theorem catL_zero {α : Type} (f : α → List UInt8) (l : List α) : catL f l 0 = [] := by simp [catL]
theorem catL_next {α : Type} {f : α → List UInt8} {l : List α} {i : Nat} {x : α} (h : l[i]? = some x) : catL f l (i + 1) = catL f l i ++ f x := by
  unfold catL
  rw [take_next' h, List.map_append, List.flatten_append]
  simp
theorem catL_len {α : Type} {f : α → List UInt8} {g : α → Nat} {l : List α} (h : ∀ x, x ∈ l → (f x).length ≤ g x) : ∀ i, i ≤ l.length → (catL f l i).length ≤ totS g (l.take i)
  | 0, _ => by simp [catL]
  | i + 1, hi => by
    have hx : l[i]? = some (l[i]'(by omega)) := List.getElem?_eq_getElem (by omega)
    have ih := catL_len h i (by omega)
    have hm := h _ (List.mem_of_getElem? hx)
    have hs : totS g (l.take (i + 1)) = totS g (l.take i) + g (l[i]'(by omega)) := by rw [take_next' hx, totS_append]; simp [totS]
    rw [catL_next hx, List.length_append]
    omega
end Go.F

/- Texts cut at a byte: plain; strings.Split, Cut, TrimSuffix, and the reference's l23Cut and l23Find. -/
set_option linter.unusedVariables false
set_option linter.unusedSimpArgs false
namespace Go.F
open Go.HM Go.Proofs
/-- What is cut off, and what is open. -/
def cutF (c : UInt8) (s : List (List UInt8) × List UInt8) (l : List UInt8) : List (List UInt8) × List UInt8 := l.foldl (fun s b => if b = c then (s.1 ++ [s.2], []) else (s.1, s.2 ++ [b])) s
def splitL (c : UInt8) (l : List UInt8) : List (List UInt8) := (cutF c ([], []) l).1 ++ [(cutF c ([], []) l).2]
theorem cutF_app (c : UInt8) (s : List (List UInt8) × List UInt8) (l m : List UInt8) : cutF c s (l ++ m) = cutF c (cutF c s l) m := List.foldl_append
theorem cutF_plain {c : UInt8} : ∀ (l : List UInt8) (A : List (List UInt8)) (w : List UInt8), c ∉ l → cutF c (A, w) l = (A, w ++ l)
  | [], A, w, _ => by simp [cutF]
  | b :: l, A, w, h => by
    have hb : b ≠ c := fun e => h (by simp [e])
    show cutF c (if b = c then (A ++ [w], []) else (A, w ++ [b])) l = _
    rw [if_neg hb, cutF_plain l A _ fun hc => h (by simp [hc])]
    simp
theorem cutF_front (c : UInt8) : ∀ (l : List UInt8) (A : List (List UInt8)) (w : List UInt8), cutF c (A, w) l = (A ++ (cutF c ([], w) l).1, (cutF c ([], w) l).2)
  | [], A, w => by simp [cutF]
  | b :: l, A, w => by
    show cutF c (if b = c then (A ++ [w], []) else (A, w ++ [b])) l = (A ++ (cutF c (if b = c then ([] ++ [w], []) else ([], w ++ [b])) l).1, (cutF c (if b = c then ([] ++ [w], []) else ([], w ++ [b])) l).2)
    split
    · rw [cutF_front c l (A ++ [w]) [], cutF_front c l ([] ++ [w]) []]
      simp
    · rw [cutF_front c l A (w ++ [b])]
theorem cutF_len (c : UInt8) : ∀ (l : List UInt8) (A : List (List UInt8)) (w : List UInt8), (cutF c (A, w) l).1.length ≤ A.length + l.length
  | [], A, w => by simp [cutF]
  | b :: l, A, w => by
    show (cutF c (if b = c then (A ++ [w], []) else (A, w ++ [b])) l).1.length ≤ _
    split
    · have := cutF_len c l (A ++ [w]) []
      simp at this ⊢
      omega
    · have := cutF_len c l A (w ++ [b])
      simp at this ⊢
      omega
theorem split_len (c : UInt8) (l : List UInt8) : (splitL c l).length ≤ l.length + 1 := by
  have := cutF_len c l [] []
  unfold splitL
  simp at this ⊢
  omega
theorem split_plain {c : UInt8} {l : List UInt8} (h : c ∉ l) : splitL c l = [l] := by
  unfold splitL
  rw [cutF_plain l [] [] h]
  simp
theorem split_at {c : UInt8} {l : List UInt8} (h : c ∉ l) (m : List UInt8) : splitL c (l ++ c :: m) = l :: splitL c m := by
  unfold splitL
  rw [cutF_app, cutF_plain l [] [] h]
  show (cutF c (if c = c then ([] ++ [[] ++ l], []) else ([], [] ++ l ++ [c])) m).1 ++ [(cutF c (if c = c then ([] ++ [[] ++ l], []) else ([], [] ++ l ++ [c])) m).2] = _
  rw [if_pos rfl, cutF_front]
  simp
theorem idx_cases (c : UInt8) : ∀ l : List UInt8, (c ∉ l ∧ Lib.indexByte l c = -1) ∨ ∃ i : Nat, i < l.length ∧ Lib.indexByte l c = (i : Int) ∧ l[i]? = some c ∧ c ∉ l.take i
  | [] => .inl ⟨by simp, rfl⟩
  | b :: l => by
    unfold Lib.indexByte
    by_cases hb : b = c
    · subst hb
      exact .inr ⟨0, by simp, by simp, by simp, by simp⟩
    · have hb' : (b == c) = false := by simpa using hb
      rw [hb']
      simp only [Bool.false_eq_true, if_false]
      rcases idx_cases c l with ⟨h1, h2⟩ | ⟨i, h1, h2, h3, h4⟩
      · exact .inl ⟨by simp [h1, Ne.symm hb], by rw [h2]; rfl⟩
      · refine .inr ⟨i + 1, by simp; omega, ?_, by simpa using h3, by simp [h4, Ne.symm hb]⟩
        rw [h2]
        have : ((i : Int) == -1) = false := by simp
        rw [this]
        simp
theorem index_one (c : UInt8) : ∀ l : List UInt8, Lib.index l [c] = Lib.indexByte l c
  | [] => by simp [Lib.index, Lib.indexByte]
  | b :: l => by
    rw [Lib.index, Lib.indexByte, index_one c l]
    by_cases hb : b = c
    · subst hb
      simp [List.isPrefixOf]
    · have h1 : ([c] : List UInt8).isPrefixOf (b :: l) = false := by simp [List.isPrefixOf, Ne.symm hb]
      have h2 : (b == c) = false := by simpa using hb
      rw [h1, h2]
theorem split_cut {c : UInt8} {l : List UInt8} {i : Nat} (h1 : i < l.length) (h3 : l[i]? = some c) : l = l.take i ++ c :: l.drop (i + 1) := by
  conv => lhs; rw [← List.take_append_drop i l, List.drop_eq_getElem_cons h1]
  rw [List.getElem?_eq_getElem h1] at h3
  injection h3 with h3
  rw [h3]
theorem splitK_eq (c : UInt8) : ∀ (n : Nat) (l : List UInt8), l.length ≤ n → Lib.splitK [c] 0 (Lib.count l [c]) l = splitL c l
  | n, l, hn => by
    rcases idx_cases c l with ⟨h1, h2⟩ | ⟨i, h1, h2, h3, h4⟩
    · rw [Lib.count_miss (by rw [index_one, h2]), split_plain h1]
      rfl
    · rw [Lib.count_hit (by simp) (by rw [index_one, h2]), Nat.add_comm]
      unfold Lib.splitK
      rw [index_one, h2]
      have hne : ¬ (((i : Int) == -1) = true) := by simp
      have hs := split_cut h1 h3
      match n with
      | 0 => omega
      | n + 1 =>
        have ih := splitK_eq c n (l.drop (i + 1)) (by rw [List.length_drop]; omega)
        rw [if_neg hne, Int.toNat_natCast]
        show l.take i :: Lib.splitK [c] 0 (Lib.count (l.drop (i + 1)) [c]) (l.drop (i + 1)) = _
        rw [ih]
        conv => rhs; rw [hs]
        rw [split_at h4]
theorem splitB_eq (c : UInt8) (s : ByteArray) : Lib.splitB ⟨#[c]⟩ 0 (Lib.countB s ⟨#[c]⟩) s = (splitL c s.data.toList).map ba := by
  have h := Lib.splitB_data ⟨#[c]⟩ 0 (Lib.countB s ⟨#[c]⟩) s
  have h2 := splitK_eq c _ s.data.toList (Nat.le_refl _)
  have e : Lib.splitK (⟨#[c]⟩ : ByteArray).data.toList 0 (Lib.countB s ⟨#[c]⟩) s.data.toList = splitL c s.data.toList := h2
  rw [e] at h
  rw [← h, List.map_map]
  conv => lhs; rw [← List.map_id (Lib.splitB _ _ _ _)]
  apply List.map_congr_left
  intro x _
  exact ba_self x
/-- The variable that strings.Index reads holds some number. -/
abbrev MaxV (σ : Heap) : Prop := ∃ m, σ[g_MaxLen]? = some (some ⟨[.int .i64 m], 1, true, 0⟩)
theorem split_runs {σ : Heap} (hm : MaxV σ) (s : ByteArray) (c : UInt8) (hs : s.size ≤ 1048576) : ∃ σ', Runs G n_strings_Split [.str s, .str ⟨#[c]⟩] σ (.sl σ.length 0 (splitL c s.data.toList).length false) σ' ∧ Lh σ σ' ∧ StrRow σ' σ.length ((splitL c s.data.toList).map ba) ∧ σ'.length = σ.length + 1 := by
  refine ⟨hnew σ 1 (((splitL c s.data.toList).map ba).map .str), hook_runs (h := hkSplit g_MaxLen) rfl ?_, Lh.new _ _ _, ⟨0, by simp [hnew]⟩, by simp [hnew]⟩
  unfold hkSplit
  have hl : (splitL c s.data.toList).length = ((splitL c s.data.toList).map ba).length := by simp
  rw [hl, ← splitB_eq]
  exact if_pos ⟨by omega, Nat.le_refl 1, hm⟩
theorem index_runs {σ : Heap} (s : ByteArray) (c : UInt8) : Runs G n_internal_stringslite_Index [.str s, .str ⟨#[c]⟩] σ (.int .i64 (Lib.indexByte s.data.toList c)) σ := by
  refine hook_runs (h := hkIndex) rfl ?_
  unfold hkIndex
  exact if_pos rfl
theorem sub_to {s : ByteArray} {i : Nat} (h : i ≤ s.size) : ssub s none (some (i : Int)) = some (ba (s.data.toList.take i)) := by
  obtain ⟨⟨l⟩⟩ := s
  have hl : i ≤ l.length := h
  unfold ssub
  simp only [Option.getD_some, Option.getD_none]
  have hs : (⟨⟨l⟩⟩ : ByteArray).size = l.length := rfl
  rw [if_pos (by omega)]
  congr 1
  show ByteArray.extract ⟨⟨l⟩⟩ 0 i = _
  have : (ByteArray.extract ⟨⟨l⟩⟩ 0 i).data.toList = l.take i := by rw [ByteArray.data_extract]; simp [List.extract]
  rw [ba_self (ByteArray.extract ⟨⟨l⟩⟩ 0 i), this]
theorem sub_from {s : ByteArray} {i : Nat} (h : i ≤ s.size) : ssub s (some (i : Int)) none = some (ba (s.data.toList.drop i)) := by
  obtain ⟨⟨l⟩⟩ := s
  have hl : i ≤ l.length := h
  unfold ssub
  simp only [Option.getD_some, Option.getD_none]
  have hs : (⟨⟨l⟩⟩ : ByteArray).size = l.length := rfl
  rw [if_pos (by omega)]
  congr 1
  rw [ba_self (ByteArray.extract ⟨⟨l⟩⟩ (Int.toNat (i : Int)) _)]
  have : (ByteArray.extract ⟨⟨l⟩⟩ i l.length).data.toList = l.drop i := by rw [ByteArray.data_extract]; simp [List.extract]; rw [List.take_of_length_le (by simp)]
  rw [Int.toNat_natCast, hs, Int.toNat_natCast, this]
theorem sub_mid {s : ByteArray} {a b : Nat} (h1 : a ≤ b) (h2 : b ≤ s.size) : ssub s (some (a : Int)) (some (b : Int)) = some (ba ((s.data.toList.take b).drop a)) := by
  obtain ⟨⟨l⟩⟩ := s
  have hl : b ≤ l.length := h2
  unfold ssub
  simp only [Option.getD_some]
  rw [if_pos (by omega)]
  congr 1
  rw [ba_self (ByteArray.extract ⟨⟨l⟩⟩ (Int.toNat (a : Int)) _), Int.toNat_natCast, Int.toNat_natCast]
  congr 1
  rw [ByteArray.data_extract]
  simp [List.extract, List.drop_take]
def cutAt (c : UInt8) (l : List UInt8) : List UInt8 × List UInt8 := if Lib.indexByte l c < 0 then (l, []) else (l.take (Lib.indexByte l c).toNat, l.drop ((Lib.indexByte l c).toNat + 1))
theorem cutAt_le (c : UInt8) (l : List UInt8) : (cutAt c l).1.length ≤ l.length ∧ (cutAt c l).2.length ≤ l.length := by
  unfold cutAt
  split
  · exact ⟨Nat.le_refl _, Nat.zero_le _⟩
  · simp
    omega
theorem idx_at {c : UInt8} {a : List UInt8} (h : c ∉ a) (m : List UInt8) : Lib.indexByte (a ++ c :: m) c = (a.length : Int) := by
  rcases idx_cases c (a ++ c :: m) with ⟨h1, _⟩ | ⟨i, h1, h2, h3, h4⟩
  · exact absurd (by simp) h1
  rw [h2]
  rcases Nat.lt_trichotomy i a.length with hl | hl | hl
  · rw [List.getElem?_append_left hl] at h3
    exact absurd (List.mem_of_getElem? h3) h
  · rw [hl]
  · refine absurd ?_ h4
    rw [List.take_append]
    refine List.mem_append_right _ ?_
    rw [show i - a.length = (i - a.length - 1) + 1 by omega, List.take_succ_cons]
    simp
theorem cutAt_at {c : UInt8} {a : List UInt8} (h : c ∉ a) (m : List UInt8) : cutAt c (a ++ c :: m) = (a, m) := by
  unfold cutAt
  rw [idx_at h, if_neg (by omega), Int.toNat_natCast, List.take_left]
  congr 1
  rw [show a.length + 1 = (a ++ [c]).length by simp, show a ++ c :: m = (a ++ [c]) ++ m by simp, List.drop_left]
theorem cut_runs {σ : Heap} (s : ByteArray) (c : UInt8) (hs : s.size ≤ 1048576) : ∃ b, Runs G n_strings_Cut [.str s, .str ⟨#[c]⟩] σ (.tuple [.str (ba (cutAt c s.data.toList).1), .str (ba (cutAt c s.data.toList).2), .bool b]) σ := by
  have hl : s.data.toList.length = s.size := by simp
  suffices h : ∃ b, Runs G n_internal_stringslite_Cut [.str s, .str ⟨#[c]⟩] σ (.tuple [.str (ba (cutAt c s.data.toList).1), .str (ba (cutAt c s.data.toList).2), .bool b]) σ by
    obtain ⟨b, c⟩ := h
    refine ⟨b, Runs.of (W.to (fun k _ => strings_Cut.eq k _ _ _) ?_)⟩
    refine W.run c ?_
    try simp only [q_bind_some, castInt_int, q_castBool, q_castStr, q_castPtr, q_castFn, q_castAgg, q_castTuple, q_uncons, q_isNil, q_sl, q_nils, q_emp, q_ptr, q_nilp, q_fn, q_cond_true, q_cond_false, Bool.not_true, Bool.not_false, decide_true, decide_false, List.cons_append, List.nil_append]
    exact W.ret ⟨rfl, rfl⟩
  rcases idx_cases c s.data.toList with ⟨h1, h2⟩ | ⟨i, h1, h2, h3, h4⟩
  · refine ⟨false, Runs.of (W.to (fun k _ => internal_stringslite_Cut.eq k _ _ _) ?_)⟩
    refine W.run (index_runs s c) ?_
    have e : cutAt c s.data.toList = (s.data.toList, []) := by unfold cutAt; rw [h2, if_pos (by omega)]
    try simp only [q_bind_some, castInt_int, q_castBool, q_castStr, q_castPtr, q_castFn, q_castAgg, q_castTuple, q_uncons, q_isNil, q_sl, q_nils, q_emp, q_ptr, q_nilp, q_fn, q_cond_true, q_cond_false, Bool.not_true, Bool.not_false, decide_true, decide_false, List.cons_append, List.nil_append, h2, show decide ((0 : Int) ≤ -1) = false from rfl]
    exact W.ret ⟨by rw [e]; simp only; rw [← ba_self s]; rfl, rfl⟩
  · refine ⟨true, Runs.of (W.to (fun k _ => internal_stringslite_Cut.eq k _ _ _) ?_)⟩
    refine W.run (index_runs s c) ?_
    have e : cutAt c s.data.toList = (s.data.toList.take i, s.data.toList.drop (i + 1)) := by unfold cutAt; rw [h2, if_neg (by omega), Int.toNat_natCast]
    have hw : IntKind.wrap .i64 ((i : Int) + (((⟨#[c]⟩ : ByteArray).size : Nat) : Int)) = ((i + 1 : Nat) : Int) := by
      have : (⟨#[c]⟩ : ByteArray).size = 1 := rfl
      rw [this, wrap_id (by omega) (by omega)]
      omega
    try simp only [q_bind_some, castInt_int, q_castBool, q_castStr, q_castPtr, q_castFn, q_castAgg, q_castTuple, q_uncons, q_isNil, q_sl, q_nils, q_emp, q_ptr, q_nilp, q_fn, q_cond_true, q_cond_false, Bool.not_true, Bool.not_false, decide_true, decide_false, List.cons_append, List.nil_append, h2, decide_eq_true (show (0 : Int) ≤ (i : Int) by omega), hw, sub_to (show i ≤ s.size by omega), sub_from (show i + 1 ≤ s.size by omega)]
    exact W.ret ⟨by rw [e], rfl⟩
/-- Without the byte at its end. -/
def trimL (c : UInt8) (l : List UInt8) : List UInt8 := if l.drop (l.length - 1) = [c] then l.take (l.length - 1) else l
theorem trim_at (c : UInt8) (l : List UInt8) : trimL c (l ++ [c]) = l := by
  unfold trimL
  have h : (l ++ [c]).length - 1 = l.length := by simp
  rw [h, List.drop_left, if_pos rfl, List.take_left]
theorem trim_le (c : UInt8) (l : List UInt8) : (trimL c l).length ≤ l.length := by
  unfold trimL
  split
  · rw [List.length_take]; omega
  · exact Nat.le_refl _
theorem trim_runs {σ : Heap} (s : ByteArray) (c : UInt8) (hs : s.size ≤ 1048576) : Runs G n_strings_TrimSuffix [.str s, .str ⟨#[c]⟩] σ (.str (ba (trimL c s.data.toList))) σ := by
  have hl : s.data.toList.length = s.size := by simp
  have h1 : (⟨#[c]⟩ : ByteArray).size = 1 := rfl
  suffices h : Runs G n_internal_stringslite_TrimSuffix [.str s, .str ⟨#[c]⟩] σ (.str (ba (trimL c s.data.toList))) σ by
    refine Runs.of (W.to (fun k _ => strings_TrimSuffix.eq k _ _ _) ?_)
    refine W.run h ?_
    try simp only [q_bind_some, castInt_int, q_castBool, q_castStr, q_castPtr, q_castFn, q_castAgg, q_castTuple, q_uncons, q_isNil, q_sl, q_nils, q_emp, q_ptr, q_nilp, q_fn, q_cond_true, q_cond_false, Bool.not_true, Bool.not_false, decide_true, decide_false, List.cons_append, List.nil_append]
    exact W.ret ⟨rfl, rfl⟩
  refine Runs.of (W.to (fun k _ => internal_stringslite_TrimSuffix.eq k _ _ _) ?_)
  by_cases h0 : s.size = 0
  · have c1 : Runs G n_internal_stringslite_HasSuffix [.str s, .str ⟨#[c]⟩] σ (.bool false) σ := by
      refine Runs.of (W.to (fun k _ => internal_stringslite_HasSuffix.eq k _ _ _) ?_)
      try simp only [q_bind_some, castInt_int, q_castBool, q_castStr, q_castPtr, q_castFn, q_castAgg, q_castTuple, q_uncons, q_isNil, q_sl, q_nils, q_emp, q_ptr, q_nilp, q_fn, q_cond_true, q_cond_false, Bool.not_true, Bool.not_false, decide_true, decide_false, List.cons_append, List.nil_append, decide_eq_false (show ¬ (((⟨#[c]⟩ : ByteArray).size : Nat) : Int) ≤ (s.size : Int) by rw [h1]; omega)]
      exact W.ret ⟨rfl, rfl⟩
    refine W.run c1 ?_
    try simp only [q_bind_some, castInt_int, q_castBool, q_castStr, q_castPtr, q_castFn, q_castAgg, q_castTuple, q_uncons, q_isNil, q_sl, q_nils, q_emp, q_ptr, q_nilp, q_fn, q_cond_true, q_cond_false, Bool.not_true, Bool.not_false, decide_true, decide_false, List.cons_append, List.nil_append]
    have e : s.data.toList = [] := List.length_eq_zero_iff.1 (by omega)
    refine W.ret ⟨?_, rfl⟩
    conv => lhs; rw [ba_self s]
    rw [e]
    rfl
  · have hw : IntKind.wrap .i64 ((s.size : Int) - (((⟨#[c]⟩ : ByteArray).size : Nat) : Int)) = ((s.size - 1 : Nat) : Int) := by rw [h1, wrap_id (by omega) (by omega)]; omega
    have hd : decide (ba (s.data.toList.drop (s.size - 1)) = ⟨#[c]⟩) = decide (s.data.toList.drop (s.size - 1) = [c]) := by
      rw [decide_eq_decide]
      constructor
      · intro h
        exact congrArg (fun b : ByteArray => b.data.toList) h
      · intro h
        rw [h]
        rfl
    have c1 : Runs G n_internal_stringslite_HasSuffix [.str s, .str ⟨#[c]⟩] σ (.bool (decide (s.data.toList.drop (s.size - 1) = [c]))) σ := by
      refine Runs.of (W.to (fun k _ => internal_stringslite_HasSuffix.eq k _ _ _) ?_)
      try simp only [q_bind_some, castInt_int, q_castBool, q_castStr, q_castPtr, q_castFn, q_castAgg, q_castTuple, q_uncons, q_isNil, q_sl, q_nils, q_emp, q_ptr, q_nilp, q_fn, q_cond_true, q_cond_false, Bool.not_true, Bool.not_false, decide_true, decide_false, List.cons_append, List.nil_append, decide_eq_true (show (((⟨#[c]⟩ : ByteArray).size : Nat) : Int) ≤ (s.size : Int) by rw [h1]; omega), hw, sub_from (show s.size - 1 ≤ s.size by omega)]
      exact W.ret ⟨by rw [hd], rfl⟩
    refine W.run c1 ?_
    unfold trimL
    rw [hl]
    by_cases hx : s.data.toList.drop (s.size - 1) = [c]
    · rw [if_pos hx]
      try simp only [q_bind_some, castInt_int, q_castBool, q_castStr, q_castPtr, q_castFn, q_castAgg, q_castTuple, q_uncons, q_isNil, q_sl, q_nils, q_emp, q_ptr, q_nilp, q_fn, q_cond_true, q_cond_false, Bool.not_true, Bool.not_false, decide_true, decide_false, List.cons_append, List.nil_append, decide_eq_true hx, hw, sub_to (show s.size - 1 ≤ s.size by omega)]
      exact W.ret ⟨rfl, rfl⟩
    · rw [if_neg hx]
      try simp only [q_bind_some, castInt_int, q_castBool, q_castStr, q_castPtr, q_castFn, q_castAgg, q_castTuple, q_uncons, q_isNil, q_sl, q_nils, q_emp, q_ptr, q_nilp, q_fn, q_cond_true, q_cond_false, Bool.not_true, Bool.not_false, decide_true, decide_false, List.cons_append, List.nil_append, decide_eq_false hx]
      exact W.ret ⟨by rw [← ba_self s], rfl⟩
/-- The reference's l23Cut. -/
theorem l23Cut_ends {σ : Heap} (s : ByteArray) (c : UInt8) (hs : s.size ≤ 1048576) : HM.Ends G n_spec_l23Cut [.str s, .int .u8 (c.toNat : Int)] σ (fun w σ' => GrS σ.length σ' w ((splitL c s.data.toList).map ba) ∧ Lh σ σ') := by
  refine HM.Ends.mk (W.to (fun k _ => spec_l23Cut.eq k _ _ _) ?_)
  have hls := ba_list s
  have hcut : ∀ i, i < s.size → ∃ b, s.data.toList[i]? = some b ∧ s.data.toList.take (i + 1) = s.data.toList.take i ++ [b] ∧ sbyte s (i : Int) = some (b.toNat : Int) := fun i hi => by
    have hb : s.data.toList[i]? = some (s.data.toList[i]'(by omega)) := List.getElem?_eq_getElem _
    refine ⟨_, hb, take_next' hb, ?_⟩
    have e : s.data.toList[i]'(by omega) = s[i] := by
      obtain ⟨⟨l⟩⟩ := s
      rfl
    rw [e]
    exact sbyte_at hi
  refine W.loop (S := Nat × Nat × V × Heap) (fun x => x.1 ≤ s.size + 1 ∧ Lh σ x.2.2.2 ∧ (x.1 ≤ s.size → x.2.1 ≤ x.1 ∧ GrS σ.length x.2.2.2 x.2.2.1 ((cutF c ([], []) (s.data.toList.take x.1)).1.map ba) ∧ (s.data.toList.take x.1).drop x.2.1 = (cutF c ([], []) (s.data.toList.take x.1)).2) ∧ (x.1 = s.size + 1 → GrS σ.length x.2.2.2 x.2.2.1 ((splitL c s.data.toList).map ba)))
    (fun x => [.v (.str s), .v (.int .u8 (c.toNat : Int)), .v x.2.2.1, .v (.int .i64 (x.2.1 : Int)), .v (.int .i64 (x.1 : Int))]) (fun x => x.2.2.2) (fun x => s.size + 1 - x.1) (fun ⟨i, f, v, σi⟩ ⟨hi, hl, h1, h2⟩ => ?_)
    (0, 0, .sl σ.length 0 0 true, hnew σ 1 []) ⟨Nat.zero_le _, Lh.new _ _ _, fun _ => ⟨Nat.le_refl _, GrS.new σ true, rfl⟩, fun h => by simp at h⟩
  simp only at hi hl h1 h2 ⊢
  refine W.to (fun k _ => by rw [spec_l23Cut.L0_step]) ?_
  refine B.ite (fun hlt => ?_) fun hlt => ?_
  rotate_left
  · obtain rfl : i = s.size + 1 := by omega
    try simp only [q_bind_some, castInt_int, q_castBool, q_castStr, q_castPtr, q_castFn, q_castAgg, q_castTuple, q_uncons, q_isNil, q_sl, q_nils, q_emp, q_ptr, q_nilp, q_fn, q_cond_true, q_cond_false, Bool.not_true, Bool.not_false, decide_true, decide_false, List.cons_append, List.nil_append, spec_l23Cut.A0_x0]
    exact W.ret ⟨h2 rfl, hl⟩
  have hi' : i ≤ s.size := by omega
  obtain ⟨hf, hg, hd⟩ := h1 hi'
  have hcl := cutF_len c (s.data.toList.take i) [] []
  rw [List.length_take] at hcl
  simp only [List.length_nil] at hcl
  have hnext : IntKind.wrap .i64 ((i : Int) + 1) = ((i + 1 : Nat) : Int) := by rw [wrap_id (by omega) (by omega)]; omega
  by_cases he : i = s.size
  · subst he
    obtain ⟨v', σ', a1, a2, a3, _⟩ := hg.app' (ba ((s.data.toList.take s.size).drop f)) (by rw [List.length_map]; omega)
    try simp only [q_bind_some, castInt_int, q_castBool, q_castStr, q_castPtr, q_castFn, q_castAgg, q_castTuple, q_uncons, q_isNil, q_sl, q_nils, q_emp, q_ptr, q_nilp, q_fn, q_cond_true, q_cond_false, Bool.not_true, Bool.not_false, decide_true, decide_false, List.cons_append, List.nil_append, sub_mid hf (Nat.le_refl _), a1, hnext]
    refine W.again (s.size + 1, s.size + 1, v', σ') ⟨Nat.le_refl _, a3 σ (Nat.le_refl _) hl, fun h => absurd h (by simp only; omega), fun _ => ?_⟩ (by simp only; omega) rfl rfl
    rw [hd] at a2
    have e : s.data.toList.take s.size = s.data.toList := List.take_of_length_le (by omega)
    rw [e] at a2
    unfold splitL
    rw [List.map_append]
    exact a2
  · obtain ⟨b, b1, b2, b3⟩ := hcut i (by omega)
    have hne : decide ((i : Int) = (s.size : Int)) = false := decide_eq_false (by omega)
    have hstep : cutF c ([], []) (s.data.toList.take (i + 1)) = if b = c then ((cutF c ([], []) (s.data.toList.take i)).1 ++ [(cutF c ([], []) (s.data.toList.take i)).2], []) else ((cutF c ([], []) (s.data.toList.take i)).1, (cutF c ([], []) (s.data.toList.take i)).2 ++ [b]) := by
      rw [b2, cutF_app]
      rfl
    have hbc : decide ((b.toNat : Int) = (c.toNat : Int)) = decide (b = c) := by
      rw [decide_eq_decide]
      exact ⟨fun h => UInt8.toNat_inj.1 (by omega), fun h => by rw [h]⟩
    have hlen : (s.data.toList.take i).length = i := by rw [List.length_take]; omega
    by_cases hc : b = c
    · rw [if_pos hc] at hstep
      obtain ⟨v', σ', a1, a2, a3, _⟩ := hg.app' (ba ((s.data.toList.take i).drop f)) (by rw [List.length_map]; omega)
      try simp only [q_bind_some, castInt_int, q_castBool, q_castStr, q_castPtr, q_castFn, q_castAgg, q_castTuple, q_uncons, q_isNil, q_sl, q_nils, q_emp, q_ptr, q_nilp, q_fn, q_cond_true, q_cond_false, Bool.not_true, Bool.not_false, decide_true, decide_false, List.cons_append, List.nil_append, hne, b3, hbc, decide_eq_true hc, sub_mid hf hi', a1, hnext]
      refine W.again (i + 1, i + 1, v', σ') ⟨by show i + 1 ≤ s.size + 1; omega, a3 σ (Nat.le_refl _) hl, fun _ => ⟨Nat.le_refl _, ?_, ?_⟩, fun h => absurd h (by simp only; omega)⟩ (by simp only; omega) rfl rfl
      · show GrS _ _ _ ((cutF c ([], []) (s.data.toList.take (i + 1))).1.map ba)
        rw [hstep, List.map_append]
        rw [hd] at a2
        exact a2
      · show (s.data.toList.take (i + 1)).drop (i + 1) = (cutF c ([], []) (s.data.toList.take (i + 1))).2
        rw [hstep]
        exact List.drop_of_length_le (by rw [List.length_take]; omega)
    · rw [if_neg hc] at hstep
      try simp only [q_bind_some, castInt_int, q_castBool, q_castStr, q_castPtr, q_castFn, q_castAgg, q_castTuple, q_uncons, q_isNil, q_sl, q_nils, q_emp, q_ptr, q_nilp, q_fn, q_cond_true, q_cond_false, Bool.not_true, Bool.not_false, decide_true, decide_false, List.cons_append, List.nil_append, hne, b3, hbc, decide_eq_false hc, hnext]
      refine W.again (i + 1, f, v, σi) ⟨by show i + 1 ≤ s.size + 1; omega, hl, fun _ => ⟨by show f ≤ i + 1; omega, ?_, ?_⟩, fun h => absurd h (by simp only; omega)⟩ (by simp only; omega) rfl rfl
      · show GrS _ _ _ ((cutF c ([], []) (s.data.toList.take (i + 1))).1.map ba)
        rw [hstep]
        exact hg
      · show (s.data.toList.take (i + 1)).drop f = (cutF c ([], []) (s.data.toList.take (i + 1))).2
        rw [hstep, b2, List.drop_append_of_le_length (by omega), hd]
/-- The reference's l23Find. -/
theorem l23Find_runs {σ : Heap} (s : ByteArray) (c : UInt8) (hs : s.size ≤ 1048576) : Runs G n_spec_l23Find [.str s, .int .u8 (c.toNat : Int)] σ (.int .i64 (Lib.indexByte s.data.toList c)) σ := by
  refine Runs.of (W.to (fun k _ => spec_l23Find.eq k _ _ _) ?_)
  have hls := ba_list s
  have hcut : ∀ i, i < s.size → ∃ b, s.data.toList[i]? = some b ∧ s.data.toList.take (i + 1) = s.data.toList.take i ++ [b] ∧ sbyte s (i : Int) = some (b.toNat : Int) := fun i hi => by
    have hb : s.data.toList[i]? = some (s.data.toList[i]'(by omega)) := List.getElem?_eq_getElem _
    refine ⟨_, hb, take_next' hb, ?_⟩
    have e : s.data.toList[i]'(by omega) = s[i] := by
      obtain ⟨⟨l⟩⟩ := s
      rfl
    rw [e]
    exact sbyte_at hi
  refine W.loop (S := Nat) (fun i => i ≤ s.size ∧ c ∉ s.data.toList.take i) (fun i => [.v (.str s), .v (.int .u8 (c.toNat : Int)), .v (.int .i64 (i : Int))]) (fun _ => σ) (fun i => s.size - i) (fun i ⟨hi, h1⟩ => ?_)
    0 ⟨Nat.zero_le _, by simp⟩
  refine W.to (fun k _ => by rw [spec_l23Find.L0_step]) ?_
  refine B.ite (fun hlt => ?_) fun hlt => ?_
  · have hil : i < s.size := by omega
    obtain ⟨b, b1, b2, b3⟩ := hcut i hil
    have hbc : decide ((b.toNat : Int) = (c.toNat : Int)) = decide (b = c) := by
      rw [decide_eq_decide]
      exact ⟨fun h => UInt8.toNat_inj.1 (by omega), fun h => by rw [h]⟩
    by_cases hc : b = c
    · try simp only [q_bind_some, castInt_int, q_castBool, q_castStr, q_castPtr, q_castFn, q_castAgg, q_castTuple, q_uncons, q_isNil, q_sl, q_nils, q_emp, q_ptr, q_nilp, q_fn, q_cond_true, q_cond_false, Bool.not_true, Bool.not_false, decide_true, decide_false, List.cons_append, List.nil_append, b3, hbc, decide_eq_true hc, spec_l23Find.A0_ret]
      subst hc
      have hs2 := split_cut (by omega) b1
      have := idx_at h1 (s.data.toList.drop (i + 1))
      rw [← hs2, List.length_take] at this
      exact W.ret ⟨by rw [this]; congr 1; omega, rfl⟩
    · try simp only [q_bind_some, castInt_int, q_castBool, q_castStr, q_castPtr, q_castFn, q_castAgg, q_castTuple, q_uncons, q_isNil, q_sl, q_nils, q_emp, q_ptr, q_nilp, q_fn, q_cond_true, q_cond_false, Bool.not_true, Bool.not_false, decide_true, decide_false, List.cons_append, List.nil_append, b3, hbc, decide_eq_false hc, wrap_next hil (by omega)]
      exact W.again (i + 1) ⟨by omega, by rw [b2]; simp [h1, Ne.symm hc]⟩ (by omega) rfl rfl
  · obtain rfl : i = s.size := by omega
    try simp only [q_bind_some, castInt_int, q_castBool, q_castStr, q_castPtr, q_castFn, q_castAgg, q_castTuple, q_uncons, q_isNil, q_sl, q_nils, q_emp, q_ptr, q_nilp, q_fn, q_cond_true, q_cond_false, Bool.not_true, Bool.not_false, decide_true, decide_false, List.cons_append, List.nil_append, spec_l23Find.A0_x0]
    rw [List.take_of_length_le (by omega)] at h1
    rcases idx_cases c s.data.toList with ⟨_, h2⟩ | ⟨i, _, _, h3, _⟩
    · exact W.ret ⟨by rw [h2], rfl⟩
    · exact absurd (List.mem_of_getElem? h3) h1
end Go.F

/- Names: the words that are names. -/
set_option linter.unusedVariables false
set_option linter.unusedSimpArgs false
namespace Go.F
open Go.HM Go.Proofs
theorem index_string_runs {σ : Heap} {v : V} {l : List ByteArray} (hf : l.length ≤ 9223372036854775807) (h : RepS 1 StrRep σ v l) (s : ByteArray) :
    ∃ n : Int, (0 ≤ n ↔ s ∈ l) ∧ Runs G n_slices_Index_string_string [v, .str s] σ (.int .i64 n) σ := by
  obtain ⟨w, σ', ⟨rfl, n, rfl, hn⟩, he⟩ := loop (L := slices_Index_string_string.L0) (A := slices_Index_string_string.A0) (S := Nat)
    (Inv := fun i => i ≤ l.length ∧ ∀ j x, j < i → l[j]? = some x → x ≠ s) (Good := fun w σ' => σ' = σ ∧ ∃ n : Int, w = .int .i64 n ∧ (0 ≤ n ↔ s ∈ l))
    (vals := fun i => [.v v, .v (.str s), .v (.int .i64 (l.length : Int)), .v (.int .i64 (i : Int))]) (hp := fun _ => σ) (far := fun i => l.length - i) (fun i ⟨hi, hne⟩ => by
      by_cases hlt : i < l.length
      · obtain ⟨r, o, hv, cs, hr, hP⟩ := h.at hlt
        unfold StrRep at hP
        subst hP
        by_cases hs : s = l[i]
        · refine .inl ⟨_, _, ⟨rfl, (i : Int), rfl, ?_⟩, Ev.now fun k m => ?_⟩
          · simp; rw [hs]; exact List.getElem_mem hlt
          · rw [slices_Index_string_string.L0_step]
            simp [hlt, hv, hr, ← hs, slices_Index_string_string.A0_ret]
        · refine .inr ⟨i + 1, ⟨hlt, fun j x hj hx => ?_⟩, by omega, Ev.now fun k m => ?_⟩
          · by_cases hji : j = i
            · subst hji
              rw [List.getElem?_eq_getElem hlt] at hx
              injection hx with hx
              rw [← hx]; exact fun hc => hs hc.symm
            · exact hne j x (by omega) hx
          · rw [slices_Index_string_string.L0_step]
            have hw : IntKind.wrap .i64 ((i : Int) + 1) = ((i + 1 : Nat) : Int) := wrap_id (by omega) (by omega)
            simp [hlt, hv, hr, hs]
            rw [hw]
            rfl
      · refine .inl ⟨_, _, ⟨rfl, -1, rfl, ?_⟩, Ev.now fun k m => ?_⟩
        · simp
          intro hc
          obtain ⟨j, hj, hjs⟩ := List.getElem_of_mem hc
          exact hne j _ (by omega) (List.getElem?_eq_getElem hj) hjs
        · rw [slices_Index_string_string.L0_step]
          simp [hlt, slices_Index_string_string.A0_x0]) 0 ⟨Nat.zero_le _, fun j x hj => absurd hj (by omega)⟩
  refine ⟨n, hn, Runs.mk ((Ev.far l.length he).mono fun k ⟨e, hk⟩ => ?_)⟩
  have e2 := e k (by omega)
  rw [slices_Index_string_string.eq, h.vlen]
  exact e2
theorem contains_string_runs {σ : Heap} {v : V} {l : List ByteArray} (hf : l.length ≤ 9223372036854775807) (h : RepS 1 StrRep σ v l) (s : ByteArray) :
    Runs G n_slices_Contains_string_string [v, .str s] σ (.bool (decide (s ∈ l))) σ := by
  obtain ⟨n, hn, c⟩ := index_string_runs hf h s
  refine Runs.mk (c.mono fun k e => ?_)
  rw [slices_Contains_string_string.eq]
  simp [e, hn]
theorem inRange_runs {σ : Heap} (n a b : Int) : Runs G n_impl_inRange [.int .i64 n, .int .i64 a, .int .i64 b] σ (.bool (decide (a ≤ n ∧ n ≤ b))) σ :=
  Runs.mk (Ev.now fun k => by
    rw [impl_inRange.eq]
    by_cases h : a ≤ n <;> simp [h])
def kept : List ByteArray := [⟨#[117, 115, 101]⟩, ⟨#[102, 117, 110]⟩, ⟨#[112, 117, 98]⟩, ⟨#[109, 97, 105, 110]⟩, ⟨#[105, 110, 116]⟩, ⟨#[98, 111, 111, 108]⟩, ⟨#[114, 111, 119]⟩, ⟨#[105, 102]⟩, ⟨#[108, 101, 116]⟩, ⟨#[116, 114, 117, 101]⟩, ⟨#[102, 97, 108, 115, 101]⟩, ⟨#[97, 110, 100]⟩, ⟨#[111, 114]⟩, ⟨#[110, 111, 116]⟩, ⟨#[97, 116]⟩, ⟨#[108, 101, 110]⟩, ⟨#[112, 117, 116]⟩, ⟨#[106, 111, 105, 110]⟩, ⟨#[112, 114, 105, 110, 116]⟩]
theorem kept_rep (σ : Heap) : RepS 1 StrRep (hnew σ 1 (kept.map .str)) (.sl σ.length 0 19 true) kept := RepS.lit σ kept .str (fun _ => rfl) true 19 rfl
theorem isOwn_gives (σ : Heap) (s : ByteArray) : Gives G n_impl_isOwn [.str s] σ (.bool (decide (s ∈ kept))) := by
  have c := contains_string_runs (by decide) (kept_rep σ) s
  refine Gives.mk (σ' := hnew σ 1 (kept.map .str)) (Lh.new _ _ _) (c.mono fun k e => ?_)
  rw [impl_isOwn.eq]
  change (hcall G k n_slices_Contains_string_string [(.sl σ.length 0 19 true), .str s] (hnew σ 1 (kept.map .str))).bind _ = _
  rw [e]
  rfl
def Letters (s : ByteArray) : Prop := ∀ i (h : i < s.size), 97 ≤ s[i].toNat ∧ s[i].toNat ≤ 122
def IsName (s : ByteArray) : Prop := Letters s ∧ (1 ≤ s.size ∧ s.size ≤ 8) ∧ ¬ s ∈ kept
noncomputable instance (s : ByteArray) : Decidable (IsName s) := Classical.propDecidable _
theorem implLexName_gives (σ : Heap) (s : ByteArray) (hf : s.size ≤ 9223372036854775807) : Gives G n_impl_LexName [.str s] σ (.bool (decide (IsName s))) := by
  obtain ⟨σ1, l1, c1⟩ := isOwn_gives σ s
  have c2 := inRange_runs (σ := σ) (s.size : Int) 1 8
  obtain ⟨w, σ', ⟨hl, rfl⟩, he⟩ := loop (L := impl_LexName.L0) (A := impl_LexName.A0) (S := Nat)
    (Inv := fun i => i ≤ s.size ∧ ∀ j (h : j < s.size), j < i → 97 ≤ s[j].toNat ∧ s[j].toNat ≤ 122) (Good := fun w σ' => Lh σ σ' ∧ w = .bool (decide (IsName s)))
    (vals := fun i => [.v (.str s), .v (.int .i64 (s.size : Int)), .v (.int .i64 (i : Int))]) (hp := fun _ => σ) (far := fun i => s.size - i) (fun i ⟨hi, hok⟩ => by
      by_cases hlt : i < s.size
      · have hb := sbyte_at hlt
        by_cases hc : 97 ≤ s[i].toNat ∧ s[i].toNat ≤ 122
        · refine .inr ⟨i + 1, ⟨hlt, fun j hj hji => ?_⟩, by omega, Ev.now fun k m => ?_⟩
          · by_cases h : j = i
            · subst h; exact hc
            · exact hok j hj (by omega)
          · rw [impl_LexName.L0_step]
            have hw : IntKind.wrap .i64 ((i : Int) + 1) = ((i + 1 : Nat) : Int) := wrap_id (by omega) (by omega)
            have h1 : ¬ (s[i].toNat : Int) < 97 := by omega
            have h2 : ¬ (122 : Int) < (s[i].toNat : Int) := by omega
            simp only [hb, Option.bind_some, h1, h2, decide_false, cond_false, hw]
            simp [hlt]
        · refine .inl ⟨_, σ, ⟨Lh.refl _, rfl⟩, Ev.now fun k m => ?_⟩
          have hn : ¬ IsName s := fun h => hc (h.1 i hlt)
          rw [impl_LexName.L0_step]
          by_cases h1 : (s[i].toNat : Int) < 97
          · simp only [hb, Option.bind_some, h1, decide_true, cond_true]
            simp [hlt, impl_LexName.A0_ret, hn]
          · have h2 : (122 : Int) < (s[i].toNat : Int) := by omega
            simp only [hb, Option.bind_some, h1, h2, decide_false, cond_false, decide_true, cond_true]
            simp [hlt, impl_LexName.A0_ret, hn]
      · have hl : Letters s := fun j hj => hok j hj (by omega)
        by_cases hr : (1 : Int) ≤ s.size ∧ (s.size : Int) ≤ 8
        · refine .inl ⟨_, σ1, ⟨l1, rfl⟩, (c2.and c1).mono fun k ⟨e2, e1⟩ m => ?_⟩
          have : IsName s ↔ ¬ s ∈ kept := ⟨fun h => h.2.2, fun h => ⟨hl, by omega, h⟩⟩
          rw [impl_LexName.L0_step]
          simp only [Int.ofNat_lt, hlt, decide_false, cond_false, Option.bind_some, impl_LexName.A0_x0, e2, hr, and_self, decide_true, castBool_bool, cond_true, e1]
          simp [this]
        · refine .inl ⟨_, σ, ⟨Lh.refl _, rfl⟩, c2.mono fun k e2 m => ?_⟩
          have : ¬ IsName s := fun h => hr (by have := h.2.1; omega)
          rw [impl_LexName.L0_step]
          simp only [Int.ofNat_lt, hlt, decide_false, cond_false, Option.bind_some, impl_LexName.A0_x0, e2, hr, castBool_bool]
          simp [this]) 0 ⟨Nat.zero_le _, fun j hj hji => absurd hji (by omega)⟩
  refine Gives.mk hl ((Ev.far s.size he).mono fun k ⟨e, hk⟩ => ?_)
  rw [impl_LexName.eq]
  exact e k (by omega)
theorem l1Kept_gives (σ : Heap) (s : ByteArray) : Gives G n_spec_l1Kept [.str s] σ (.bool (decide (s ∈ kept))) := by
  have h := kept_rep σ
  obtain ⟨w, σ', ⟨hl, rfl⟩, he⟩ := loop (L := spec_l1Kept.L0) (A := spec_l1Kept.A0) (S := Nat)
    (Inv := fun i => i ≤ kept.length ∧ ∀ j x, j < i → kept[j]? = some x → x ≠ s) (Good := fun w σ' => Lh σ σ' ∧ w = .bool (decide (s ∈ kept)))
    (vals := fun i => [.v (.str s), .v (.sl σ.length 0 19 true), .v (.int .i64 (i : Int))]) (hp := fun _ => hnew σ 1 (kept.map .str)) (far := fun i => kept.length - i) (fun i ⟨hi, hne⟩ => by
      by_cases hlt : i < kept.length
      · obtain ⟨r, o, hv, cs, hr, hP⟩ := h.at hlt
        unfold StrRep at hP
        subst hP
        by_cases hs : kept[i] = s
        · refine .inl ⟨_, hnew σ 1 (kept.map .str), ⟨Lh.new _ _ _, rfl⟩, Ev.now fun k m => ?_⟩
          have hm : s ∈ kept := hs ▸ List.getElem_mem hlt
          rw [spec_l1Kept.L0_step, h.vlen]
          simp [hlt, hv, hr, hs, spec_l1Kept.A0_ret, hm]
        · refine .inr ⟨i + 1, ⟨hlt, fun j x hj hx => ?_⟩, by omega, Ev.now fun k m => ?_⟩
          · by_cases hji : j = i
            · subst hji
              rw [List.getElem?_eq_getElem hlt] at hx
              injection hx with hx
              rw [← hx]; exact hs
            · exact hne j x (by omega) hx
          · rw [spec_l1Kept.L0_step, h.vlen]
            have hk : kept.length = 19 := rfl
            have hw : IntKind.wrap .i64 ((i : Int) + 1) = ((i + 1 : Nat) : Int) := wrap_id (by omega) (by omega)
            simp [hlt, hv, hr, hs]
            rw [hw]
            rfl
      · refine .inl ⟨_, hnew σ 1 (kept.map .str), ⟨Lh.new _ _ _, rfl⟩, Ev.now fun k m => ?_⟩
        have hm : ¬ s ∈ kept := fun hc => by
          obtain ⟨j, hj, hjs⟩ := List.getElem_of_mem hc
          exact hne j _ (by omega) (List.getElem?_eq_getElem hj) hjs
        rw [spec_l1Kept.L0_step, h.vlen]
        simp [hlt, spec_l1Kept.A0_x0, hm]) 0 ⟨Nat.zero_le _, fun j x hj => absurd hj (by omega)⟩
  refine Gives.mk hl ((Ev.far kept.length he).mono fun k ⟨e, hk⟩ => ?_)
  rw [spec_l1Kept.eq]
  exact e k (by omega)
theorem specLexName_gives (σ : Heap) (s : ByteArray) (hf : s.size ≤ 9223372036854775807) : Gives G n_spec_LexName [.str s] σ (.bool (decide (IsName s))) := by
  by_cases h1 : (s.size : Int) < 1
  · refine Gives.mk (Lh.refl σ) (Ev.now fun k => ?_)
    have : ¬ IsName s := fun h => by have := h.2.1; omega
    rw [spec_LexName.eq]
    simp only [h1, decide_true, cond_true]
    simp [this]
  by_cases h2 : (8 : Int) < (s.size : Int)
  · refine Gives.mk (Lh.refl σ) (Ev.now fun k => ?_)
    have : ¬ IsName s := fun h => by have := h.2.1; omega
    rw [spec_LexName.eq]
    simp only [h1, h2, decide_true, cond_true, decide_false, cond_false]
    simp [this]
  obtain ⟨σ1, l1, c1⟩ := l1Kept_gives σ s
  by_cases h3 : s ∈ kept
  · refine Gives.mk l1 (c1.mono fun k e => ?_)
    have : ¬ IsName s := fun h => h.2.2 h3
    rw [spec_LexName.eq]
    simp only [h1, h2, decide_false, cond_false, e, Option.bind_some, castBool_bool, h3, decide_true, cond_true]
    simp [this]
  obtain ⟨w, σ', ⟨hl, rfl⟩, he⟩ := loop (L := spec_LexName.L0) (A := spec_LexName.A0) (S := Nat)
    (Inv := fun i => i ≤ s.size ∧ ∀ j (h : j < s.size), j < i → 97 ≤ s[j].toNat ∧ s[j].toNat ≤ 122) (Good := fun w σ' => Lh σ σ' ∧ w = .bool (decide (IsName s)))
    (vals := fun i => [.v (.str s), .v (.int .i64 (i : Int))]) (hp := fun _ => σ1) (far := fun i => s.size - i) (fun i ⟨hi, hok⟩ => by
      by_cases hlt : i < s.size
      · have hb := sbyte_at hlt
        by_cases hc : 97 ≤ s[i].toNat ∧ s[i].toNat ≤ 122
        · refine .inr ⟨i + 1, ⟨hlt, fun j hj hji => ?_⟩, by omega, Ev.now fun k m => ?_⟩
          · by_cases h : j = i
            · subst h; exact hc
            · exact hok j hj (by omega)
          · rw [spec_LexName.L0_step]
            have hw : IntKind.wrap .i64 ((i : Int) + 1) = ((i + 1 : Nat) : Int) := wrap_id (by omega) (by omega)
            have h1 : ¬ (s[i].toNat : Int) < 97 := by omega
            have h2 : ¬ (122 : Int) < (s[i].toNat : Int) := by omega
            simp only [hb, Option.bind_some, h1, h2, decide_false, cond_false, hw]
            simp [hlt]
        · refine .inl ⟨_, σ1, ⟨l1, rfl⟩, Ev.now fun k m => ?_⟩
          have hn : ¬ IsName s := fun h => hc (h.1 i hlt)
          rw [spec_LexName.L0_step]
          by_cases h1 : (s[i].toNat : Int) < 97
          · simp only [hb, Option.bind_some, h1, decide_true, cond_true]
            simp [hlt, spec_LexName.A0_ret, hn]
          · have h2 : (122 : Int) < (s[i].toNat : Int) := by omega
            simp only [hb, Option.bind_some, h1, h2, decide_false, cond_false, decide_true, cond_true]
            simp [hlt, spec_LexName.A0_ret, hn]
      · have hl : IsName s := ⟨fun j hj => hok j hj (by omega), by omega, h3⟩
        refine .inl ⟨_, σ1, ⟨l1, rfl⟩, Ev.now fun k m => ?_⟩
        rw [spec_LexName.L0_step]
        simp [hlt, spec_LexName.A0_x0, hl]) 0 ⟨Nat.zero_le _, fun j hj hji => absurd hji (by omega)⟩
  refine Gives.mk hl ((Ev.and c1 (Ev.far s.size he)).mono fun k ⟨e1, e, hk⟩ => ?_)
  rw [spec_LexName.eq]
  simp only [h1, h2, decide_false, cond_false, e1, Option.bind_some, castBool_bool, h3]
  exact e k (by omega)
end Go.F

/- The words of the types. -/
set_option linter.unusedVariables false
set_option linter.unusedSimpArgs false
namespace Go.F
open Go.HM Go.Proofs
/-- The variable holds the three words. -/
abbrev TypeW (σ : Heap) : Prop := σ[1]? = some (some ⟨[.str (⟨#[105, 110, 116]⟩ : ByteArray), .str (⟨#[98, 111, 111, 108]⟩ : ByteArray), .str (⟨#[114, 111, 119]⟩ : ByteArray)], 1, true, 0⟩)
def tword (n : Int) : ByteArray := if n = 1 then ⟨#[105, 110, 116]⟩ else if n = 2 then ⟨#[98, 111, 111, 108]⟩ else if n = 3 then ⟨#[114, 111, 119]⟩ else ⟨#[]⟩
theorem isTy_runs (a : Int) (σ : Heap) : Runs G n_impl_isType [.int .i64 a] σ (.bool (decide (1 ≤ a ∧ a ≤ 3))) σ := by
  refine Runs.of (W.to (fun k _ => impl_isType.eq k _ _) ?_)
  refine W.run (inRange_runs _ _ _) ?_
  try simp only [q_bind_some, castInt_int, q_castBool, q_castStr, q_castPtr, q_castFn, q_castAgg, q_castTuple, q_uncons, q_isNil, q_sl, q_nils, q_emp, q_ptr, q_nilp, q_fn, q_cond_true, q_cond_false, Bool.not_true, Bool.not_false, decide_true, decide_false, List.cons_append, List.nil_append]
  exact W.ret ⟨rfl, rfl⟩
theorem typeW_at {σ : Heap} (h : TypeW σ) : rdc σ 1 0 1 = some [.str ⟨#[105, 110, 116]⟩] ∧ rdc σ 1 1 1 = some [.str ⟨#[98, 111, 111, 108]⟩] ∧ rdc σ 1 2 1 = some [.str ⟨#[114, 111, 119]⟩] := by
  simp only [rdc, h]
  exact ⟨rfl, rfl, rfl⟩
theorem implTreeType_runs (a : Int) (σ : Heap) (h : TypeW σ) : Runs G n_impl_TreeType [.int .i64 a] σ (.str (tword a)) σ := by
  obtain ⟨t1, t2, t3⟩ := typeW_at h
  refine Runs.of (W.to (fun k _ => impl_TreeType.eq k _ _) ?_)
  refine W.run (isTy_runs _ _) ?_
  by_cases h1 : a = 1
  · subst h1
    try simp only [q_bind_some, castInt_int, q_castBool, q_castStr, q_castPtr, q_castFn, q_castAgg, q_castTuple, q_uncons, q_isNil, q_sl, q_nils, q_emp, q_ptr, q_nilp, q_fn, q_cond_true, q_cond_false, Bool.not_true, Bool.not_false, decide_true, decide_false, List.cons_append, List.nil_append, show IntKind.wrap .i64 ((1 : Int) - 1) = 0 by decide, show decide ((1 : Int) ≤ 1 ∧ (1 : Int) ≤ 3) = true from rfl, show ((0 : Int) ≤ 0 ∧ (0 : Int) < ((3 : Nat) : Int)) = True by simp, show 0 + (0 : Int).toNat * 1 = 0 from rfl, t1]
    exact W.ret ⟨rfl, rfl⟩
  by_cases h2 : a = 2
  · subst h2
    try simp only [q_bind_some, castInt_int, q_castBool, q_castStr, q_castPtr, q_castFn, q_castAgg, q_castTuple, q_uncons, q_isNil, q_sl, q_nils, q_emp, q_ptr, q_nilp, q_fn, q_cond_true, q_cond_false, Bool.not_true, Bool.not_false, decide_true, decide_false, List.cons_append, List.nil_append, show IntKind.wrap .i64 ((2 : Int) - 1) = 1 by decide, show decide ((1 : Int) ≤ 2 ∧ (2 : Int) ≤ 3) = true from rfl, show ((0 : Int) ≤ 1 ∧ (1 : Int) < ((3 : Nat) : Int)) = True by simp, show 0 + (1 : Int).toNat * 1 = 1 from rfl, t2]
    exact W.ret ⟨rfl, rfl⟩
  by_cases h3 : a = 3
  · subst h3
    try simp only [q_bind_some, castInt_int, q_castBool, q_castStr, q_castPtr, q_castFn, q_castAgg, q_castTuple, q_uncons, q_isNil, q_sl, q_nils, q_emp, q_ptr, q_nilp, q_fn, q_cond_true, q_cond_false, Bool.not_true, Bool.not_false, decide_true, decide_false, List.cons_append, List.nil_append, show IntKind.wrap .i64 ((3 : Int) - 1) = 2 by decide, show decide ((1 : Int) ≤ 3 ∧ (3 : Int) ≤ 3) = true from rfl, show ((0 : Int) ≤ 2 ∧ (2 : Int) < ((3 : Nat) : Int)) = True by simp, show 0 + (2 : Int).toNat * 1 = 2 from rfl, t3]
    exact W.ret ⟨rfl, rfl⟩
  have hn : decide (1 ≤ a ∧ a ≤ 3) = false := decide_eq_false (by omega)
  try simp only [q_bind_some, castInt_int, q_castBool, q_castStr, q_castPtr, q_castFn, q_castAgg, q_castTuple, q_uncons, q_isNil, q_sl, q_nils, q_emp, q_ptr, q_nilp, q_fn, q_cond_true, q_cond_false, Bool.not_true, Bool.not_false, decide_true, decide_false, List.cons_append, List.nil_append, hn]
  exact W.ret ⟨by rw [tword, if_neg h1, if_neg h2, if_neg h3], rfl⟩
theorem specTreeType_gives (a : Int) (σ : Heap) : Gives G n_spec_TreeType [.int .i64 a] σ (.str (tword a)) := by
  refine Gives.of (W.to (fun k _ => spec_TreeType.eq k _ _) ?_)
  by_cases h0 : a < 1
  · try simp only [q_bind_some, castInt_int, q_castBool, q_castStr, q_castPtr, q_castFn, q_castAgg, q_castTuple, q_uncons, q_isNil, q_sl, q_nils, q_emp, q_ptr, q_nilp, q_fn, q_cond_true, q_cond_false, Bool.not_true, Bool.not_false, decide_true, decide_false, List.cons_append, List.nil_append, decide_eq_true h0]
    exact W.ret ⟨by rw [tword, if_neg (by omega), if_neg (by omega), if_neg (by omega)], Lh.refl _⟩
  by_cases h4 : 3 < a
  · try simp only [q_bind_some, castInt_int, q_castBool, q_castStr, q_castPtr, q_castFn, q_castAgg, q_castTuple, q_uncons, q_isNil, q_sl, q_nils, q_emp, q_ptr, q_nilp, q_fn, q_cond_true, q_cond_false, Bool.not_true, Bool.not_false, decide_true, decide_false, List.cons_append, List.nil_append, decide_eq_false h0, decide_eq_true h4]
    exact W.ret ⟨by rw [tword, if_neg (by omega), if_neg (by omega), if_neg (by omega)], Lh.refl _⟩
  have hr : ∀ (x y z : V), rdc (hnew σ 1 [x, y, z]) σ.length 0 1 = some [x] ∧ rdc (hnew σ 1 [x, y, z]) σ.length 1 1 = some [y] ∧ rdc (hnew σ 1 [x, y, z]) σ.length 2 1 = some [z] := fun x y z => by simp [rdc, hnew]
  obtain ⟨t1, t2, t3⟩ := hr (.str (⟨#[105, 110, 116]⟩ : ByteArray)) (.str (⟨#[98, 111, 111, 108]⟩ : ByteArray)) (.str (⟨#[114, 111, 119]⟩ : ByteArray))
  have h123 : a = 1 ∨ a = 2 ∨ a = 3 := by omega
  rcases h123 with rfl | rfl | rfl
  · try simp only [q_bind_some, castInt_int, q_castBool, q_castStr, q_castPtr, q_castFn, q_castAgg, q_castTuple, q_uncons, q_isNil, q_sl, q_nils, q_emp, q_ptr, q_nilp, q_fn, q_cond_true, q_cond_false, Bool.not_true, Bool.not_false, decide_true, decide_false, List.cons_append, List.nil_append, show IntKind.wrap .i64 ((1 : Int) - 1) = 0 by decide, show decide ((1 : Int) < 1) = false from rfl, show decide ((3 : Int) < 1) = false from rfl, show ((0 : Int) ≤ 0 ∧ (0 : Int) < ((3 : Nat) : Int)) = True by simp, show 0 + (0 : Int).toNat * 1 = 0 from rfl, t1, vidx, if_true]
    exact W.ret ⟨rfl, Lh.new _ _ _⟩
  · try simp only [q_bind_some, castInt_int, q_castBool, q_castStr, q_castPtr, q_castFn, q_castAgg, q_castTuple, q_uncons, q_isNil, q_sl, q_nils, q_emp, q_ptr, q_nilp, q_fn, q_cond_true, q_cond_false, Bool.not_true, Bool.not_false, decide_true, decide_false, List.cons_append, List.nil_append, show IntKind.wrap .i64 ((2 : Int) - 1) = 1 by decide, show decide ((2 : Int) < 1) = false from rfl, show decide ((3 : Int) < 2) = false from rfl, show ((0 : Int) ≤ 1 ∧ (1 : Int) < ((3 : Nat) : Int)) = True by simp, show 0 + (1 : Int).toNat * 1 = 1 from rfl, t2, vidx, if_true]
    exact W.ret ⟨rfl, Lh.new _ _ _⟩
  · try simp only [q_bind_some, castInt_int, q_castBool, q_castStr, q_castPtr, q_castFn, q_castAgg, q_castTuple, q_uncons, q_isNil, q_sl, q_nils, q_emp, q_ptr, q_nilp, q_fn, q_cond_true, q_cond_false, Bool.not_true, Bool.not_false, decide_true, decide_false, List.cons_append, List.nil_append, show IntKind.wrap .i64 ((3 : Int) - 1) = 2 by decide, show decide ((3 : Int) < 1) = false from rfl, show decide ((3 : Int) < 3) = false from rfl, show ((0 : Int) ≤ 2 ∧ (2 : Int) < ((3 : Nat) : Int)) = True by simp, show 0 + (2 : Int).toNat * 1 = 2 from rfl, t3, vidx, if_true]
    exact W.ret ⟨rfl, Lh.new _ _ _⟩
end Go.F

/- Rows of types. -/
set_option linter.unusedVariables false
set_option linter.unusedSimpArgs false
namespace Go.F
open Go.HM Go.Proofs
def IsT (n : Int) : Prop := 1 ≤ n ∧ n ≤ 3
instance (n : Int) : Decidable (IsT n) := inferInstanceAs (Decidable (_ ∧ _))
def Typs (l : List Int) : Prop := l.length ≤ 4 ∧ ∀ t, t ∈ l → IsT t
noncomputable instance (l : List Int) : Decidable (Typs l) := Classical.propDecidable _
theorem any_not {α : Type} (P : α → Prop) [∀ x, Decidable (P x)] (l : List α) [Decidable (∀ x, x ∈ l → P x)] : l.any (fun x => !decide (P x)) = !decide (∀ x, x ∈ l → P x) := by
  rw [Bool.eq_iff_iff]
  simp
theorem isT_runs {σ : Heap} (n : Int) : Runs G n_impl_isType [.int .i64 n] σ (.bool (decide (IsT n))) σ := isTy_runs n σ
theorem slices_IndexFunc_int_int_gives {σ : Heap} {v : V} {l : List Int} (hf : l.length ≤ 1073741824) (h : RepS 1 IntRep σ v l) (f : FuncId) (cap : List V) (p : Int → Bool)
    (hx : ∀ x, x ∈ l → ∀ σ', Lh σ σ' → Gives G f ([.int .i64 x] ++ cap) σ' (.bool (p x))) : Gives G n_slices_IndexFunc_int_int [v, .fn f cap] σ (.int .i64 (fidx p l)) := by
  refine Gives.of (W.to (fun k _ => slices_IndexFunc_int_int.eq k _ _ _) ?_)
  refine W.len h ?_
  refine W.loop (S := Nat × Heap) (fun s => s.1 ≤ l.length ∧ Lh σ s.2 ∧ ∀ (j : Nat) y, j < s.1 → l[j]? = some y → p y = false) (fun s => [.v v, .v (.fn f cap), .v (.int .i64 (l.length : Int)), .v (.int .i64 (s.1 : Int))]) (fun s => s.2) (fun s => l.length - s.1) (fun ⟨i, σi⟩ ⟨hi, hle, hok⟩ => ?_)
    (0, σ) ⟨Nat.zero_le _, Lh.refl _, fun j y hj => absurd hj (Nat.not_lt_zero _)⟩
  simp only at hi hle hok ⊢
  refine W.to (fun k _ => by rw [slices_IndexFunc_int_int.L0_step]) ?_
  try simp only [q_bind_some, Option.bind_assoc, castInt_int, q_castBool, q_castStr, q_castPtr, q_castFn, q_castAgg, q_castTuple, q_uncons, q_isNil, q_sl, q_nils, q_emp, q_ptr, q_nilp, q_fn, q_cond_true, q_cond_false, Bool.not_true, Bool.not_false, decide_true, decide_false, castInt_bind, castBool_bind, castStr_bind, castPtr_bind, castFn_bind, castAgg_bind, castTuple_bind, uncons_bind, isNil_bind, one_bind, cond_bind, ite_bind_, List.cons_append, List.nil_append]
  refine W.ite (fun hlt => ?_) fun hlt => ?_
  · refine W.at h hle (by omega) fun r o cs x hx' hr hP => ?_
    have hm := List.mem_of_getElem? hx'
    have hc := hx x hm σi hle
    unfold IntRep at hP
    subst hP
    try simp only [q_bind_some, Option.bind_assoc, castInt_int, q_castBool, q_castStr, q_castPtr, q_castFn, q_castAgg, q_castTuple, q_uncons, q_isNil, q_sl, q_nils, q_emp, q_ptr, q_nilp, q_fn, q_cond_true, q_cond_false, Bool.not_true, Bool.not_false, decide_true, decide_false, castInt_bind, castBool_bind, castStr_bind, castPtr_bind, castFn_bind, castAgg_bind, castTuple_bind, uncons_bind, isNil_bind, one_bind, cond_bind, ite_bind_, List.cons_append, List.nil_append, hr]
    refine W.give hc fun σ1 l1 => ?_
    try simp only [q_bind_some, Option.bind_assoc, castInt_int, q_castBool, q_castStr, q_castPtr, q_castFn, q_castAgg, q_castTuple, q_uncons, q_isNil, q_sl, q_nils, q_emp, q_ptr, q_nilp, q_fn, q_cond_true, q_cond_false, Bool.not_true, Bool.not_false, decide_true, decide_false, castInt_bind, castBool_bind, castStr_bind, castPtr_bind, castFn_bind, castAgg_bind, castTuple_bind, uncons_bind, isNil_bind, one_bind, cond_bind, ite_bind_, List.cons_append, List.nil_append]
    cases hb : p x with
    | true =>
      try simp only [q_bind_some, Option.bind_assoc, castInt_int, q_castBool, q_castStr, q_castPtr, q_castFn, q_castAgg, q_castTuple, q_uncons, q_isNil, q_sl, q_nils, q_emp, q_ptr, q_nilp, q_fn, q_cond_true, q_cond_false, Bool.not_true, Bool.not_false, decide_true, decide_false, castInt_bind, castBool_bind, castStr_bind, castPtr_bind, castFn_bind, castAgg_bind, castTuple_bind, uncons_bind, isNil_bind, one_bind, cond_bind, ite_bind_, List.cons_append, List.nil_append, slices_IndexFunc_int_int.A0_ret]
      exact W.ret ⟨by rw [fidx_at hx' hb hok], hle.trans l1⟩
    | false =>
      try simp only [q_bind_some, Option.bind_assoc, castInt_int, q_castBool, q_castStr, q_castPtr, q_castFn, q_castAgg, q_castTuple, q_uncons, q_isNil, q_sl, q_nils, q_emp, q_ptr, q_nilp, q_fn, q_cond_true, q_cond_false, Bool.not_true, Bool.not_false, decide_true, decide_false, castInt_bind, castBool_bind, castStr_bind, castPtr_bind, castFn_bind, castAgg_bind, castTuple_bind, uncons_bind, isNil_bind, one_bind, cond_bind, ite_bind_, List.cons_append, List.nil_append, wrap_next (show i < l.length by omega) (by omega)]
      refine W.again (i + 1, σ1) ⟨by show i + 1 ≤ l.length; omega, hle.trans l1, fun j y hj hy => ?_⟩ (by simp only; omega) rfl rfl
      simp only at hj
      by_cases hij : j = i
      · subst hij
        rw [hx'] at hy
        injection hy with hy
        rw [← hy]; exact hb
      · exact hok j y (by omega) hy
  · try simp only [q_bind_some, Option.bind_assoc, castInt_int, q_castBool, q_castStr, q_castPtr, q_castFn, q_castAgg, q_castTuple, q_uncons, q_isNil, q_sl, q_nils, q_emp, q_ptr, q_nilp, q_fn, q_cond_true, q_cond_false, Bool.not_true, Bool.not_false, decide_true, decide_false, castInt_bind, castBool_bind, castStr_bind, castPtr_bind, castFn_bind, castAgg_bind, castTuple_bind, uncons_bind, isNil_bind, one_bind, cond_bind, ite_bind_, List.cons_append, List.nil_append, slices_IndexFunc_int_int.A0_x0]
    exact W.ret ⟨by rw [fidx_none fun j y hy => hok j y (by have := lt_of_get hy; omega) hy], hle⟩

theorem slices_ContainsFunc_int_int_gives {σ : Heap} {v : V} {l : List Int} (hf : l.length ≤ 1073741824) (h : RepS 1 IntRep σ v l) (f : FuncId) (cap : List V) (p : Int → Bool)
    (hx : ∀ x, x ∈ l → ∀ σ', Lh σ σ' → Gives G f ([.int .i64 x] ++ cap) σ' (.bool (p x))) : Gives G n_slices_ContainsFunc_int_int [v, .fn f cap] σ (.bool (l.any p)) := by
  refine Gives.of (W.to (fun k _ => slices_ContainsFunc_int_int.eq k _ _ _) ?_)
  refine W.give (slices_IndexFunc_int_int_gives hf h f cap p hx) fun σ1 l1 => ?_
  try simp only [q_bind_some, Option.bind_assoc, castInt_int, q_castBool, q_castStr, q_castPtr, q_castFn, q_castAgg, q_castTuple, q_uncons, q_isNil, q_sl, q_nils, q_emp, q_ptr, q_nilp, q_fn, q_cond_true, q_cond_false, Bool.not_true, Bool.not_false, decide_true, decide_false, castInt_bind, castBool_bind, castStr_bind, castPtr_bind, castFn_bind, castAgg_bind, castTuple_bind, uncons_bind, isNil_bind, one_bind, cond_bind, ite_bind_, List.cons_append, List.nil_append, fidx_any]
  exact W.ret ⟨rfl, l1⟩

theorem areTypes_gives {σ : Heap} {v : V} {l : List Int} (h : RepS 1 IntRep σ v l) : Gives G n_impl_areTypes [v] σ (.bool (decide (Typs l))) := by
  refine Gives.of (W.to (fun k _ => impl_areTypes.eq k _ _) ?_)
  refine W.len h (W.ite (fun k1 => ?_) fun k1 => ?_)
  · refine W.give (slices_ContainsFunc_int_int_gives (by omega) h n_impl_areTypes_1 [] (fun t => !decide (IsT t)) fun x hx σ' hl => ?_) fun σ1 l1 => ?_
    · refine Gives.of (W.to (fun k _ => impl_areTypes_1.eq k _ _) ?_)
      refine W.run (isT_runs x) ?_
      try simp only [q_bind_some, Option.bind_assoc, castInt_int, q_castBool, q_castStr, q_castPtr, q_castFn, q_castAgg, q_castTuple, q_uncons, q_isNil, q_sl, q_nils, q_emp, q_ptr, q_nilp, q_fn, q_cond_true, q_cond_false, Bool.not_true, Bool.not_false, decide_true, decide_false, castInt_bind, castBool_bind, castStr_bind, castPtr_bind, castFn_bind, castAgg_bind, castTuple_bind, uncons_bind, isNil_bind, one_bind, cond_bind, ite_bind_, List.cons_append, List.nil_append]
      exact W.ret ⟨rfl, Lh.refl _⟩
    · try simp only [q_bind_some, Option.bind_assoc, castInt_int, q_castBool, q_castStr, q_castPtr, q_castFn, q_castAgg, q_castTuple, q_uncons, q_isNil, q_sl, q_nils, q_emp, q_ptr, q_nilp, q_fn, q_cond_true, q_cond_false, Bool.not_true, Bool.not_false, decide_true, decide_false, castInt_bind, castBool_bind, castStr_bind, castPtr_bind, castFn_bind, castAgg_bind, castTuple_bind, uncons_bind, isNil_bind, one_bind, cond_bind, ite_bind_, List.cons_append, List.nil_append, any_not IsT l, Bool.not_not]
      exact W.ret ⟨dec_iff (show Typs l ↔ ∀ t, t ∈ l → IsT t from ⟨fun h => h.2, fun h => ⟨by omega, h⟩⟩), l1⟩
  · exact W.ret ⟨by rw [decide_eq_false (fun h : Typs l => k1 (by have := h.1; omega))], Lh.refl _⟩
theorem tword_none (n : Int) : tword n = ⟨#[]⟩ ↔ ¬ IsT n := by
  unfold tword IsT
  constructor
  · intro h hc
    have : n = 1 ∨ n = 2 ∨ n = 3 := by omega
    rcases this with rfl | rfl | rfl <;> simp at h
  · intro h
    rw [if_neg (by omega), if_neg (by omega), if_neg (by omega)]
theorem tword_size (n : Int) : (tword n).size ≤ 4 := by
  unfold tword
  split
  · decide
  split
  · decide
  split
  · decide
  · decide
end Go.F

/- strings.Builder: what is written and read. -/
set_option linter.unusedVariables false
set_option linter.unusedSimpArgs false
namespace Go.F
open Go.HM Go.Proofs
def u8c (s : ByteArray) : List V := s.data.toList.map fun c => V.int .u8 c.toNat
theorem u8c_len (s : ByteArray) : (u8c s).length = s.size := by
  unfold u8c
  rw [List.length_map, Array.length_toList]
  rfl
theorem u8c_app (s t : ByteArray) : u8c (s ++ t) = u8c s ++ u8c t := by
  unfold u8c
  rw [ByteArray.data_append, Array.toList_append, List.map_append]
theorem u8s_map : ∀ (l : List UInt8), u8s (l.map fun c => V.int .u8 c.toNat) = some l
  | [] => rfl
  | c :: l => by
    have h : (0 : Int) ≤ (c.toNat : Int) ∧ (c.toNat : Int) < 256 := ⟨by omega, by have := c.toNat_lt; omega⟩
    have e : UInt8.ofNat ((c.toNat : Int)).toNat = c := by simp
    simp only [List.map_cons, u8s, if_pos h, u8s_map l, Option.bind_some, e]
/-- A builder in row b that holds the bytes s; they lie in a row from F on. -/
def Bld (F : Nat) (σ : Heap) (b : Nat) (s : ByteArray) : Prop := ∃ x v, σ[b]? = some (some ⟨[x, v], 2, false, hbT + 1⟩) ∧ (x = .nilp ∨ x = .ptr b 0) ∧
  ((s = ⟨#[]⟩ ∧ v = .nils) ∨ ∃ r, v = .sl r 0 s.size false ∧ F ≤ r ∧ r ≠ b ∧ s.size ≠ 0 ∧ σ[r]? = some (some ⟨u8c s, 1, false, hbU + 1⟩))
/-- What lies below F stays, but for the builder. -/
def KeepF (F b : Nat) (σ σ' : Heap) : Prop := σ.length ≤ σ'.length ∧ ∀ j, j < F → j ≠ b → σ'[j]? = σ[j]?
theorem KeepF.refl (F b : Nat) (σ : Heap) : KeepF F b σ σ := ⟨Nat.le_refl _, fun _ _ _ => rfl⟩
theorem KeepF.trans {F b : Nat} {a c d : Heap} (h : KeepF F b a c) (g : KeepF F b c d) : KeepF F b a d := ⟨Nat.le_trans h.1 g.1, fun j h1 h2 => (g.2 j h1 h2).trans (h.2 j h1 h2)⟩
theorem KeepF.lh {F b : Nat} {σ0 σ σ' : Heap} (h : KeepF F b σ σ') (hl : Lh σ0 σ) (hF : σ0.length ≤ F) (hb : ∀ row, σ0[b]? ≠ some (some row)) : Lh σ0 σ' := ⟨Nat.le_trans hl.len h.1, fun j row hj => by
  have hlt := get_lt hj
  rw [h.2 j (by omega) (fun hc => by subst hc; exact hb row hj)]
  exact hl.row _ _ hj⟩
theorem Bld.new (σ : Heap) : Bld (σ.length + 1) (hnewT σ (hbT + 1) 2 [.nilp, .nils]) σ.length ⟨#[]⟩ := ⟨.nilp, .nils, by simp [hnewT], .inl rfl, .inl ⟨rfl, rfl⟩⟩
theorem Bld.up {F F' : Nat} {σ : Heap} {b : Nat} (h : Bld F σ b ⟨#[]⟩) : Bld F' σ b ⟨#[]⟩ := by
  obtain ⟨x, v, h1, h2, h3⟩ := h
  refine ⟨x, v, h1, h2, .inl ⟨rfl, ?_⟩⟩
  rcases h3 with ⟨_, h⟩ | ⟨r, _, _, _, h, _⟩
  · exact h
  · exact absurd rfl h
theorem Bld.keep {F : Nat} {σ σ' : Heap} {b : Nat} {s : ByteArray} (h : Bld F σ b s) (hl : Lh σ σ') : Bld F σ' b s := by
  obtain ⟨x, v, h1, h2, h3⟩ := h
  refine ⟨x, v, hl.row _ _ h1, h2, ?_⟩
  rcases h3 with h | ⟨r, g1, g2, g3, g4, g5⟩
  · exact .inl h
  · exact .inr ⟨r, g1, g2, g3, g4, hl.row _ _ g5⟩
theorem copyCheck_bld {F : Nat} {σ : Heap} {b : Nat} {s : ByteArray} (h : Bld F σ b s) : ∃ σ' v, Runs G n_pstrings_Builder_copyCheck [.ptr b 0] σ (.tuple []) σ' ∧ σ'.length = σ.length ∧ (∀ j, j ≠ b → σ'[j]? = σ[j]?) ∧ σ'[b]? = some (some ⟨[.ptr b 0, v], 2, false, hbT + 1⟩) ∧
    ((s = ⟨#[]⟩ ∧ v = .nils) ∨ ∃ r, v = .sl r 0 s.size false ∧ F ≤ r ∧ r ≠ b ∧ s.size ≠ 0 ∧ σ'[r]? = some (some ⟨u8c s, 1, false, hbU + 1⟩)) := by
  obtain ⟨x, v, h1, h2, h3⟩ := h
  have hlt := get_lt h1
  rcases h2 with rfl | rfl
  · refine ⟨σ.set b (some ⟨[.ptr b 0, v], 2, false, hbT + 1⟩), v, hook_runs (h := hkCopy hbT) rfl (by simp [hkCopy, h1]), by simp, fun j hj => by rw [List.getElem?_set, if_neg (Ne.symm hj)], by simp [hlt], ?_⟩
    rcases h3 with h | ⟨r, g1, g2, g3, g4, g5⟩
    · exact .inl h
    · exact .inr ⟨r, g1, g2, g3, g4, by rw [List.getElem?_set, if_neg (Ne.symm g3)]; exact g5⟩
  · exact ⟨σ, v, hook_runs (h := hkCopy hbT) rfl (by simp [hkCopy, h1]), rfl, fun _ _ => rfl, h1, h3⟩
/-- Bytes put behind. -/
theorem app_bld {F : Nat} {σ : Heap} {b : Nat} {s t : ByteArray} {v : V} (hF : F ≤ σ.length) (hb : b < σ.length) (h : (s = ⟨#[]⟩ ∧ v = .nils) ∨ ∃ r, v = .sl r 0 s.size false ∧ F ≤ r ∧ r ≠ b ∧ s.size ≠ 0 ∧ σ[r]? = some (some ⟨u8c s, 1, false, hbU + 1⟩)) (hs : s.size + t.size ≤ 1099511627776) :
    ∃ v' σ', vappendT (hbU + 1) 1 1 σ v t.size (u8c t) = some (v', σ') ∧ v'.flat = true ∧ σ.length ≤ σ'.length ∧ (∀ j, j < F → σ'[j]? = σ[j]?) ∧ σ'[b]? = σ[b]? ∧
      ((s ++ t = ⟨#[]⟩ ∧ v' = .nils) ∨ ∃ r, v' = .sl r 0 (s ++ t).size false ∧ F ≤ r ∧ r ≠ b ∧ (s ++ t).size ≠ 0 ∧ σ'[r]? = some (some ⟨u8c (s ++ t), 1, false, hbU + 1⟩)) := by
  have e46 : (2 : Nat) ^ 46 = 70368744177664 := by decide
  have hsz : (s ++ t).size = s.size + t.size := ByteArray.size_append
  rcases h with ⟨rfl, rfl⟩ | ⟨r, rfl, hr, hrb, hs0, hrow⟩
  · have he : (⟨#[]⟩ : ByteArray) ++ t = t := ByteArray.empty_append
    rw [he]
    by_cases h0 : t.size = 0
    · refine ⟨.nils, σ, by simp [vappendT, h0], rfl, Nat.le_refl _, fun _ _ => rfl, rfl, .inl ⟨?_, rfl⟩⟩
      obtain ⟨d⟩ := t
      have : d = #[] := Array.eq_empty_of_size_eq_zero h0
      rw [this]
    · refine ⟨.sl σ.length 0 t.size false, hnewT σ (hbU + 1) 1 (u8c t), ?_, rfl, by simp [hnewT], fun j hj => by rw [hnewT, List.getElem?_append_left (by omega)], by rw [hnewT, List.getElem?_append_left hb], .inr ⟨σ.length, rfl, hF, by omega, h0, by simp [hnewT]⟩⟩
      have hz : (⟨#[]⟩ : ByteArray).size = 0 := rfl
      simp only [vappendT, if_neg h0]
      rw [if_pos ⟨by omega, by omega⟩]
  · have hrl := get_lt hrow
    refine ⟨.sl σ.length 0 (s ++ t).size false, hnewT (σ.set r none) (hbU + 1) 1 (u8c (s ++ t)), ?_, rfl, by simp [hnewT], fun j hj => ?_, ?_, .inr ⟨σ.length, rfl, hF, by omega, by omega, by simp [hnewT]⟩⟩
    · simp only [vappendT, hrow]
      have h1 : True ∧ 0 + s.size * 1 ≤ (u8c s).length ∧ (s.size + t.size) * 1 ≤ 2 ^ 46 ∧ s.size + t.size ≤ 2 ^ 46 := ⟨trivial, by rw [u8c_len]; omega, by omega, by omega⟩
      rw [if_pos h1]
      have h2 : (u8c s).take (s.size * 1) = u8c s := List.take_of_length_le (by rw [u8c_len]; omega)
      simp only [Bool.false_eq_true, if_false, true_and, and_self, if_true, h2, hsz, u8c_app]
    · rw [hnewT, List.getElem?_append_left (by simp; omega), List.getElem?_set, if_neg (by omega)]
    · rw [hnewT, List.getElem?_append_left (by simpa using hb), List.getElem?_set, if_neg hrb]
theorem put_bld {F : Nat} {σ : Heap} {b : Nat} {s : ByteArray} {v v' : V} (hF : F ≤ σ.length) (hrow : σ[b]? = some (some ⟨[.ptr b 0, v], 2, false, hbT + 1⟩))
    (h : (s = ⟨#[]⟩ ∧ v' = .nils) ∨ ∃ r, v' = .sl r 0 s.size false ∧ F ≤ r ∧ r ≠ b ∧ s.size ≠ 0 ∧ σ[r]? = some (some ⟨u8c s, 1, false, hbU + 1⟩)) :
    ∃ σ', wrc σ b (0 + 1) [v'] = some σ' ∧ Bld F σ' b s ∧ KeepF F b σ σ' := by
  have hlt := get_lt hrow
  refine ⟨σ.set b (some ⟨[.ptr b 0, v'], 2, false, hbT + 1⟩), by simp [wrc, hrow, setCells], ⟨.ptr b 0, v', by simp [hlt], .inr rfl, ?_⟩, by simp, fun j _ hj => by rw [List.getElem?_set, if_neg (Ne.symm hj)]⟩
  rcases h with h | ⟨r, g1, g2, g3, g4, g5⟩
  · exact .inl h
  · exact .inr ⟨r, g1, g2, g3, g4, by rw [List.getElem?_set, if_neg (Ne.symm g3)]; exact g5⟩
theorem writeString_runs {F : Nat} {σ : Heap} {b : Nat} {s : ByteArray} (hF : F ≤ σ.length) (h : Bld F σ b s) (t : ByteArray) (hs : s.size + t.size ≤ 1099511627776) :
    ∃ σ', Runs G n_pstrings_Builder_WriteString [.ptr b 0, .str t] σ (.tuple [.int .i64 (t.size : Int), .nili]) σ' ∧ Bld F σ' b (s ++ t) ∧ KeepF F b σ σ' := by
  obtain ⟨σ1, v, c1, l1, o1, r1, h1⟩ := copyCheck_bld h
  obtain ⟨v', σ2, a1, a2, a3, a4, a5, a6⟩ := app_bld (t := t) (by rw [l1]; exact hF) (get_lt r1) h1 hs
  obtain ⟨σ3, w1, w2, w3⟩ := put_bld (F := F) (σ := σ2) (b := b) (v := v) (v' := v') (by omega) (by rw [a5]; exact r1) a6
  refine ⟨σ3, Runs.of (W.to (fun k _ => pstrings_Builder_WriteString.eq k _ _ _) ?_), w2, ⟨by have := w3.1; omega, fun j hj hjb => by rw [w3.2 j hj hjb, a4 j hj, o1 j hjb]⟩⟩
  refine W.run c1 ?_
  have e1 : rdc σ1 b (0 + 1) 1 = some [v] := by simp [rdc, r1]
  have a1' : vappendT 6 1 1 σ1 v t.size (t.data.toList.map fun c => V.int .u8 c.toNat) = some (v', σ2) := a1
  have ho : ∀ {β : Type} (K : Option β), one v' K = K := fun K => one_of a2 K
  try simp only [q_bind_some, castInt_int, q_castBool, q_castStr, q_castPtr, q_castFn, q_castAgg, q_castTuple, q_uncons, q_isNil, q_sl, q_nils, q_emp, q_ptr, q_nilp, q_fn, q_cond_true, q_cond_false, Bool.not_true, Bool.not_false, decide_true, decide_false, List.cons_append, List.nil_append, e1, a1', ho, w1]
  exact W.ret ⟨rfl, rfl⟩
theorem builderText_runs {F : Nat} {σ : Heap} {b : Nat} {s : ByteArray} (h : Bld F σ b s) (hs : s.size ≤ 1099511627776) :
    ∃ σ', Runs G n_pstrings_Builder_String [.ptr b 0] σ (.str s) σ' ∧ KeepF F b σ σ' := by
  obtain ⟨x, v, h1, h2, h3⟩ := h
  rcases h3 with ⟨rfl, rfl⟩ | ⟨r, rfl, hr, hrb, hs0, hrow⟩
  · exact ⟨σ, hook_runs (h := hkText hbT hbU) rfl (by simp [hkText, h1]), KeepF.refl _ _ _⟩
  · refine ⟨σ.set r none, hook_runs (h := hkText hbT hbU) rfl ?_, by simp, fun j hj _ => by rw [List.getElem?_set, if_neg (by omega)]⟩
    have e1 : (u8c s).take s.size = u8c s := List.take_of_length_le (by rw [u8c_len]; omega)
    have e2 : u8s (u8c s) = some s.data.toList := u8s_map _
    have e3 : (⟨s.data.toList.toArray⟩ : ByteArray) = s := by simp
    have e4 : s.size ≤ (u8c s).length := by rw [u8c_len]; omega
    have e5 : s.size ≤ 4611686018427387904 := by omega
    simp [hkText, h1, hrow, e1, e2, e3, hs0, e4, e5]
end Go.F

/- Rows of types as texts; FaceText of both. -/
set_option linter.unusedVariables false
set_option linter.unusedSimpArgs false
namespace Go.F
open Go.HM Go.Proofs
/-- A text of bytes. -/
theorem join_snoc (xs : List (List UInt8)) (x sep : List UInt8) : Lib.join (xs ++ [x]) sep = if xs = [] then x else Lib.join xs sep ++ sep ++ x := by
  cases xs with
  | nil => simp [Lib.join_one]
  | cons y r =>
    rw [List.cons_append, Lib.join_cons, Lib.join_cons, if_neg (by simp)]
    simp [Lib.joinTail]
def tyL (l : List Int) : List UInt8 := Lib.join (l.map fun n => (tword n).data.toList) [44]
theorem tyL_next {l : List Int} {i : Nat} {n : Int} (h : l[i]? = some n) : tyL (l.take (i + 1)) = if i = 0 then (tword n).data.toList else tyL (l.take i) ++ [44] ++ (tword n).data.toList := by
  have hi := (List.getElem?_eq_some_iff.1 h).1
  unfold tyL
  rw [take_next' h, List.map_append, List.map_cons, List.map_nil, join_snoc]
  by_cases h0 : i = 0
  · subst h0
    simp
  · rw [if_neg h0, if_neg (fun hc => ?_)]
    have := congrArg List.length hc
    simp only [List.length_map, List.length_take, List.length_nil] at this
    omega
theorem tyL_len (l : List Int) : ∀ i, i ≤ l.length → (tyL (l.take i)).length ≤ 5 * i
  | 0, _ => by simp [tyL, Lib.join_nil]
  | i + 1, h => by
    have hx : l[i]? = some (l[i]'(by omega)) := List.getElem?_eq_getElem (by omega)
    have ih := tyL_len l i (by omega)
    have hs := tword_size (l[i]'(by omega))
    have hb := ba_list (tword (l[i]'(by omega)))
    rw [tyL_next hx]
    split
    · omega
    · simp only [List.length_append, List.length_cons, List.length_nil]
      omega
theorem l3Types_gives {σ : Heap} {v : V} {l : List Int} (hf : l.length ≤ 1048576) (h : RepS 1 IntRep σ v l) : Gives G n_spec_l3Types [v] σ (.str (ba (tyL l))) := by
  refine Gives.of (W.to (fun k _ => spec_l3Types.eq k _ _) ?_)
  have h0 : (⟨#[]⟩ : ByteArray) = ba (tyL (l.take 0)) := by simp [tyL, Lib.join_nil, ba]
  rw [h0]
  refine W.loop (S := Nat × Heap) (fun s => s.1 ≤ l.length ∧ Lh σ s.2) (fun s => [.v v, .v (.str (ba (tyL (l.take s.1)))), .v (.int .i64 (s.1 : Int))]) (fun s => s.2) (fun s => l.length - s.1)
    (fun ⟨i, σi⟩ ⟨hi, hl⟩ => ?_) (0, σ) ⟨Nat.zero_le _, Lh.refl _⟩
  simp only at hi hl ⊢
  refine W.to (fun k _ => by rw [spec_l3Types.L0_step]) ?_
  refine B.len h ?_
  refine B.ite (fun hlt => ?_) fun hlt => ?_
  rotate_left
  · obtain rfl : i = l.length := by omega
    try simp only [q_bind_some, castInt_int, q_castBool, q_castStr, q_castPtr, q_castFn, q_castAgg, q_castTuple, q_uncons, q_isNil, q_sl, q_nils, q_emp, q_ptr, q_nilp, q_fn, q_cond_true, q_cond_false, Bool.not_true, Bool.not_false, decide_true, decide_false, List.cons_append, List.nil_append, spec_l3Types.A0_x0]
    exact W.ret ⟨by rw [List.take_length], hl⟩
  have hil : i < l.length := by omega
  have hx : l[i]? = some l[i] := List.getElem?_eq_getElem hil
  generalize l[i] = n at hx
  have hnext := wrap_next hil (by omega)
  obtain ⟨r, o, hv, cs, hr, hP⟩ := h.at' hx
  have hr' := hl.rdc hr
  unfold IntRep at hP
  subst hP
  have hsz := ba_size (tyL (l.take i))
  have hln := tyL_len l i hi
  have hts := tword_size n
  have hstep := tyL_next hx
  have e62 : (2 : Nat) ^ 62 = 4611686018427387904 := by decide
  by_cases hi0 : 0 < i
  · have hp : (0 : Int) < (i : Int) := by omega
    rw [if_neg (by omega)] at hstep
    have s1 : (ba (tyL (l.take i))).size + (⟨#[44]⟩ : ByteArray).size ≤ 2 ^ 62 := by
      rw [hsz, e62]
      show _ + 1 ≤ _
      omega
    have a1 : ba (tyL (l.take i)) ++ (⟨#[44]⟩ : ByteArray) = ba (tyL (l.take i) ++ [44]) := ba_app _ _
    have s2 : (ba (tyL (l.take i) ++ [44])).size + (tword n).size ≤ 2 ^ 62 := by
      rw [ba_size, e62, List.length_append]
      show _ + 1 + _ ≤ _
      omega
    try simp only [q_bind_some, castInt_int, q_castBool, q_castStr, q_castPtr, q_castFn, q_castAgg, q_castTuple, q_uncons, q_isNil, q_sl, q_nils, q_emp, q_ptr, q_nilp, q_fn, q_cond_true, q_cond_false, Bool.not_true, Bool.not_false, decide_true, decide_false, List.cons_append, List.nil_append, hp, s1, hv, hr']
    refine B.give (specTreeType_gives _ σi) fun σ1 l1 => ?_
    try simp only [q_bind_some, castInt_int, q_castBool, q_castStr, q_castPtr, q_castFn, q_castAgg, q_castTuple, q_uncons, q_isNil, q_sl, q_nils, q_emp, q_ptr, q_nilp, q_fn, q_cond_true, q_cond_false, Bool.not_true, Bool.not_false, decide_true, decide_false, List.cons_append, List.nil_append, a1, s2, hnext]
    rw [ba_app, ← hstep]
    exact W.again (i + 1, σ1) ⟨by show i + 1 ≤ l.length; omega, hl.trans l1⟩ (by simp only; omega) rfl rfl
  · obtain rfl : i = 0 := by omega
    rw [if_pos rfl] at hstep
    have s2 : (ba (tyL (l.take 0))).size + (tword n).size ≤ 2 ^ 62 := by
      rw [hsz, e62]
      omega
    try simp only [q_bind_some, castInt_int, q_castBool, q_castStr, q_castPtr, q_castFn, q_castAgg, q_castTuple, q_uncons, q_isNil, q_sl, q_nils, q_emp, q_ptr, q_nilp, q_fn, q_cond_true, q_cond_false, Bool.not_true, Bool.not_false, decide_true, decide_false, List.cons_append, List.nil_append, hv, hr']
    refine B.give (specTreeType_gives _ σi) fun σ1 l1 => ?_
    have a2 : ba (tyL (l.take 0)) ++ tword n = ba (tyL (l.take (0 + 1))) := by
      rw [ba_app, hstep]
      simp [tyL, Lib.join_nil]
    try simp only [q_bind_some, castInt_int, q_castBool, q_castStr, q_castPtr, q_castFn, q_castAgg, q_castTuple, q_uncons, q_isNil, q_sl, q_nils, q_emp, q_ptr, q_nilp, q_fn, q_cond_true, q_cond_false, Bool.not_true, Bool.not_false, decide_true, decide_false, List.cons_append, List.nil_append, s2, a2, hnext]
    exact W.again (0 + 1, σ1) ⟨by show 0 + 1 ≤ l.length; omega, hl.trans l1⟩ (by simp only; omega) rfl rfl
theorem join_runs {b : Nat} {σ : Heap} {v : V} {l : List ByteArray} (h : GrS b σ v l) (sep : ByteArray) (h1 : l.length ≤ 1048576) (h2 : (Lib.join (l.map (·.data.toList)) sep.data.toList).length ≤ 1048576) :
    Runs G n_strings_Join [v, .str sep] σ (.str (ba (Lib.join (l.map (·.data.toList)) sep.data.toList))) σ := by
  obtain ⟨q, lim, hq, rfl, ty, hrow⟩ := h
  refine hook_runs (h := hkJoin) rfl ?_
  have hr : rdc σ q 0 l.length = some (l.map .str) := by
    unfold rdc
    rw [hrow]
    simp only [List.length_map, Nat.zero_add, List.drop_zero]
    rw [if_pos (Nat.le_refl _), List.take_of_length_le (by simp)]
  simp only [hkJoin, hr, Option.bind_some, strL_map]
  rw [if_pos ⟨by omega, by omega⟩]
  rfl
theorem typeList_gives {σ : Heap} (ht : TypeW σ) {v : V} {l : List Int} (hf : l.length ≤ 4) (h : RepS 1 IntRep σ v l) : Gives G n_impl_typeList [v] σ (.str (ba (tyL l))) := by
  refine Gives.of (W.to (fun k _ => impl_typeList.eq k _ _) ?_)
  refine W.len h ?_
  refine W.loop (S := Nat × V × Heap) (fun s => s.1 ≤ l.length ∧ Lh σ s.2.2 ∧ GrS σ.length s.2.2 s.2.1 ((l.take s.1).map tword)) (fun s => [.v s.2.1, .v v, .v (.int .i64 (l.length : Int)), .v (.int .i64 (s.1 : Int))]) (fun s => s.2.2) (fun s => l.length - s.1)
    (fun ⟨i, a, σi⟩ ⟨hi, hl, hg⟩ => ?_) (0, .sl σ.length 0 0 true, hnew σ 1 []) ⟨Nat.zero_le _, Lh.new _ _ _, GrS.new σ true⟩
  simp only at hi hl hg ⊢
  refine W.to (fun k _ => by rw [impl_typeList.L0_step]) ?_
  refine B.ite (fun hlt => ?_) fun hlt => ?_
  rotate_left
  · obtain rfl : i = l.length := by omega
    rw [List.take_length] at hg
    have hln := tyL_len l l.length (Nat.le_refl _)
    rw [List.take_length] at hln
    have he : Lib.join ((l.map tword).map (·.data.toList)) (⟨#[44]⟩ : ByteArray).data.toList = tyL l := by
      unfold tyL
      rw [List.map_map]
      rfl
    try simp only [q_bind_some, castInt_int, q_castBool, q_castStr, q_castPtr, q_castFn, q_castAgg, q_castTuple, q_uncons, q_isNil, q_sl, q_nils, q_emp, q_ptr, q_nilp, q_fn, q_cond_true, q_cond_false, Bool.not_true, Bool.not_false, decide_true, decide_false, List.cons_append, List.nil_append, impl_typeList.A0_x0]
    refine W.run (join_runs hg ⟨#[44]⟩ (by rw [List.length_map]; omega) (by rw [he]; omega)) ?_
    rw [he]
    try simp only [q_bind_some, castInt_int, q_castBool, q_castStr, q_castPtr, q_castFn, q_castAgg, q_castTuple, q_uncons, q_isNil, q_sl, q_nils, q_emp, q_ptr, q_nilp, q_fn, q_cond_true, q_cond_false, Bool.not_true, Bool.not_false, decide_true, decide_false, List.cons_append, List.nil_append]
    exact W.ret ⟨rfl, hl⟩
  have hil : i < l.length := by omega
  have hx : l[i]? = some l[i] := List.getElem?_eq_getElem hil
  generalize l[i] = n at hx
  have hnext := wrap_next hil (by omega)
  obtain ⟨r, o, hv, cs, hr, hP⟩ := h.at' hx
  have hr' := hl.rdc hr
  unfold IntRep at hP
  subst hP
  try simp only [q_bind_some, castInt_int, q_castBool, q_castStr, q_castPtr, q_castFn, q_castAgg, q_castTuple, q_uncons, q_isNil, q_sl, q_nils, q_emp, q_ptr, q_nilp, q_fn, q_cond_true, q_cond_false, Bool.not_true, Bool.not_false, decide_true, decide_false, List.cons_append, List.nil_append, hv, hr']
  refine B.run (implTreeType_runs n σi (hl.row _ _ ht)) ?_
  obtain ⟨v', σ', g1, g2, g3, g4, g5⟩ := hg.app' (tword n) (by rw [List.length_map, List.length_take]; omega)
  try simp only [q_bind_some, castInt_int, q_castBool, q_castStr, q_castPtr, q_castFn, q_castAgg, q_castTuple, q_uncons, q_isNil, q_sl, q_nils, q_emp, q_ptr, q_nilp, q_fn, q_cond_true, q_cond_false, Bool.not_true, Bool.not_false, decide_true, decide_false, List.cons_append, List.nil_append, g1, hnext]
  exact W.again (i + 1, v', σ') ⟨by show i + 1 ≤ l.length; omega, g3 σ (Nat.le_refl _) hl, by show GrS _ _ _ ((l.take (i + 1)).map tword); rw [take_next' hx, List.map_append]; exact g2⟩ (by simp only; omega) rfl rfl
end Go.F

/- Words of types read: plain. -/
set_option linter.unusedVariables false
set_option linter.unusedSimpArgs false
namespace Go.F
open Go.HM Go.Proofs
def typeNo (s : ByteArray) : Int := if s = ⟨#[105, 110, 116]⟩ then 1 else if s = ⟨#[98, 111, 111, 108]⟩ then 2 else if s = ⟨#[114, 111, 119]⟩ then 3 else 0
def readT (l : List UInt8) : List Int := if l = [] then [] else (splitL 44 l).map fun w => typeNo (ba w)
def small (c : UInt8) : Prop := c = 40 ∨ c = 41 ∨ c = 44 ∨ c = 10
theorem name_no {s : ByteArray} (h : IsName s) {c : UInt8} (hc : small c) : c ∉ s.data.toList := fun hm => by
  obtain ⟨i, hi, e⟩ := List.getElem_of_mem hm
  have hs : i < s.size := by simpa using hi
  have := h.1 i hs
  have e2 : s[i] = c := by
    obtain ⟨⟨l⟩⟩ := s
    exact e
  rw [e2] at this
  unfold small at hc
  rcases hc with rfl | rfl | rfl | rfl <;> (simp at this)
theorem word_no (n : Int) {c : UInt8} (hc : small c) : c ∉ (tword n).data.toList := by
  have key : ∀ d : UInt8, small d → d ∉ ([105, 110, 116] : List UInt8) ∧ d ∉ ([98, 111, 111, 108] : List UInt8) ∧ d ∉ ([114, 111, 119] : List UInt8) := fun d hd => by
    unfold small at hd
    rcases hd with rfl | rfl | rfl | rfl <;> decide
  obtain ⟨h1, h2, h3⟩ := key c hc
  unfold tword
  split
  · exact h1
  split
  · exact h2
  split
  · exact h3
  · simp
theorem join_no {c : UInt8} (hc : c = 40 ∨ c = 41 ∨ c = 10) : ∀ l : List Int, c ∉ tyL l
  | l => fun hm => by
    have hs : small c := by unfold small; rcases hc with h | h | h <;> simp [h]
    have h44 : c ≠ 44 := by rcases hc with rfl | rfl | rfl <;> decide
    have key : ∀ xs : List (List UInt8), (∀ x, x ∈ xs → c ∉ x) → c ∉ Lib.join xs [44] := fun xs => by
      intro hx
      cases xs with
      | nil => simp [Lib.join_nil]
      | cons y r =>
        rw [Lib.join_cons]
        have ht : ∀ r : List (List UInt8), (∀ x, x ∈ r → c ∉ x) → c ∉ Lib.joinTail [44] r := fun r => by
          induction r with
          | nil => intro _; simp [Lib.joinTail]
          | cons z r ih =>
            intro hz
            have := ih fun x hx => hz x (by simp [hx])
            have h2 := hz z (by simp)
            simp [Lib.joinTail] at this ⊢
            exact ⟨h44, h2, this⟩
        have h1 := hx y (by simp)
        have h2 := ht r fun x hx' => hx x (by simp [hx'])
        simp [h1, h2]
    refine key (l.map fun n => (tword n).data.toList) (fun x hx => ?_) hm
    obtain ⟨n, _, rfl⟩ := List.mem_map.1 hx
    exact word_no n hs
theorem split_join : ∀ xs : List (List UInt8), xs ≠ [] → (∀ x, x ∈ xs → (44 : UInt8) ∉ x) → splitL 44 (Lib.join xs [44]) = xs
  | [], h, _ => absurd rfl h
  | [x], _, h => by
    rw [Lib.join_one]
    exact split_plain (h x (by simp))
  | x :: y :: r, _, h => by
    have e : Lib.join (x :: y :: r) [44] = x ++ 44 :: Lib.join (y :: r) [44] := by
      rw [Lib.join_cons, Lib.join_cons]
      simp [Lib.joinTail]
    rw [e, split_at (h x (by simp)), split_join (y :: r) (by simp) fun z hz => h z (by simp [hz])]
theorem typeNo_word {n : Int} (h : IsT n) : typeNo (tword n) = n := by
  unfold IsT at h
  have : n = 1 ∨ n = 2 ∨ n = 3 := by omega
  rcases this with rfl | rfl | rfl <;> (unfold typeNo tword; decide)
theorem word_ne {n : Int} (h : IsT n) : (tword n).data.toList ≠ [] := by
  unfold IsT at h
  have : n = 1 ∨ n = 2 ∨ n = 3 := by omega
  rcases this with rfl | rfl | rfl <;> (unfold tword; decide)
theorem readT_tyL {l : List Int} (h : Typs l) : readT (tyL l) = l := by
  unfold readT
  cases l with
  | nil => simp [tyL, Lib.join_nil]
  | cons n l =>
    have hne : tyL (n :: l) ≠ [] := by
      unfold tyL
      rw [List.map_cons, Lib.join_cons]
      have := word_ne (h.2 n (by simp))
      simp [this]
    rw [if_neg hne]
    unfold tyL
    rw [split_join _ (by simp) fun x hx => by
      obtain ⟨m, _, rfl⟩ := List.mem_map.1 hx
      exact word_no m (by unfold small; simp)]
    rw [List.map_map]
    conv => rhs; rw [← List.map_id (n :: l)]
    apply List.map_congr_left
    intro m hm
    show typeNo (ba (tword m).data.toList) = m
    rw [← ba_self]
    exact typeNo_word (h.2 m hm)
/-- The pieces are no longer than the whole. -/
theorem cutF_le (c : UInt8) (n : Nat) : ∀ (l : List UInt8) (A : List (List UInt8)) (w : List UInt8), (∀ x, x ∈ A → x.length ≤ n) → w.length + l.length ≤ n → (∀ x, x ∈ (cutF c (A, w) l).1 → x.length ≤ n) ∧ (cutF c (A, w) l).2.length ≤ n
  | [], A, w, hA, hw => ⟨hA, by simpa [cutF] using hw⟩
  | b :: l, A, w, hA, hw => by
    simp only [List.length_cons] at hw
    show (∀ x, x ∈ (cutF c (if b = c then (A ++ [w], []) else (A, w ++ [b])) l).1 → x.length ≤ n) ∧ (cutF c (if b = c then (A ++ [w], []) else (A, w ++ [b])) l).2.length ≤ n
    split
    · refine cutF_le c n l _ _ (fun x hx => ?_) (by simp; omega)
      rcases List.mem_append.1 hx with hx | hx
      · exact hA x hx
      · simp at hx
        subst hx
        omega
    · exact cutF_le c n l _ _ hA (by simp; omega)
theorem split_le (c : UInt8) (l : List UInt8) : ∀ x, x ∈ splitL c l → x.length ≤ l.length := by
  obtain ⟨h1, h2⟩ := cutF_le c l.length l [] [] (fun x hx => (List.not_mem_nil hx).elim) (by simp)
  intro x hx
  unfold splitL at hx
  rcases List.mem_append.1 hx with hx | hx
  · exact h1 x hx
  · simp at hx
    subst hx
    exact h2
end Go.F

/- LexNum: the program's and the reference's. -/
set_option linter.unusedVariables false
set_option linter.unusedSimpArgs false
namespace Go.F
open Go.HM Go.Proofs
/-- What strconv's variables hold. -/
structure NumV (σ : Heap) : Prop where
  tab : σ[g_uint64pow10]? = some (some ⟨Lib.pow10Tab.map fun z => .int .u64 z, 1, true, 0⟩)
  es : ∃ tp x, σ[g_ErrSyntax]? = some (some ⟨[.iface tp x], 1, true, 0⟩)
  er : ∃ tp x, σ[g_ErrRange]? = some (some ⟨[.iface tp x], 1, true, 0⟩)
theorem NumV.le {σ σ' : Heap} (hl : Lh σ σ') (h : NumV σ) : NumV σ' := ⟨hl.row _ _ h.tab, let ⟨tp, x, e⟩ := h.es; ⟨tp, x, hl.row _ _ e⟩, let ⟨tp, x, e⟩ := h.er; ⟨tp, x, hl.row _ _ e⟩⟩
theorem itoa_runs {σ : Heap} (h : σ[g_uint64pow10]? = some (some ⟨Lib.pow10Tab.map fun z => .int .u64 z, 1, true, 0⟩)) {n : Int} (h0 : -9223372036854775808 ≤ n) (h1 : n ≤ 9223372036854775807) : Runs G n_strconv_Itoa [.int .i64 n] σ (.str ⟨(Lib.itoa n).toArray⟩) σ := by
  refine hook_runs (h := hkItoa g_uint64pow10) rfl ?_
  unfold hkItoa
  exact if_pos ⟨⟨h0, h1⟩, h⟩
theorem ba_toList (s : ByteArray) (l : List UInt8) : ((⟨l.toArray⟩ : ByteArray) = s) ↔ l = s.data.toList := by
  obtain ⟨⟨d⟩⟩ := s
  constructor
  · intro h
    injection h with h
    injection h
  · intro h
    rw [h]
theorem decimal_ends {σ : Heap} (hv : NumV σ) {s : ByteArray} (hs : s.size ≤ 1048576) : HM.Ends G n_impl_decimal [.str s] σ (fun w σ' => Lh σ σ' ∧ ∃ n b, w = .tuple [.int .i64 n, .bool b] ∧
    ((b = false ∧ numI s.data.toList = (0, false) ∨ b = true ∧ Lib.atoiAll s.data.toList = .ok n ∧ Lib.itoa n = s.data.toList))) := by
  refine HM.Ends.mk (W.to (fun k _ => impl_decimal.eq k _ _) ?_)
  have err : ∀ n : Int, ∀ T, Runs G n_strconv_Atoi [.str s] σ (.tuple [.int .i64 n, .iface T (.ptr σ.length 0)]) (hnew σ 3 []) → numI s.data.toList = (0, false) → W (ι := Unit) (fun w σ' => Lh σ σ' ∧ ∃ n b, w = .tuple [.int .i64 n, .bool b] ∧
    ((b = false ∧ numI s.data.toList = (0, false) ∨ b = true ∧ Lib.atoiAll s.data.toList = .ok n ∧ Lib.itoa n = s.data.toList))) (fun _ => False) (fun k _ => ((hcall G k n_strconv_Atoi [.str s] σ).bind fun q2 => castTuple q2.1 fun l3 => uncons l3 fun c4 l5 => castInt .i64 c4 fun n6 => uncons l5 fun c7 l8 => isNil l8 <| (nilI c7).bind fun b9 => bif b9 then ((hcall G k n_strconv_Itoa [.int .i64 n6] q2.2).bind fun q10 => castStr q10.1 fun s11 => some (.tuple [.int .i64 n6, .bool (decide (s11 = s))], q10.2)) else (some (.tuple [.int .i64 n6, .bool false], q2.2)))) := fun n T hr hz => by
    refine W.run hr ?_
    try simp only [q_bind_some, castInt_int, q_castBool, q_castStr, q_castPtr, q_castFn, q_castAgg, q_castTuple, q_uncons, q_isNil, q_sl, q_nils, q_emp, q_ptr, q_nilp, q_fn, q_cond_true, q_cond_false, Bool.not_true, Bool.not_false, decide_true, decide_false, List.cons_append, List.nil_append, nilI]
    exact W.ret ⟨Lh.new _ _ _, _, _, rfl, .inl ⟨rfl, hz⟩⟩
  have h3 : (∃ n, Lib.atoiAll s.data.toList = .ok n) ∨ Lib.atoiAll s.data.toList = .range ∨ Lib.atoiAll s.data.toList = Lib.NumEnd.ofOption none := by
    cases Lib.atoiAll s.data.toList with
    | ok n => exact .inl ⟨n, rfl⟩
    | range => exact .inr (.inl rfl)
    | _ => exact .inr (.inr rfl)
  rcases h3 with ⟨n, ha⟩ | ha | ha
  · have hb := Lib.atoiAll_bounds ha
    have hr : Runs G n_strconv_Atoi [.str s] σ (.tuple [.int .i64 n, .nili]) σ := by
      refine hook_runs (h := hkAtoi g_ErrSyntax g_ErrRange _) rfl ?_
      unfold hkAtoi
      simp only
      rw [if_pos (by omega), ha]
    refine W.run hr ?_
    try simp only [q_bind_some, castInt_int, q_castBool, q_castStr, q_castPtr, q_castFn, q_castAgg, q_castTuple, q_uncons, q_isNil, q_sl, q_nils, q_emp, q_ptr, q_nilp, q_fn, q_cond_true, q_cond_false, Bool.not_true, Bool.not_false, decide_true, decide_false, List.cons_append, List.nil_append, nilI]
    refine W.run (itoa_runs hv.tab hb.1 hb.2) ?_
    try simp only [q_bind_some, castInt_int, q_castBool, q_castStr, q_castPtr, q_castFn, q_castAgg, q_castTuple, q_uncons, q_isNil, q_sl, q_nils, q_emp, q_ptr, q_nilp, q_fn, q_cond_true, q_cond_false, Bool.not_true, Bool.not_false, decide_true, decide_false, List.cons_append, List.nil_append]
    refine W.ret ⟨Lh.refl _, _, _, rfl, ?_⟩
    by_cases he : Lib.itoa n = s.data.toList
    · exact .inr ⟨decide_eq_true ((ba_toList _ _).2 he), ha, he⟩
    · refine .inl ⟨decide_eq_false (fun hc => he ((ba_toList _ _).1 hc)), ?_⟩
      unfold numI
      rw [ha]
      simp only
      rw [if_neg (fun hc => he hc.1)]
  · refine err (Lib.atoiSat s.data.toList) tNumErr (hook_runs (h := hkAtoi g_ErrSyntax g_ErrRange tNumErr) rfl ?_) (by unfold numI; rw [ha])
    unfold hkAtoi
    simp only
    rw [if_pos (by omega), ha]
    simp only
    rw [if_pos hv.er]
  · simp only [Lib.NumEnd.ofOption] at ha
    refine err 0 tNumErr (hook_runs (h := hkAtoi g_ErrSyntax g_ErrRange tNumErr) rfl ?_) (by unfold numI; rw [ha])
    unfold hkAtoi
    simp only
    rw [if_pos (by omega), ha]
    simp only
    rw [if_pos hv.es]
end Go.F

/- LexNum: the reference's. -/
set_option linter.unusedVariables false
set_option linter.unusedSimpArgs false
namespace Go.F
open Go.HM Go.Proofs
def digs (neg : Bool) (l : List UInt8) : Int × Bool := match Lib.decFrom 0 l with
  | none => (0, false)
  | some m => (bif neg then -(m : Int) else (m : Int), true)
theorem numD_digs {neg : Bool} {ds : List UInt8} (h0 : ds ≠ []) (h1 : ¬ 17 < ds.length) (h2 : ¬ (ds.head? = some 48 ∧ (1 < ds.length ∨ neg = true))) : numD neg ds = digs neg ds := by
  unfold numD
  rw [if_neg h0, if_neg h1, if_neg h2]
  rfl
theorem ba_get {s : ByteArray} {i : Nat} (h : i < s.size) : s.data.toList[i]? = some s[i] := by
  have h' : i < s.data.toList.length := by simpa using h
  rw [List.getElem?_eq_getElem h']
  rfl
theorem ba_head (s : ByteArray) (h : 0 < s.size) : s.data.toList.head? = some s[0] := by
  rw [List.head?_eq_getElem?]
  exact ba_get h
theorem l23_loop {σ : Heap} {s : ByteArray} (hs : s.size ≤ 17) (neg : Bool) : W (ι := Unit) (fun w σ' => w = .tuple [.int .i64 (digs neg s.data.toList).1, .bool (digs neg s.data.toList).2] ∧ Lh σ σ') (fun _ => False)
    (fun k _ => (spec_l23Num.L0 k k [.v (.str s), .v (.bool neg), .v (.int .i64 0), .v (.int .i64 0)] σ).bind (spec_l23Num.A0 k)) := by
  have hlen : s.data.toList.length = s.size := by simp
  refine W.loop (S := Nat × Nat) (fun p => p.1 ≤ s.size ∧ Lib.decFrom 0 (s.data.toList.take p.1) = some p.2) (fun p => [.v (.str s), .v (.bool neg), .v (.int .i64 (p.2 : Int)), .v (.int .i64 (p.1 : Int))]) (fun _ => σ) (fun p => s.size - p.1)
    (fun ⟨i, acc⟩ ⟨hi, hd⟩ => ?_) (0, 0) ⟨Nat.zero_le _, rfl⟩
  simp only at hi hd ⊢
  refine W.to (fun k _ => by rw [spec_l23Num.L0_step]) ?_
  by_cases hlt : i < s.size
  · have hlt' : (i : Int) < (s.size : Int) := by omega
    try simp only [q_bind_some, castInt_int, q_castBool, q_castStr, q_castPtr, q_castFn, q_castAgg, q_castTuple, q_uncons, q_isNil, q_sl, q_nils, q_emp, q_ptr, q_nilp, q_fn, q_cond_true, q_cond_false, Bool.not_true, Bool.not_false, decide_true, decide_false, List.cons_append, List.nil_append, hlt']
    have hb := ba_get hlt
    refine B.byte hlt ?_
    have bad : Lib.digitVal s[i] = none → digs neg s.data.toList = (0, false) := fun hn => by
      unfold digs
      cases hx : Lib.decFrom 0 s.data.toList with
      | none => rfl
      | some n =>
        obtain ⟨d, hd⟩ := Lib.digit_of_decFrom _ 0 n hx i _ hb
        rw [hn] at hd
        cases hd
    by_cases h48 : (s[i].toNat : Int) < 48
    · try simp only [q_bind_some, castInt_int, q_castBool, q_castStr, q_castPtr, q_castFn, q_castAgg, q_castTuple, q_uncons, q_isNil, q_sl, q_nils, q_emp, q_ptr, q_nilp, q_fn, q_cond_true, q_cond_false, Bool.not_true, Bool.not_false, decide_true, decide_false, List.cons_append, List.nil_append, h48, spec_l23Num.A0_ret]
      exact W.ret ⟨by rw [bad (by unfold Lib.digitVal; rw [if_neg (by omega)])], Lh.refl _⟩
    try simp only [q_bind_some, castInt_int, q_castBool, q_castStr, q_castPtr, q_castFn, q_castAgg, q_castTuple, q_uncons, q_isNil, q_sl, q_nils, q_emp, q_ptr, q_nilp, q_fn, q_cond_true, q_cond_false, Bool.not_true, Bool.not_false, decide_true, decide_false, List.cons_append, List.nil_append, h48]
    refine B.byte hlt ?_
    by_cases h57 : (57 : Int) < (s[i].toNat : Int)
    · try simp only [q_bind_some, castInt_int, q_castBool, q_castStr, q_castPtr, q_castFn, q_castAgg, q_castTuple, q_uncons, q_isNil, q_sl, q_nils, q_emp, q_ptr, q_nilp, q_fn, q_cond_true, q_cond_false, Bool.not_true, Bool.not_false, decide_true, decide_false, List.cons_append, List.nil_append, h57, spec_l23Num.A0_ret]
      exact W.ret ⟨by rw [bad (by unfold Lib.digitVal; rw [if_neg (by omega)])], Lh.refl _⟩
    try simp only [q_bind_some, castInt_int, q_castBool, q_castStr, q_castPtr, q_castFn, q_castAgg, q_castTuple, q_uncons, q_isNil, q_sl, q_nils, q_emp, q_ptr, q_nilp, q_fn, q_cond_true, q_cond_false, Bool.not_true, Bool.not_false, decide_true, decide_false, List.cons_append, List.nil_append, h57]
    refine B.byte hlt ?_
    have hdig : Lib.digitVal s[i] = some (s[i].toNat - 48) := by unfold Lib.digitVal; rw [if_pos (by omega)]
    have hnext := Lib.decFrom_take s.data.toList i 0 acc s[i] _ hd hb hdig
    have hacc : acc < 100000000000000000 := Lib.decFrom_take_lt hd (by omega)
    generalize s[i] = b at h48 h57 hdig hnext
    have w1 : IntKind.wrap .u8 ((b.toNat : Int) - 48) = ((b.toNat - 48 : Nat) : Int) := by
      have hall : ∀ x : Fin 10, IntKind.wrap .u8 (x.val : Int) = (x.val : Int) := by decide
      have : IntKind.wrap .u8 (((b.toNat - 48 : Nat)) : Int) = ((b.toNat - 48 : Nat) : Int) := hall ⟨b.toNat - 48, by omega⟩
      rw [show (b.toNat : Int) - 48 = ((b.toNat - 48 : Nat) : Int) by omega, this]
    have w2 : IntKind.wrap .i64 ((b.toNat - 48 : Nat) : Int) = ((b.toNat - 48 : Nat) : Int) := wrap_id (by omega) (by omega)
    have w3 : IntKind.wrap .i64 ((acc : Int) * 10) = ((acc * 10 : Nat) : Int) := by rw [wrap_id (by omega) (by omega)]; omega
    have w4 : IntKind.wrap .i64 (((acc * 10 : Nat) : Int) + ((b.toNat - 48 : Nat) : Int)) = ((acc * 10 + (b.toNat - 48) : Nat) : Int) := by rw [wrap_id (by omega) (by omega)]; omega
    have w5 : IntKind.wrap .i64 ((i : Int) + 1) = ((i + 1 : Nat) : Int) := wrap_id (by omega) (by omega)
    rw [w1, w2, w3, w4, w5]
    exact W.again (i + 1, acc * 10 + (b.toNat - 48)) ⟨by show i + 1 ≤ s.size; omega, hnext⟩ (by simp only; omega) rfl rfl
  · obtain rfl : i = s.size := by omega
    have hdd : Lib.decFrom 0 s.data.toList = some acc := by
      rw [← hd, ← hlen, List.take_length]
    have hacc : acc < 100000000000000000 := Lib.decFrom_take_lt hd hs
    have hg : digs neg s.data.toList = (bif neg then -(acc : Int) else (acc : Int), true) := by unfold digs; rw [hdd]
    have hnl : ¬ ((s.size : Nat) : Int) < (s.size : Int) := by omega
    try simp only [q_bind_some, castInt_int, q_castBool, q_castStr, q_castPtr, q_castFn, q_castAgg, q_castTuple, q_uncons, q_isNil, q_sl, q_nils, q_emp, q_ptr, q_nilp, q_fn, q_cond_true, q_cond_false, Bool.not_true, Bool.not_false, decide_true, decide_false, List.cons_append, List.nil_append, hnl, spec_l23Num.A0_x0]
    have w1 : IntKind.wrap .i64 (0 - (acc : Int)) = -(acc : Int) := by rw [wrap_id (by omega) (by omega)]; omega
    cases neg
    · try simp only [q_bind_some, castInt_int, q_castBool, q_castStr, q_castPtr, q_castFn, q_castAgg, q_castTuple, q_uncons, q_isNil, q_sl, q_nils, q_emp, q_ptr, q_nilp, q_fn, q_cond_true, q_cond_false, Bool.not_true, Bool.not_false, decide_true, decide_false, List.cons_append, List.nil_append]
      exact W.ret ⟨by rw [hg]; rfl, Lh.refl _⟩
    · try simp only [q_bind_some, castInt_int, q_castBool, q_castStr, q_castPtr, q_castFn, q_castAgg, q_castTuple, q_uncons, q_isNil, q_sl, q_nils, q_emp, q_ptr, q_nilp, q_fn, q_cond_true, q_cond_false, Bool.not_true, Bool.not_false, decide_true, decide_false, List.cons_append, List.nil_append, w1]
      exact W.ret ⟨by rw [hg]; rfl, Lh.refl _⟩
theorem ext_tail (s : ByteArray) : (s.extract 1 s.size).data.toList = s.data.toList.tail := by
  obtain ⟨⟨l⟩⟩ := s
  show (ByteArray.extract ⟨⟨l⟩⟩ 1 l.length).data.toList = l.tail
  rw [ByteArray.data_extract]
  cases l <;> simp
theorem l23Num_gives (σ : Heap) {s : ByteArray} (hs : s.size ≤ 1048576) : Gives G n_spec_l23Num [.str s] σ (.tuple [.int .i64 (num s.data.toList).1, .bool (num s.data.toList).2]) := by
  have hlen : s.data.toList.length = s.size := by simp
  refine Gives.of (W.to (fun k _ => spec_l23Num.eq k _ _) ?_)
  have fin : ∀ (neg : Bool) (t : ByteArray), t.size ≤ 17 → num s.data.toList = digs neg t.data.toList → W (ι := Unit) (fun w σ' => w = .tuple [.int .i64 (num s.data.toList).1, .bool (num s.data.toList).2] ∧ Lh σ σ') (fun _ => False)
      (fun k _ => (spec_l23Num.L0 k k [.v (.str t), .v (.bool neg), .v (.int .i64 0), .v (.int .i64 0)] σ).bind (spec_l23Num.A0 k)) := fun neg t ht he => by
    rw [he]
    exact l23_loop ht neg
  have bad : num s.data.toList = (0, false) → W (ι := Unit) (fun w σ' => w = .tuple [.int .i64 (num s.data.toList).1, .bool (num s.data.toList).2] ∧ Lh σ σ') (fun _ => False) (fun k _ => some (.tuple [.int .i64 0, .bool false], σ)) := fun h => by
    rw [h]
    exact W.ret ⟨rfl, Lh.refl _⟩
  by_cases h0 : s.size = 0
  · have hl : s.data.toList = [] := List.eq_nil_of_length_eq_zero (by omega)
    try simp only [q_bind_some, castInt_int, q_castBool, q_castStr, q_castPtr, q_castFn, q_castAgg, q_castTuple, q_uncons, q_isNil, q_sl, q_nils, q_emp, q_ptr, q_nilp, q_fn, q_cond_true, q_cond_false, Bool.not_true, Bool.not_false, decide_true, decide_false, List.cons_append, List.nil_append, h0]
    exact bad (by rw [hl]; rfl)
  have hp : (0 : Int) < (s.size : Int) := by omega
  have hp' : 0 < s.size := by omega
  have hb0 : sbyte s 0 = some (s[0].toNat : Int) := sbyte_at hp'
  have hhead := ba_head s hp'
  have hne : s.data.toList ≠ [] := fun hc => by rw [hc] at hlen; simp at hlen; omega
  try simp only [q_bind_some, castInt_int, q_castBool, q_castStr, q_castPtr, q_castFn, q_castAgg, q_castTuple, q_uncons, q_isNil, q_sl, q_nils, q_emp, q_ptr, q_nilp, q_fn, q_cond_true, q_cond_false, Bool.not_true, Bool.not_false, decide_true, decide_false, List.cons_append, List.nil_append, hp, hb0]
  by_cases h45 : (s[0].toNat : Int) = 45
  · have hn : (s.data.toList.head? == some 45) = true := by
      rw [hhead, beq_iff_eq]
      congr 1
      apply UInt8.toNat_inj.1
      show s[0].toNat = 45
      omega
    have hnum : num s.data.toList = numD true (s.extract 1 s.size).data.toList := by unfold num; rw [hn, ext_tail]; rfl
    have hsub : ssub s (some 1) none = some (s.extract 1 s.size) := by
      unfold ssub
      simp only [Option.getD]
      rw [if_pos (by omega)]
      congr 1
    try simp only [q_bind_some, castInt_int, q_castBool, q_castStr, q_castPtr, q_castFn, q_castAgg, q_castTuple, q_uncons, q_isNil, q_sl, q_nils, q_emp, q_ptr, q_nilp, q_fn, q_cond_true, q_cond_false, Bool.not_true, Bool.not_false, decide_true, decide_false, List.cons_append, List.nil_append, h45, hsub]
    have htl : (s.extract 1 s.size).size = s.size - 1 := by simp
    generalize s.extract 1 s.size = t at hnum htl
    have htlen : t.data.toList.length = t.size := by simp
    by_cases t0 : t.size = 0
    · try simp only [q_bind_some, castInt_int, q_castBool, q_castStr, q_castPtr, q_castFn, q_castAgg, q_castTuple, q_uncons, q_isNil, q_sl, q_nils, q_emp, q_ptr, q_nilp, q_fn, q_cond_true, q_cond_false, Bool.not_true, Bool.not_false, decide_true, decide_false, List.cons_append, List.nil_append, t0]
      refine bad ?_
      rw [hnum, List.eq_nil_of_length_eq_zero (htlen.trans t0)]
      rfl
    have t0' : ¬ (t.size : Int) = 0 := by omega
    have tne : t.data.toList ≠ [] := fun hc => by rw [hc] at htlen; simp at htlen; omega
    by_cases t17 : 17 < t.size
    · have t17' : (17 : Int) < (t.size : Int) := by omega
      try simp only [q_bind_some, castInt_int, q_castBool, q_castStr, q_castPtr, q_castFn, q_castAgg, q_castTuple, q_uncons, q_isNil, q_sl, q_nils, q_emp, q_ptr, q_nilp, q_fn, q_cond_true, q_cond_false, Bool.not_true, Bool.not_false, decide_true, decide_false, List.cons_append, List.nil_append, t0', t17']
      refine bad ?_
      rw [hnum]
      unfold numD
      rw [if_neg tne, if_pos (by omega)]
    have t17' : ¬ (17 : Int) < (t.size : Int) := by omega
    have tp' : 0 < t.size := by omega
    have tb0 : sbyte t 0 = some (t[0].toNat : Int) := sbyte_at tp'
    have thead := ba_head t tp'
    try simp only [q_bind_some, castInt_int, q_castBool, q_castStr, q_castPtr, q_castFn, q_castAgg, q_castTuple, q_uncons, q_isNil, q_sl, q_nils, q_emp, q_ptr, q_nilp, q_fn, q_cond_true, q_cond_false, Bool.not_true, Bool.not_false, decide_true, decide_false, List.cons_append, List.nil_append, t0', t17', tb0]
    by_cases t48 : (t[0].toNat : Int) = 48
    · have th : t.data.toList.head? = some 48 := by
        rw [thead]
        congr 1
        apply UInt8.toNat_inj.1
        show t[0].toNat = 48
        omega
      have hz : num s.data.toList = (0, false) := by
        rw [hnum]
        unfold numD
        rw [if_neg tne, if_neg (by omega), if_pos ⟨th, .inr rfl⟩]
      try simp only [q_bind_some, castInt_int, q_castBool, q_castStr, q_castPtr, q_castFn, q_castAgg, q_castTuple, q_uncons, q_isNil, q_sl, q_nils, q_emp, q_ptr, q_nilp, q_fn, q_cond_true, q_cond_false, Bool.not_true, Bool.not_false, decide_true, decide_false, List.cons_append, List.nil_append, t48]
      by_cases t1 : (1 : Int) < (t.size : Int)
      · try simp only [q_bind_some, castInt_int, q_castBool, q_castStr, q_castPtr, q_castFn, q_castAgg, q_castTuple, q_uncons, q_isNil, q_sl, q_nils, q_emp, q_ptr, q_nilp, q_fn, q_cond_true, q_cond_false, Bool.not_true, Bool.not_false, decide_true, decide_false, List.cons_append, List.nil_append, t1]
        exact bad hz
      · try simp only [q_bind_some, castInt_int, q_castBool, q_castStr, q_castPtr, q_castFn, q_castAgg, q_castTuple, q_uncons, q_isNil, q_sl, q_nils, q_emp, q_ptr, q_nilp, q_fn, q_cond_true, q_cond_false, Bool.not_true, Bool.not_false, decide_true, decide_false, List.cons_append, List.nil_append, t1]
        exact bad hz
    · try simp only [q_bind_some, castInt_int, q_castBool, q_castStr, q_castPtr, q_castFn, q_castAgg, q_castTuple, q_uncons, q_isNil, q_sl, q_nils, q_emp, q_ptr, q_nilp, q_fn, q_cond_true, q_cond_false, Bool.not_true, Bool.not_false, decide_true, decide_false, List.cons_append, List.nil_append, t48]
      refine fin true t (by omega) ?_
      rw [hnum]
      refine numD_digs tne (by omega) (fun hc => t48 ?_)
      have := hc.1
      rw [thead] at this
      injection this with this
      rw [this]
      rfl
  · have hn : (s.data.toList.head? == some 45) = false := by
      rw [hhead, beq_eq_false_iff_ne]
      intro hc
      injection hc with hc
      apply h45
      rw [hc]
      rfl
    have hnum : num s.data.toList = numD false s.data.toList := by unfold num; rw [hn]; rfl
    have s0' : ¬ (s.size : Int) = 0 := by omega
    by_cases s17 : 17 < s.size
    · have s17' : (17 : Int) < (s.size : Int) := by omega
      try simp only [q_bind_some, castInt_int, q_castBool, q_castStr, q_castPtr, q_castFn, q_castAgg, q_castTuple, q_uncons, q_isNil, q_sl, q_nils, q_emp, q_ptr, q_nilp, q_fn, q_cond_true, q_cond_false, Bool.not_true, Bool.not_false, decide_true, decide_false, List.cons_append, List.nil_append, h45, s0', s17']
      refine bad ?_
      rw [hnum]
      unfold numD
      rw [if_neg hne, if_pos (by omega)]
    have s17' : ¬ (17 : Int) < (s.size : Int) := by omega
    try simp only [q_bind_some, castInt_int, q_castBool, q_castStr, q_castPtr, q_castFn, q_castAgg, q_castTuple, q_uncons, q_isNil, q_sl, q_nils, q_emp, q_ptr, q_nilp, q_fn, q_cond_true, q_cond_false, Bool.not_true, Bool.not_false, decide_true, decide_false, List.cons_append, List.nil_append, h45, s0', s17']
    by_cases s48 : (s[0].toNat : Int) = 48
    · have sh : s.data.toList.head? = some 48 := by
        rw [hhead]
        congr 1
        apply UInt8.toNat_inj.1
        show s[0].toNat = 48
        omega
      try simp only [q_bind_some, castInt_int, q_castBool, q_castStr, q_castPtr, q_castFn, q_castAgg, q_castTuple, q_uncons, q_isNil, q_sl, q_nils, q_emp, q_ptr, q_nilp, q_fn, q_cond_true, q_cond_false, Bool.not_true, Bool.not_false, decide_true, decide_false, List.cons_append, List.nil_append, s48]
      by_cases s1 : (1 : Int) < (s.size : Int)
      · try simp only [q_bind_some, castInt_int, q_castBool, q_castStr, q_castPtr, q_castFn, q_castAgg, q_castTuple, q_uncons, q_isNil, q_sl, q_nils, q_emp, q_ptr, q_nilp, q_fn, q_cond_true, q_cond_false, Bool.not_true, Bool.not_false, decide_true, decide_false, List.cons_append, List.nil_append, s1]
        refine bad ?_
        rw [hnum]
        unfold numD
        rw [if_neg hne, if_neg (by omega), if_pos ⟨sh, .inl (by omega)⟩]
      · try simp only [q_bind_some, castInt_int, q_castBool, q_castStr, q_castPtr, q_castFn, q_castAgg, q_castTuple, q_uncons, q_isNil, q_sl, q_nils, q_emp, q_ptr, q_nilp, q_fn, q_cond_true, q_cond_false, Bool.not_true, Bool.not_false, decide_true, decide_false, List.cons_append, List.nil_append, s1]
        refine fin false s (by omega) ?_
        rw [hnum]
        exact numD_digs hne (by omega) (fun hc => by
          rcases hc.2 with hx | hx
          · omega
          · cases hx)
    · try simp only [q_bind_some, castInt_int, q_castBool, q_castStr, q_castPtr, q_castFn, q_castAgg, q_castTuple, q_uncons, q_isNil, q_sl, q_nils, q_emp, q_ptr, q_nilp, q_fn, q_cond_true, q_cond_false, Bool.not_true, Bool.not_false, decide_true, decide_false, List.cons_append, List.nil_append, s48]
      refine fin false s (by omega) ?_
      rw [hnum]
      refine numD_digs hne (by omega) (fun hc => s48 ?_)
      have := hc.1
      rw [hhead] at this
      injection this with this
      rw [this]
      rfl
end Go.F

/- Numbers written in ten digits by the reference. -/
set_option linter.unusedVariables false
set_option linter.unusedSimpArgs false
namespace Go.F
open Go.HM Go.Proofs
theorem dec_next {m : Nat} (h : 9 < m) : Lib.decDigits m = Lib.decDigits (m / 10) ++ [UInt8.ofNat (48 + m % 10)] := by
  rw [Lib.decDigits, dif_neg (by omega)]
theorem push_ba (c : UInt8) : ByteArray.empty.push c = ba [c] := rfl
theorem l23Dec_loop {σ : Heap} (u : Nat) (hu : u ≤ 9223372036854775807) :
    W (ι := Unit) (fun w σ' => w = .str (ba (Lib.decDigits u)) ∧ Lh σ σ') (fun _ => False) (fun k _ => (spec_l23Dec.L0 k k [.v (.int .i64 (u : Int)), .v (.str (⟨#[]⟩ : ByteArray))] σ).bind (spec_l23Dec.A0 k)) := by
  have h0 : (⟨#[]⟩ : ByteArray) = ba [] := rfl
  have e62 : (2 : Nat) ^ 62 = 4611686018427387904 := by decide
  have hlen : (Lib.decDigits u).length ≤ 21 := by
    have := Lib.itoa_length_le (u : Int) (by omega) (by omega)
    unfold Lib.itoa at this
    rw [if_neg (by omega)] at this
    simpa using this
  rw [h0]
  refine W.loop (S := Nat × List UInt8) (fun s => s.1 ≤ u ∧ Lib.decDigits u = Lib.decDigits s.1 ++ s.2) (fun s => [.v (.int .i64 (s.1 : Int)), .v (.str (ba s.2))]) (fun _ => σ) (fun s => s.1) (fun ⟨m, L⟩ ⟨hm, hL⟩ => ?_)
    (u, []) ⟨Nat.le_refl _, by simp⟩
  simp only at hm hL ⊢
  have hl : L.length ≤ 21 := by
    have := congrArg List.length hL
    rw [List.length_append] at this
    omega
  refine W.to (fun k _ => by rw [spec_l23Dec.L0_step]) ?_
  refine B.ite (fun hlt => ?_) fun hlt => ?_
  · have hmm : 9 < m := by omega
    have h1 : Int.tmod (m : Int) 10 = ((m % 10 : Nat) : Int) := by rw [Int.tmod_eq_emod_of_nonneg (by omega)]; omega
    have h2 : Int.tdiv (m : Int) 10 = ((m / 10 : Nat) : Int) := by rw [Int.tdiv_eq_ediv_of_nonneg (by omega)]; omega
    have h3 : IntKind.wrap .u8 (IntKind.wrap .i64 (48 + ((m % 10 : Nat) : Int))) = ((48 + m % 10 : Nat) : Int) := by
      rw [wrap_id (by omega) (by omega)]
      have h4 : m % 10 < 10 := Nat.mod_lt _ (by omega)
      generalize m % 10 = d at h4
      have : d = 0 ∨ d = 1 ∨ d = 2 ∨ d = 3 ∨ d = 4 ∨ d = 5 ∨ d = 6 ∨ d = 7 ∨ d = 8 ∨ d = 9 := by omega
      rcases this with rfl | rfl | rfl | rfl | rfl | rfl | rfl | rfl | rfl | rfl <;> decide
    have h5 : IntKind.wrap .i64 ((m / 10 : Nat) : Int) = ((m / 10 : Nat) : Int) := wrap_id (by omega) (by omega)
    have z : (ba [UInt8.ofNat (48 + m % 10)]).size + (ba L).size ≤ 2 ^ 62 := by rw [ba_size, ba_size, e62]; simp only [List.length_cons, List.length_nil]; omega
    have d1 : ∀ L : List UInt8, (ba L).data.toList = L := fun L => rfl
    try simp only [q_bind_some, castInt_int, q_castBool, q_castStr, q_castPtr, q_castFn, q_castAgg, q_castTuple, q_uncons, q_isNil, q_sl, q_nils, q_emp, q_ptr, q_nilp, q_fn, q_cond_true, q_cond_false, Bool.not_true, Bool.not_false, decide_true, decide_false, List.cons_append, List.nil_append, h1, h2, h3, h5, bytesOf, Int.toNat_natCast, push_ba, z, if_true, ba_app, d1]
    exact W.again (m / 10, UInt8.ofNat (48 + m % 10) :: L) ⟨by show m / 10 ≤ u; omega, by rw [hL, dec_next hmm]; simp⟩ (by simp only; omega) rfl rfl
  · have hm9 : m < 10 := by omega
    have h3 : IntKind.wrap .u8 (IntKind.wrap .i64 (48 + (m : Int))) = ((48 + m : Nat) : Int) := by
      rw [wrap_id (by omega) (by omega)]
      have : m = 0 ∨ m = 1 ∨ m = 2 ∨ m = 3 ∨ m = 4 ∨ m = 5 ∨ m = 6 ∨ m = 7 ∨ m = 8 ∨ m = 9 := by omega
      rcases this with rfl | rfl | rfl | rfl | rfl | rfl | rfl | rfl | rfl | rfl <;> decide
    have z : (ba [UInt8.ofNat (48 + m)]).size + (ba L).size ≤ 2 ^ 62 := by rw [ba_size, ba_size, e62]; simp only [List.length_cons, List.length_nil]; omega
    have d1 : ∀ L : List UInt8, (ba L).data.toList = L := fun L => rfl
    try simp only [q_bind_some, castInt_int, q_castBool, q_castStr, q_castPtr, q_castFn, q_castAgg, q_castTuple, q_uncons, q_isNil, q_sl, q_nils, q_emp, q_ptr, q_nilp, q_fn, q_cond_true, q_cond_false, Bool.not_true, Bool.not_false, decide_true, decide_false, List.cons_append, List.nil_append, spec_l23Dec.A0_x0, h3, bytesOf, Int.toNat_natCast, push_ba, z, if_true, ba_app, d1]
    exact W.ret ⟨by rw [hL, Lib.decDigits_one hm9]; rfl, Lh.refl _⟩
theorem l23Dec_gives (σ : Heap) {n : Int} (h0 : -9223372036854775808 ≤ n) (h1 : n ≤ 9223372036854775807) : Gives G n_spec_l23Dec [.int .i64 n] σ (.str (ba (Lib.itoa n))) := by
  have pos : ∀ u : Nat, u ≤ 9223372036854775807 → Gives G n_spec_l23Dec [.int .i64 (u : Int)] σ (.str (ba (Lib.decDigits u))) := fun u hu => by
    refine Gives.of (W.to (fun k _ => spec_l23Dec.eq k _ _) ?_)
    refine W.ite (fun hc => by omega) fun _ => ?_
    refine W.ite (fun hc => by omega) fun _ => ?_
    exact l23Dec_loop u hu
  by_cases hn : n < 0
  rotate_left
  · obtain ⟨u, rfl⟩ : ∃ u : Nat, n = (u : Int) := ⟨n.toNat, by omega⟩
    rw [Lib.itoa_nonneg]
    exact pos u (by omega)
  have e62 : (2 : Nat) ^ 62 = 4611686018427387904 := by decide
  refine Gives.of (W.to (fun k _ => spec_l23Dec.eq k _ _) ?_)
  refine W.ite (fun hc => ?_) fun hc => ?_
  · obtain rfl : n = -9223372036854775808 := by omega
    refine W.ret ⟨?_, Lh.refl _⟩
    have : Lib.itoa (-9223372036854775808) = [45, 57, 50, 50, 51, 51, 55, 50, 48, 51, 54, 56, 53, 52, 55, 55, 53, 56, 48, 56] := by
      unfold Lib.itoa
      rw [if_pos (by omega)]
      show 45 :: Lib.decDigits 9223372036854775808 = _
      rw [dec_next (by decide), dec_next (by decide), dec_next (by decide), dec_next (by decide), dec_next (by decide), dec_next (by decide), dec_next (by decide), dec_next (by decide), dec_next (by decide), dec_next (by decide), dec_next (by decide), dec_next (by decide), dec_next (by decide), dec_next (by decide), dec_next (by decide), dec_next (by decide), dec_next (by decide), dec_next (by decide), Lib.decDigits_one (by decide)]
      decide
    rw [this]
    rfl
  obtain ⟨u, rfl⟩ : ∃ u : Nat, n = -(u : Int) := ⟨(-n).toNat, by omega⟩
  refine W.ite (fun _ => ?_) fun hc => by omega
  have hw : IntKind.wrap .i64 (0 - -(u : Int)) = (u : Int) := by rw [wrap_id (by omega) (by omega)]; omega
  try simp only [q_bind_some, castInt_int, q_castBool, q_castStr, q_castPtr, q_castFn, q_castAgg, q_castTuple, q_uncons, q_isNil, q_sl, q_nils, q_emp, q_ptr, q_nilp, q_fn, q_cond_true, q_cond_false, Bool.not_true, Bool.not_false, decide_true, decide_false, List.cons_append, List.nil_append, hw]
  refine W.give (pos u (by omega)) fun σ1 l1 => ?_
  have hlen : (Lib.decDigits u).length ≤ 21 := by
    have := Lib.itoa_length_le (u : Int) (by omega) (by omega)
    rw [Lib.itoa_nonneg] at this
    exact this
  have k1 : (⟨#[45]⟩ : ByteArray) = ba [45] := rfl
  have z : (ba [45]).size + (ba (Lib.decDigits u)).size ≤ 2 ^ 62 := by rw [ba_size, ba_size, e62]; simp only [List.length_cons, List.length_nil]; omega
  have d1 : ∀ L : List UInt8, (ba L).data.toList = L := fun L => rfl
  try simp only [q_bind_some, castInt_int, q_castBool, q_castStr, q_castPtr, q_castFn, q_castAgg, q_castTuple, q_uncons, q_isNil, q_sl, q_nils, q_emp, q_ptr, q_nilp, q_fn, q_cond_true, q_cond_false, Bool.not_true, Bool.not_false, decide_true, decide_false, List.cons_append, List.nil_append, k1, z, if_true, ba_app, d1]
  exact W.ret ⟨by rw [Lib.itoa_neg u (by omega)], l1⟩
end Go.F

/- Types and short numbers. -/
set_option linter.unusedVariables false
set_option linter.unusedSimpArgs false
set_option maxRecDepth 100000
namespace Go.F
open Go.HM Go.Proofs
theorem isType_runs {σ : Heap} (n : Int) : Runs G n_impl_isType [.int .i64 n] σ (.bool (decide (1 ≤ n ∧ n ≤ 3))) σ :=
  Runs.mk ((inRange_runs (σ := σ) n 1 3).mono fun k e => by rw [impl_isType.eq]; simp only [e, Option.bind_some, castBool_bool])
theorem isShort_runs {σ : Heap} (n : Int) : Runs G n_impl_isShort [.int .i64 n] σ (.bool (decide (-99999999999999999 ≤ n ∧ n ≤ 99999999999999999))) σ :=
  Runs.mk ((inRange_runs (σ := σ) n (-99999999999999999) 99999999999999999).mono fun k e => by rw [impl_isShort.eq]; simp only [e, Option.bind_some, castBool_bool])
theorem treeType_gives (σ : Heap) (n : Int) : ∃ s : ByteArray, (s = ⟨#[]⟩ ↔ ¬ (1 ≤ n ∧ n ≤ 3)) ∧ Gives G n_spec_TreeType [.int .i64 n] σ (.str s) := by
  by_cases h1 : n < 1
  · refine ⟨⟨#[]⟩, by simp; omega, Gives.mk (Lh.refl σ) (Ev.now fun k => ?_)⟩
    rw [spec_TreeType.eq]
    simp only [h1, decide_true, cond_true]
  by_cases h2 : 3 < n
  · refine ⟨⟨#[]⟩, by simp; omega, Gives.mk (Lh.refl σ) (Ev.now fun k => ?_)⟩
    rw [spec_TreeType.eq]
    simp only [h1, h2, decide_true, cond_true, decide_false, cond_false]
  have hl : RepS 1 StrRep (hnew σ 1 (([⟨#[105, 110, 116]⟩, ⟨#[98, 111, 111, 108]⟩, ⟨#[114, 111, 119]⟩] : List ByteArray).map .str)) (.sl σ.length 0 3 true) [⟨#[105, 110, 116]⟩, ⟨#[98, 111, 111, 108]⟩, ⟨#[114, 111, 119]⟩] := RepS.lit σ _ .str (fun _ => rfl) true 3 rfl
  obtain ⟨i, rfl⟩ : ∃ i : Nat, n = (i : Int) + 1 := ⟨(n - 1).toNat, by omega⟩
  have hi : i < 3 := by omega
  obtain ⟨r, o, hv, cs, hr, hP⟩ := hl.at (i := i) hi
  unfold StrRep at hP
  subst hP
  have hw : IntKind.wrap .i64 ((i : Int) + 1 - 1) = (i : Int) := by rw [wrap_id (by omega) (by omega)]; omega
  refine ⟨([⟨#[105, 110, 116]⟩, ⟨#[98, 111, 111, 108]⟩, ⟨#[114, 111, 119]⟩] : List ByteArray)[i]'hi, ?_, Gives.mk (σ' := hnew σ 1 (([⟨#[105, 110, 116]⟩, ⟨#[98, 111, 111, 108]⟩, ⟨#[114, 111, 119]⟩] : List ByteArray).map .str)) (Lh.new _ _ _) (Ev.now fun k => ?_)⟩
  · have : i = 0 ∨ i = 1 ∨ i = 2 := by omega
    rcases this with rfl | rfl | rfl <;> simp <;> decide
  · rw [spec_TreeType.eq]
    simp only [h1, h2, decide_false, cond_false, hw, hv, Option.bind_some]
    change (rdc (hnew σ 1 (([⟨#[105, 110, 116]⟩, ⟨#[98, 111, 111, 108]⟩, ⟨#[114, 111, 119]⟩] : List ByteArray).map .str)) r o 1).bind _ = _
    rw [hr]
    rfl
end Go.F

/- Objects that are right: ObjOk of both. -/
set_option linter.unusedVariables false
set_option linter.unusedSimpArgs false
namespace Go.F
open Go.HM Go.Proofs
def InsOk (x : CodeIns) : Prop := (x.op = 1 ∧ -99999999999999999 ≤ x.a ∧ x.a ≤ 99999999999999999) ∨ (x.op = 2 ∧ 0 ≤ x.a ∧ x.a ≤ 1) ∨ (x.op = 9 ∧ x.a = 0) ∨ (x.op ≠ 1 ∧ x.op ≠ 2 ∧ x.op ≠ 9 ∧ 1 ≤ x.op ∧ x.op ≤ 10 ∧ 0 ≤ x.a ∧ x.a ≤ 1000)
instance (x : CodeIns) : Decidable (InsOk x) := inferInstanceAs (Decidable (_ ∨ _))
def mainW : ByteArray := ⟨#[109, 97, 105, 110]⟩
def HeadIs (name : ByteArray) (args : List Int) (type slots : Int) : Prop := (IsName name ∨ name = mainW) ∧ Typs args ∧ IsT type ∧ 0 ≤ slots ∧ slots ≤ 1000
noncomputable instance (name : ByteArray) (args : List Int) (type slots : Int) : Decidable (HeadIs name args type slots) := Classical.propDecidable _
def CFunOk (f : CodeFun) : Prop := HeadIs f.name f.args f.type f.slots ∧ ∀ x, x ∈ f.code → InsOk x
noncomputable instance (f : CodeFun) : Decidable (CFunOk f) := Classical.propDecidable _
theorem slices_IndexFunc_impl_CodeIns_impl_CodeIns_gives {σ : Heap} {v : V} {l : List CodeIns} (hf : l.length ≤ 1073741824) (h : RepS 2 (CodeIns.Rep σ) σ v l) (f : FuncId) (cap : List V) (p : CodeIns → Bool)
    (hx : ∀ x, x ∈ l → ∀ σ' cs, Lh σ σ' → CodeIns.Rep σ' cs x → Gives G f ([.agg cs] ++ cap) σ' (.bool (p x))) : Gives G n_slices_IndexFunc_impl_CodeIns_impl_CodeIns [v, .fn f cap] σ (.int .i64 (fidx p l)) := by
  refine Gives.of (W.to (fun k _ => slices_IndexFunc_impl_CodeIns_impl_CodeIns.eq k _ _ _) ?_)
  refine W.len h ?_
  refine W.loop (S := Nat × Heap) (fun s => s.1 ≤ l.length ∧ Lh σ s.2 ∧ ∀ (j : Nat) y, j < s.1 → l[j]? = some y → p y = false) (fun s => [.v v, .v (.fn f cap), .v (.int .i64 (l.length : Int)), .v (.int .i64 (s.1 : Int))]) (fun s => s.2) (fun s => l.length - s.1) (fun ⟨i, σi⟩ ⟨hi, hle, hok⟩ => ?_)
    (0, σ) ⟨Nat.zero_le _, Lh.refl _, fun j y hj => absurd hj (Nat.not_lt_zero _)⟩
  simp only at hi hle hok ⊢
  refine W.to (fun k _ => by rw [slices_IndexFunc_impl_CodeIns_impl_CodeIns.L0_step]) ?_
  try simp only [q_bind_some, Option.bind_assoc, castInt_int, q_castBool, q_castStr, q_castPtr, q_castFn, q_castAgg, q_castTuple, q_uncons, q_isNil, q_sl, q_nils, q_emp, q_ptr, q_nilp, q_fn, q_cond_true, q_cond_false, Bool.not_true, Bool.not_false, decide_true, decide_false, castInt_bind, castBool_bind, castStr_bind, castPtr_bind, castFn_bind, castAgg_bind, castTuple_bind, uncons_bind, isNil_bind, one_bind, cond_bind, ite_bind_, List.cons_append, List.nil_append]
  refine W.ite (fun hlt => ?_) fun hlt => ?_
  · refine W.at h hle (by omega) fun r o cs x hx' hr hP => ?_
    have hm := List.mem_of_getElem? hx'
    have hc := hx x hm σi cs hle (CodeIns.Rep.le hle hP)
    cases hP with
    | mk =>
    try simp only [q_bind_some, Option.bind_assoc, castInt_int, q_castBool, q_castStr, q_castPtr, q_castFn, q_castAgg, q_castTuple, q_uncons, q_isNil, q_sl, q_nils, q_emp, q_ptr, q_nilp, q_fn, q_cond_true, q_cond_false, Bool.not_true, Bool.not_false, decide_true, decide_false, castInt_bind, castBool_bind, castStr_bind, castPtr_bind, castFn_bind, castAgg_bind, castTuple_bind, uncons_bind, isNil_bind, one_bind, cond_bind, ite_bind_, List.cons_append, List.nil_append, hr]
    refine W.give hc fun σ1 l1 => ?_
    try simp only [q_bind_some, Option.bind_assoc, castInt_int, q_castBool, q_castStr, q_castPtr, q_castFn, q_castAgg, q_castTuple, q_uncons, q_isNil, q_sl, q_nils, q_emp, q_ptr, q_nilp, q_fn, q_cond_true, q_cond_false, Bool.not_true, Bool.not_false, decide_true, decide_false, castInt_bind, castBool_bind, castStr_bind, castPtr_bind, castFn_bind, castAgg_bind, castTuple_bind, uncons_bind, isNil_bind, one_bind, cond_bind, ite_bind_, List.cons_append, List.nil_append]
    cases hb : p x with
    | true =>
      try simp only [q_bind_some, Option.bind_assoc, castInt_int, q_castBool, q_castStr, q_castPtr, q_castFn, q_castAgg, q_castTuple, q_uncons, q_isNil, q_sl, q_nils, q_emp, q_ptr, q_nilp, q_fn, q_cond_true, q_cond_false, Bool.not_true, Bool.not_false, decide_true, decide_false, castInt_bind, castBool_bind, castStr_bind, castPtr_bind, castFn_bind, castAgg_bind, castTuple_bind, uncons_bind, isNil_bind, one_bind, cond_bind, ite_bind_, List.cons_append, List.nil_append, slices_IndexFunc_impl_CodeIns_impl_CodeIns.A0_ret]
      exact W.ret ⟨by rw [fidx_at hx' hb hok], hle.trans l1⟩
    | false =>
      try simp only [q_bind_some, Option.bind_assoc, castInt_int, q_castBool, q_castStr, q_castPtr, q_castFn, q_castAgg, q_castTuple, q_uncons, q_isNil, q_sl, q_nils, q_emp, q_ptr, q_nilp, q_fn, q_cond_true, q_cond_false, Bool.not_true, Bool.not_false, decide_true, decide_false, castInt_bind, castBool_bind, castStr_bind, castPtr_bind, castFn_bind, castAgg_bind, castTuple_bind, uncons_bind, isNil_bind, one_bind, cond_bind, ite_bind_, List.cons_append, List.nil_append, wrap_next (show i < l.length by omega) (by omega)]
      refine W.again (i + 1, σ1) ⟨by show i + 1 ≤ l.length; omega, hle.trans l1, fun j y hj hy => ?_⟩ (by simp only; omega) rfl rfl
      simp only at hj
      by_cases hij : j = i
      · subst hij
        rw [hx'] at hy
        injection hy with hy
        rw [← hy]; exact hb
      · exact hok j y (by omega) hy
  · try simp only [q_bind_some, Option.bind_assoc, castInt_int, q_castBool, q_castStr, q_castPtr, q_castFn, q_castAgg, q_castTuple, q_uncons, q_isNil, q_sl, q_nils, q_emp, q_ptr, q_nilp, q_fn, q_cond_true, q_cond_false, Bool.not_true, Bool.not_false, decide_true, decide_false, castInt_bind, castBool_bind, castStr_bind, castPtr_bind, castFn_bind, castAgg_bind, castTuple_bind, uncons_bind, isNil_bind, one_bind, cond_bind, ite_bind_, List.cons_append, List.nil_append, slices_IndexFunc_impl_CodeIns_impl_CodeIns.A0_x0]
    exact W.ret ⟨by rw [fidx_none fun j y hy => hok j y (by have := lt_of_get hy; omega) hy], hle⟩

theorem slices_ContainsFunc_impl_CodeIns_impl_CodeIns_gives {σ : Heap} {v : V} {l : List CodeIns} (hf : l.length ≤ 1073741824) (h : RepS 2 (CodeIns.Rep σ) σ v l) (f : FuncId) (cap : List V) (p : CodeIns → Bool)
    (hx : ∀ x, x ∈ l → ∀ σ' cs, Lh σ σ' → CodeIns.Rep σ' cs x → Gives G f ([.agg cs] ++ cap) σ' (.bool (p x))) : Gives G n_slices_ContainsFunc_impl_CodeIns_impl_CodeIns [v, .fn f cap] σ (.bool (l.any p)) := by
  refine Gives.of (W.to (fun k _ => slices_ContainsFunc_impl_CodeIns_impl_CodeIns.eq k _ _ _) ?_)
  refine W.give (slices_IndexFunc_impl_CodeIns_impl_CodeIns_gives hf h f cap p hx) fun σ1 l1 => ?_
  try simp only [q_bind_some, Option.bind_assoc, castInt_int, q_castBool, q_castStr, q_castPtr, q_castFn, q_castAgg, q_castTuple, q_uncons, q_isNil, q_sl, q_nils, q_emp, q_ptr, q_nilp, q_fn, q_cond_true, q_cond_false, Bool.not_true, Bool.not_false, decide_true, decide_false, castInt_bind, castBool_bind, castStr_bind, castPtr_bind, castFn_bind, castAgg_bind, castTuple_bind, uncons_bind, isNil_bind, one_bind, cond_bind, ite_bind_, List.cons_append, List.nil_append, fidx_any]
  exact W.ret ⟨rfl, l1⟩

theorem headOk_gives {σ : Heap} (s : ByteArray) (hs : s.size ≤ 9223372036854775807) {v : V} {l : List Int} (h : RepS 1 IntRep σ v l) (n m : Int) : Gives G n_impl_headOk [.str s, v, .int .i64 n, .int .i64 m] σ (.bool (decide (HeadIs s l n m))) := by
  refine Gives.of (W.to (fun k _ => impl_headOk.eq k _ _ _ _ _) ?_)
  refine W.give (implLexName_gives σ s hs) fun σ1 l1 => ?_
  try simp only [q_bind_some, Option.bind_assoc, castInt_int, q_castBool, q_castStr, q_castPtr, q_castFn, q_castAgg, q_castTuple, q_uncons, q_isNil, q_sl, q_nils, q_emp, q_ptr, q_nilp, q_fn, q_cond_true, q_cond_false, Bool.not_true, Bool.not_false, decide_true, decide_false, castInt_bind, castBool_bind, castStr_bind, castPtr_bind, castFn_bind, castAgg_bind, castTuple_bind, uncons_bind, isNil_bind, one_bind, cond_bind, ite_bind_, List.cons_append, List.nil_append]
  have rest : ∀ {Next : Cmp Unit → Prop}, (IsName s ∨ s = mainW) → W (fun w σ' => w = .bool (decide (HeadIs s l n m)) ∧ Lh σ σ') Next (fun k _ => (hcall G k n_impl_areTypes [v] σ1).bind fun q7 => castBool q7.1 fun b8 => bif b8 then ((hcall G k n_impl_isType [.int .i64 n] q7.2).bind fun q9 => castBool q9.1 fun b10 => bif b10 then ((hcall G k n_impl_inRange [.int .i64 m, .int .i64 0, .int .i64 1000] q9.2).bind fun q11 => castBool q11.1 fun b12 => some (.bool b12, q11.2)) else (some (.bool false, q9.2))) else (some (.bool false, q7.2))) := by
    intro Next hn
    refine W.give (areTypes_gives (h.le l1)) fun σ2 l2 => ?_
    try simp only [q_bind_some, Option.bind_assoc, castInt_int, q_castBool, q_castStr, q_castPtr, q_castFn, q_castAgg, q_castTuple, q_uncons, q_isNil, q_sl, q_nils, q_emp, q_ptr, q_nilp, q_fn, q_cond_true, q_cond_false, Bool.not_true, Bool.not_false, decide_true, decide_false, castInt_bind, castBool_bind, castStr_bind, castPtr_bind, castFn_bind, castAgg_bind, castTuple_bind, uncons_bind, isNil_bind, one_bind, cond_bind, ite_bind_, List.cons_append, List.nil_append]
    refine W.ite (fun k1 => ?_) fun k1 => ?_
    · refine W.run (isT_runs n) ?_
      try simp only [q_bind_some, Option.bind_assoc, castInt_int, q_castBool, q_castStr, q_castPtr, q_castFn, q_castAgg, q_castTuple, q_uncons, q_isNil, q_sl, q_nils, q_emp, q_ptr, q_nilp, q_fn, q_cond_true, q_cond_false, Bool.not_true, Bool.not_false, decide_true, decide_false, castInt_bind, castBool_bind, castStr_bind, castPtr_bind, castFn_bind, castAgg_bind, castTuple_bind, uncons_bind, isNil_bind, one_bind, cond_bind, ite_bind_, List.cons_append, List.nil_append]
      refine W.ite (fun k2 => ?_) fun k2 => ?_
      · refine W.run (inRange_runs m 0 1000) ?_
        try simp only [q_bind_some, Option.bind_assoc, castInt_int, q_castBool, q_castStr, q_castPtr, q_castFn, q_castAgg, q_castTuple, q_uncons, q_isNil, q_sl, q_nils, q_emp, q_ptr, q_nilp, q_fn, q_cond_true, q_cond_false, Bool.not_true, Bool.not_false, decide_true, decide_false, castInt_bind, castBool_bind, castStr_bind, castPtr_bind, castFn_bind, castAgg_bind, castTuple_bind, uncons_bind, isNil_bind, one_bind, cond_bind, ite_bind_, List.cons_append, List.nil_append]
        exact W.ret ⟨dec_iff (show HeadIs s l n m ↔ (0 ≤ m ∧ m ≤ 1000) from ⟨fun h => h.2.2.2, fun h => ⟨hn, k1, k2, h⟩⟩), l1.trans l2⟩
      · exact W.ret ⟨by rw [decide_eq_false (fun h : HeadIs s l n m => k2 h.2.2.1)], l1.trans l2⟩
    · exact W.ret ⟨by rw [decide_eq_false (fun h : HeadIs s l n m => k1 h.2.1)], l1.trans l2⟩
  refine W.ite (fun k1 => rest (.inl k1)) fun k1 => W.ite (fun k2 => rest (.inr k2)) fun k2 => ?_
  exact W.ret ⟨by rw [decide_eq_false (fun h : HeadIs s l n m => h.1.elim k1 k2)], l1⟩
theorem insOk_runs {σ : Heap} {x : CodeIns} {cs : List V} (h : CodeIns.Rep σ cs x) : Runs G n_impl_insOk [.agg cs] σ (.bool (decide (InsOk x))) σ := by
  cases h with
  | mk =>
  refine Runs.of (W.to (fun k _ => impl_insOk.eq k _ _ _) ?_)
  refine W.ite (fun k1 => ?_) fun k1 => W.ite (fun k2 => ?_) fun k2 => W.ite (fun k3 => ?_) fun k3 => ?_
  · refine W.run (isShort_runs _) ?_
    try simp only [q_bind_some, Option.bind_assoc, castInt_int, q_castBool, q_castStr, q_castPtr, q_castFn, q_castAgg, q_castTuple, q_uncons, q_isNil, q_sl, q_nils, q_emp, q_ptr, q_nilp, q_fn, q_cond_true, q_cond_false, Bool.not_true, Bool.not_false, decide_true, decide_false, castInt_bind, castBool_bind, castStr_bind, castPtr_bind, castFn_bind, castAgg_bind, castTuple_bind, uncons_bind, isNil_bind, one_bind, cond_bind, ite_bind_, List.cons_append, List.nil_append]
    exact W.ret ⟨by simp [InsOk, k1], rfl⟩
  · refine W.run (inRange_runs _ _ _) ?_
    try simp only [q_bind_some, Option.bind_assoc, castInt_int, q_castBool, q_castStr, q_castPtr, q_castFn, q_castAgg, q_castTuple, q_uncons, q_isNil, q_sl, q_nils, q_emp, q_ptr, q_nilp, q_fn, q_cond_true, q_cond_false, Bool.not_true, Bool.not_false, decide_true, decide_false, castInt_bind, castBool_bind, castStr_bind, castPtr_bind, castFn_bind, castAgg_bind, castTuple_bind, uncons_bind, isNil_bind, one_bind, cond_bind, ite_bind_, List.cons_append, List.nil_append]
    exact W.ret ⟨by simp [InsOk, k2], rfl⟩
  · exact W.ret ⟨by simp [InsOk, k3], rfl⟩
  · refine W.run (inRange_runs _ _ _) ?_
    try simp only [q_bind_some, Option.bind_assoc, castInt_int, q_castBool, q_castStr, q_castPtr, q_castFn, q_castAgg, q_castTuple, q_uncons, q_isNil, q_sl, q_nils, q_emp, q_ptr, q_nilp, q_fn, q_cond_true, q_cond_false, Bool.not_true, Bool.not_false, decide_true, decide_false, castInt_bind, castBool_bind, castStr_bind, castPtr_bind, castFn_bind, castAgg_bind, castTuple_bind, uncons_bind, isNil_bind, one_bind, cond_bind, ite_bind_, List.cons_append, List.nil_append]
    refine W.ite (fun k4 => ?_) fun k4 => ?_
    · refine W.run (inRange_runs _ _ _) ?_
      try simp only [q_bind_some, Option.bind_assoc, castInt_int, q_castBool, q_castStr, q_castPtr, q_castFn, q_castAgg, q_castTuple, q_uncons, q_isNil, q_sl, q_nils, q_emp, q_ptr, q_nilp, q_fn, q_cond_true, q_cond_false, Bool.not_true, Bool.not_false, decide_true, decide_false, castInt_bind, castBool_bind, castStr_bind, castPtr_bind, castFn_bind, castAgg_bind, castTuple_bind, uncons_bind, isNil_bind, one_bind, cond_bind, ite_bind_, List.cons_append, List.nil_append]
      exact W.ret ⟨by simp [InsOk, k1, k2, k3, k4], rfl⟩
    · exact W.ret ⟨by
        have : ¬ InsOk x := by
          rintro (h | h | h | h)
          · exact k1 h.1
          · exact k2 h.1
          · exact k3 h.1
          · exact k4 ⟨h.2.2.2.1, h.2.2.2.2.1⟩
        rw [decide_eq_false this], rfl⟩
theorem l8Ins_runs {σ : Heap} {x : CodeIns} {cs : List V} (h : CodeIns.Rep σ cs x) : Runs G n_spec_l8Ins [.agg cs] σ (.bool (decide (InsOk x))) σ := by
  cases h with
  | mk =>
  refine Runs.of (W.to (fun k _ => spec_l8Ins.eq k _ _ _) ?_)
  have fin : ∀ {b : Bool} {Next : Cmp Unit → Prop}, (b = true ↔ InsOk x) → W (fun w σ' => w = .bool (decide (InsOk x)) ∧ σ' = σ) Next (fun _ _ => some (.bool b, σ)) := fun {b Next} hb => W.ret ⟨by congr 1; rw [Bool.eq_iff_iff, hb]; simp, rfl⟩
  refine W.ite (fun k1 => W.ite (fun k2 => fin ?_) fun k2 => fin ?_) fun k1 => W.ite (fun k2 => W.ite (fun k3 => fin ?_) fun k3 => fin ?_) fun k2 => W.ite (fun k3 => fin ?_) fun k3 => W.ite (fun k4 => W.ite (fun k5 => W.ite (fun k6 => fin ?_) fun k6 => fin ?_) fun k5 => fin ?_) fun k4 => fin ?_
  all_goals simp only [InsOk, decide_eq_true_eq, Bool.false_eq_true]
  all_goals (constructor <;> intro h <;> first | exact h.elim | trivial | omega)
theorem l8Name_gives {σ : Heap} (s : ByteArray) (hs : s.size ≤ 9223372036854775807) : Gives G n_spec_l8Name [.str s] σ (.bool (decide (IsName s ∨ s = mainW))) := by
  refine Gives.of (W.to (fun k _ => spec_l8Name.eq k _ _) ?_)
  refine W.give (specLexName_gives σ s hs) fun σ1 l1 => ?_
  try simp only [q_bind_some, Option.bind_assoc, castInt_int, q_castBool, q_castStr, q_castPtr, q_castFn, q_castAgg, q_castTuple, q_uncons, q_isNil, q_sl, q_nils, q_emp, q_ptr, q_nilp, q_fn, q_cond_true, q_cond_false, Bool.not_true, Bool.not_false, decide_true, decide_false, castInt_bind, castBool_bind, castStr_bind, castPtr_bind, castFn_bind, castAgg_bind, castTuple_bind, uncons_bind, isNil_bind, one_bind, cond_bind, ite_bind_, List.cons_append, List.nil_append]
  refine W.ite (fun k1 => W.ret ⟨by rw [decide_eq_true (.inl k1)], l1⟩) fun k1 => W.ret ⟨?_, l1⟩
  exact dec_iff (show (IsName s ∨ s = mainW) ↔ s = mainW from ⟨fun h => h.resolve_left k1, .inr⟩)
theorem l8Fun_gives {σ : Heap} {f : CodeFun} (hs : f.name.size ≤ 9223372036854775807) (hl1 : f.args.length ≤ 1048576) (hl2 : f.code.length ≤ 1048576) {cs : List V} (h : CodeFun.Rep σ cs f) : Gives G n_spec_l8Fun [.agg cs] σ (.bool (decide (CFunOk f ∧ f.code.length ≤ 460))) := by
  cases h with
  | mk h0 h1 =>
  rename_i b0 b1
  have no : ∀ {ι : Type} {σ' : Heap} {Next : Cmp ι → Prop}, ¬ (CFunOk f ∧ f.code.length ≤ 460) → Lh σ σ' → W (fun w σ' => w = .bool (decide (CFunOk f ∧ f.code.length ≤ 460)) ∧ Lh σ σ') Next (fun _ _ => some (.bool false, σ')) := fun h l => W.ret ⟨by rw [decide_eq_false h], l⟩
  refine Gives.of (W.to (fun k _ => spec_l8Fun.eq k _ _ _ _ _ _ _) ?_)
  refine W.give (l8Name_gives f.name hs) fun σ1 l1 => ?_
  try simp only [q_bind_some, Option.bind_assoc, castInt_int, q_castBool, q_castStr, q_castPtr, q_castFn, q_castAgg, q_castTuple, q_uncons, q_isNil, q_sl, q_nils, q_emp, q_ptr, q_nilp, q_fn, q_cond_true, q_cond_false, Bool.not_true, Bool.not_false, decide_true, decide_false, castInt_bind, castBool_bind, castStr_bind, castPtr_bind, castFn_bind, castAgg_bind, castTuple_bind, uncons_bind, isNil_bind, one_bind, cond_bind, ite_bind_, List.cons_append, List.nil_append]
  by_cases hN : IsName f.name ∨ f.name = mainW
  rotate_left
  · try simp only [q_bind_some, Option.bind_assoc, castInt_int, q_castBool, q_castStr, q_castPtr, q_castFn, q_castAgg, q_castTuple, q_uncons, q_isNil, q_sl, q_nils, q_emp, q_ptr, q_nilp, q_fn, q_cond_true, q_cond_false, Bool.not_true, Bool.not_false, decide_true, decide_false, castInt_bind, castBool_bind, castStr_bind, castPtr_bind, castFn_bind, castAgg_bind, castTuple_bind, uncons_bind, isNil_bind, one_bind, cond_bind, ite_bind_, List.cons_append, List.nil_append, hN]
    exact no (fun h => hN h.1.1.1) l1
  try simp only [q_bind_some, Option.bind_assoc, castInt_int, q_castBool, q_castStr, q_castPtr, q_castFn, q_castAgg, q_castTuple, q_uncons, q_isNil, q_sl, q_nils, q_emp, q_ptr, q_nilp, q_fn, q_cond_true, q_cond_false, Bool.not_true, Bool.not_false, decide_true, decide_false, castInt_bind, castBool_bind, castStr_bind, castPtr_bind, castFn_bind, castAgg_bind, castTuple_bind, uncons_bind, isNil_bind, one_bind, cond_bind, ite_bind_, List.cons_append, List.nil_append, hN]
  refine W.len h0 (W.ite (fun k1 => no (fun h => by have := h.1.1.2.1.1; omega) l1) fun k1 => ?_)
  obtain ⟨st, hst, ct⟩ := treeType_gives σ1 f.type
  refine W.give ct fun σ2 l2 => ?_
  try simp only [q_bind_some, Option.bind_assoc, castInt_int, q_castBool, q_castStr, q_castPtr, q_castFn, q_castAgg, q_castTuple, q_uncons, q_isNil, q_sl, q_nils, q_emp, q_ptr, q_nilp, q_fn, q_cond_true, q_cond_false, Bool.not_true, Bool.not_false, decide_true, decide_false, castInt_bind, castBool_bind, castStr_bind, castPtr_bind, castFn_bind, castAgg_bind, castTuple_bind, uncons_bind, isNil_bind, one_bind, cond_bind, ite_bind_, List.cons_append, List.nil_append]
  have l02 := l1.trans l2
  refine W.ite (fun k2 => no (fun h => hst.1 k2 h.1.1.2.2.1) l02) fun k2 => ?_
  have hT : IsT f.type := Classical.not_not.1 fun h => k2 (hst.2 h)
  refine W.ite (fun k3 => no (fun h => by have := h.1.1.2.2.2.1; omega) l02) fun k3 => ?_
  refine W.ite (fun k4 => no (fun h => by have := h.1.1.2.2.2.2; omega) l02) fun k4 => ?_
  refine W.len h1 (W.ite (fun k5 => no (fun h => by have := h.2; omega) l02) fun k5 => ?_)
  refine W.loop (S := Nat × Heap) (fun s => s.1 ≤ f.args.length ∧ Lh σ s.2 ∧ ∀ t, t ∈ f.args.take s.1 → IsT t)
    (fun s => [.box [.str f.name, .bool f.pub, b0, .int .i64 f.type, .int .i64 f.slots, b1], .v (.int .i64 (s.1 : Int))]) (fun s => s.2) (fun s => f.args.length - s.1) (fun ⟨i, σi⟩ ⟨hi, hle, hok⟩ => ?_)
    (0, σ2) ⟨Nat.zero_le _, l02, fun f hf => by simp at hf⟩
  simp only at hi hle hok ⊢
  refine W.to (fun k _ => by rw [spec_l8Fun.L0_step]) ?_
  try simp only [q_bind_some, Option.bind_assoc, castInt_int, q_castBool, q_castStr, q_castPtr, q_castFn, q_castAgg, q_castTuple, q_uncons, q_isNil, q_sl, q_nils, q_emp, q_ptr, q_nilp, q_fn, q_cond_true, q_cond_false, Bool.not_true, Bool.not_false, decide_true, decide_false, castInt_bind, castBool_bind, castStr_bind, castPtr_bind, castFn_bind, castAgg_bind, castTuple_bind, uncons_bind, isNil_bind, one_bind, cond_bind, ite_bind_, List.cons_append, List.nil_append]
  refine W.len h0 (W.ite (fun hlt => ?_) fun hlt => ?_)
  · refine W.at h0 hle (by omega) fun r o' cs x hx hr hP => ?_
    have hm := List.mem_of_getElem? hx
    unfold IntRep at hP
    subst hP
    try simp only [q_bind_some, Option.bind_assoc, castInt_int, q_castBool, q_castStr, q_castPtr, q_castFn, q_castAgg, q_castTuple, q_uncons, q_isNil, q_sl, q_nils, q_emp, q_ptr, q_nilp, q_fn, q_cond_true, q_cond_false, Bool.not_true, Bool.not_false, decide_true, decide_false, castInt_bind, castBool_bind, castStr_bind, castPtr_bind, castFn_bind, castAgg_bind, castTuple_bind, uncons_bind, isNil_bind, one_bind, cond_bind, ite_bind_, List.cons_append, List.nil_append, hr]
    obtain ⟨st, hst, ct⟩ := treeType_gives σi x
    refine W.give ct fun σ3 l3 => ?_
    try simp only [q_bind_some, Option.bind_assoc, castInt_int, q_castBool, q_castStr, q_castPtr, q_castFn, q_castAgg, q_castTuple, q_uncons, q_isNil, q_sl, q_nils, q_emp, q_ptr, q_nilp, q_fn, q_cond_true, q_cond_false, Bool.not_true, Bool.not_false, decide_true, decide_false, castInt_bind, castBool_bind, castStr_bind, castPtr_bind, castFn_bind, castAgg_bind, castTuple_bind, uncons_bind, isNil_bind, one_bind, cond_bind, ite_bind_, List.cons_append, List.nil_append]
    refine W.ite (fun k2 => ?_) fun k2 => ?_
    · try simp only [q_bind_some, Option.bind_assoc, castInt_int, q_castBool, q_castStr, q_castPtr, q_castFn, q_castAgg, q_castTuple, q_uncons, q_isNil, q_sl, q_nils, q_emp, q_ptr, q_nilp, q_fn, q_cond_true, q_cond_false, Bool.not_true, Bool.not_false, decide_true, decide_false, castInt_bind, castBool_bind, castStr_bind, castPtr_bind, castFn_bind, castAgg_bind, castTuple_bind, uncons_bind, isNil_bind, one_bind, cond_bind, ite_bind_, List.cons_append, List.nil_append, spec_l8Fun.A0_ret]
      exact no (fun h => hst.1 k2 (h.1.1.2.1.2 x hm)) (hle.trans l3)
    · have hTx : IsT x := Classical.not_not.1 fun h => k2 (hst.2 h)
      try simp only [q_bind_some, Option.bind_assoc, castInt_int, q_castBool, q_castStr, q_castPtr, q_castFn, q_castAgg, q_castTuple, q_uncons, q_isNil, q_sl, q_nils, q_emp, q_ptr, q_nilp, q_fn, q_cond_true, q_cond_false, Bool.not_true, Bool.not_false, decide_true, decide_false, castInt_bind, castBool_bind, castStr_bind, castPtr_bind, castFn_bind, castAgg_bind, castTuple_bind, uncons_bind, isNil_bind, one_bind, cond_bind, ite_bind_, List.cons_append, List.nil_append, wrap_next (show i < f.args.length by omega) (by omega)]
      refine W.again (i + 1, σ3) ⟨by show i + 1 ≤ f.args.length; omega, hle.trans l3, fun y hy => ?_⟩ (by simp only; omega) rfl rfl
      simp only at hy
      rw [take_next' hx] at hy
      rcases List.mem_append.1 hy with h | h
      · exact hok y h
      · simp at h; rw [h]; exact hTx
  rw [List.take_of_length_le (by omega)] at hok
  try simp only [q_bind_some, Option.bind_assoc, castInt_int, q_castBool, q_castStr, q_castPtr, q_castFn, q_castAgg, q_castTuple, q_uncons, q_isNil, q_sl, q_nils, q_emp, q_ptr, q_nilp, q_fn, q_cond_true, q_cond_false, Bool.not_true, Bool.not_false, decide_true, decide_false, castInt_bind, castBool_bind, castStr_bind, castPtr_bind, castFn_bind, castAgg_bind, castTuple_bind, uncons_bind, isNil_bind, one_bind, cond_bind, ite_bind_, List.cons_append, List.nil_append, spec_l8Fun.A0_x0]
  refine W.loop (S := Nat) (fun j => j ≤ f.code.length ∧ ∀ t, t ∈ f.code.take j → InsOk t)
    (fun j => [.box [.str f.name, .bool f.pub, b0, .int .i64 f.type, .int .i64 f.slots, b1], .v (.int .i64 (j : Int))]) (fun _ => σi) (fun j => f.code.length - j) (fun j ⟨hj, hokj⟩ => ?_)
    0 ⟨Nat.zero_le _, fun f hf => by simp at hf⟩
  refine W.to (fun k _ => by rw [spec_l8Fun.L1_step]) ?_
  try simp only [q_bind_some, Option.bind_assoc, castInt_int, q_castBool, q_castStr, q_castPtr, q_castFn, q_castAgg, q_castTuple, q_uncons, q_isNil, q_sl, q_nils, q_emp, q_ptr, q_nilp, q_fn, q_cond_true, q_cond_false, Bool.not_true, Bool.not_false, decide_true, decide_false, castInt_bind, castBool_bind, castStr_bind, castPtr_bind, castFn_bind, castAgg_bind, castTuple_bind, uncons_bind, isNil_bind, one_bind, cond_bind, ite_bind_, List.cons_append, List.nil_append]
  refine W.len h1 (W.ite (fun hlt2 => ?_) fun hlt2 => ?_)
  · refine W.at h1 hle (by omega) fun r o' cs x hx hr hP => ?_
    have hm := List.mem_of_getElem? hx
    have ci := l8Ins_runs (CodeIns.Rep.le hle hP)
    cases hP with
    | mk =>
    try simp only [q_bind_some, Option.bind_assoc, castInt_int, q_castBool, q_castStr, q_castPtr, q_castFn, q_castAgg, q_castTuple, q_uncons, q_isNil, q_sl, q_nils, q_emp, q_ptr, q_nilp, q_fn, q_cond_true, q_cond_false, Bool.not_true, Bool.not_false, decide_true, decide_false, castInt_bind, castBool_bind, castStr_bind, castPtr_bind, castFn_bind, castAgg_bind, castTuple_bind, uncons_bind, isNil_bind, one_bind, cond_bind, ite_bind_, List.cons_append, List.nil_append, hr]
    refine W.run ci ?_
    try simp only [q_bind_some, Option.bind_assoc, castInt_int, q_castBool, q_castStr, q_castPtr, q_castFn, q_castAgg, q_castTuple, q_uncons, q_isNil, q_sl, q_nils, q_emp, q_ptr, q_nilp, q_fn, q_cond_true, q_cond_false, Bool.not_true, Bool.not_false, decide_true, decide_false, castInt_bind, castBool_bind, castStr_bind, castPtr_bind, castFn_bind, castAgg_bind, castTuple_bind, uncons_bind, isNil_bind, one_bind, cond_bind, ite_bind_, List.cons_append, List.nil_append]
    by_cases hI : InsOk x
    · try simp only [q_bind_some, Option.bind_assoc, castInt_int, q_castBool, q_castStr, q_castPtr, q_castFn, q_castAgg, q_castTuple, q_uncons, q_isNil, q_sl, q_nils, q_emp, q_ptr, q_nilp, q_fn, q_cond_true, q_cond_false, Bool.not_true, Bool.not_false, decide_true, decide_false, castInt_bind, castBool_bind, castStr_bind, castPtr_bind, castFn_bind, castAgg_bind, castTuple_bind, uncons_bind, isNil_bind, one_bind, cond_bind, ite_bind_, List.cons_append, List.nil_append, hI, wrap_next (show j < f.code.length by omega) (by omega)]
      refine W.again (j + 1) ⟨by omega, fun y hy => ?_⟩ (by omega) rfl rfl
      rw [take_next' hx] at hy
      rcases List.mem_append.1 hy with h | h
      · exact hokj y h
      · simp at h; rw [h]; exact hI
    · try simp only [q_bind_some, Option.bind_assoc, castInt_int, q_castBool, q_castStr, q_castPtr, q_castFn, q_castAgg, q_castTuple, q_uncons, q_isNil, q_sl, q_nils, q_emp, q_ptr, q_nilp, q_fn, q_cond_true, q_cond_false, Bool.not_true, Bool.not_false, decide_true, decide_false, castInt_bind, castBool_bind, castStr_bind, castPtr_bind, castFn_bind, castAgg_bind, castTuple_bind, uncons_bind, isNil_bind, one_bind, cond_bind, ite_bind_, List.cons_append, List.nil_append, hI, spec_l8Fun.A1_ret]
      exact no (fun h => hI (h.1.2 x hm)) hle
  · rw [List.take_of_length_le (by omega)] at hokj
    try simp only [q_bind_some, Option.bind_assoc, castInt_int, q_castBool, q_castStr, q_castPtr, q_castFn, q_castAgg, q_castTuple, q_uncons, q_isNil, q_sl, q_nils, q_emp, q_ptr, q_nilp, q_fn, q_cond_true, q_cond_false, Bool.not_true, Bool.not_false, decide_true, decide_false, castInt_bind, castBool_bind, castStr_bind, castPtr_bind, castFn_bind, castAgg_bind, castTuple_bind, uncons_bind, isNil_bind, one_bind, cond_bind, ite_bind_, List.cons_append, List.nil_append, spec_l8Fun.A1_x2]
    exact W.ret ⟨by rw [decide_eq_true (show CFunOk f ∧ f.code.length ≤ 460 from ⟨⟨⟨hN, ⟨by omega, hok⟩, hT, by omega, by omega⟩, hokj⟩, by omega⟩)], hle⟩
end Go.F

/- The texts of objects: what they are, and the reference's words, heads. -/
set_option linter.unusedVariables false
set_option linter.unusedSimpArgs false
namespace Go.F
open Go.HM Go.Proofs
theorem set_same {α : Type} : ∀ {l : List α} {i : Nat} {x : α}, l[i]? = some x → l.set i x = l
  | [], i, x, h => by simp at h
  | y :: l, 0, x, h => by simp at h; simp [h]
  | y :: l, i + 1, x, h => by
    simp at h
    simp [set_same h]
theorem prot_ro {σ : Heap} {r : Nat} {cs : List V} {e t : Nat} (h : σ[r]? = some (some ⟨cs, e, true, t⟩)) : prot [r] σ = σ := by
  show toRo σ r = σ
  unfold toRo
  rw [h]
  simp only
  exact set_same h
theorem unprot_same {σ τ : Heap} {r : Nat} {row : Row} (h : σ[r]? = some (some row)) (g : τ[r]? = some (some row)) : unprot [r] σ τ = τ := by
  show back σ τ r = τ
  unfold back
  rw [h]
  simp only
  exact set_same g
def opws : List ByteArray := [⟨#[112, 117, 115, 104]⟩, ⟨#[102, 108, 97, 103]⟩, ⟨#[108, 111, 97, 100]⟩, ⟨#[107, 101, 101, 112]⟩, ⟨#[112, 114, 105, 109]⟩, ⟨#[106, 117, 109, 112]⟩, ⟨#[117, 110, 108, 101, 115, 115]⟩, ⟨#[99, 97, 108, 108]⟩, ⟨#[98, 97, 99, 107]⟩, ⟨#[114, 111, 119]⟩]
def opw (n : Int) : ByteArray := if 1 ≤ n ∧ n ≤ 10 then (opws[(n - 1).toNat]?).getD ⟨#[]⟩ else ⟨#[]⟩
/-- The variable holds the ten words. -/
abbrev OpW (σ : Heap) : Prop := σ[0]? = some (some ⟨opws.map .str, 1, true, 0⟩)
theorem opw_some {n : Int} (h1 : 1 ≤ n) (h2 : n ≤ 10) : opws[(n - 1).toNat]? = some (opw n) := by
  unfold opw
  rw [if_pos ⟨h1, h2⟩]
  have : (n - 1).toNat < opws.length := by show _ < 10; omega
  rw [List.getElem?_eq_getElem this]
  rfl
theorem opw_size (n : Int) : (opw n).size ≤ 6 := by
  unfold opw
  split
  · rename_i h
    have : (n - 1).toNat = 0 ∨ (n - 1).toNat = 1 ∨ (n - 1).toNat = 2 ∨ (n - 1).toNat = 3 ∨ (n - 1).toNat = 4 ∨ (n - 1).toNat = 5 ∨ (n - 1).toNat = 6 ∨ (n - 1).toNat = 7 ∨ (n - 1).toNat = 8 ∨ (n - 1).toNat = 9 := by omega
    rcases this with h | h | h | h | h | h | h | h | h | h <;> rw [h] <;> decide
  · decide
theorem row_at {σ : Heap} {r : Nat} {l : List ByteArray} {e t : Nat} {ro : Bool} {i : Nat} {x : ByteArray} (h : σ[r]? = some (some ⟨l.map .str, e, ro, t⟩)) (hx : l[i]? = some x) : rdc σ r i 1 = some [.str x] := by
  have hi := lt_of_get hx
  simp only [rdc, h]
  have e1 : ((l.map V.str).drop i).take 1 = [.str x] := by
    rw [← List.map_drop, ← List.map_take]
    have : (l.drop i).take 1 = [x] := by
      rw [List.take_one, List.head?_drop, hx]
      rfl
    rw [this]
    rfl
  rw [e1]
  simp
  omega
theorem l8Word_gives (n : Int) (σ : Heap) : Gives G n_spec_l8Word [.int .i64 n] σ (.str (opw n)) := by
  refine Gives.of (W.to (fun k _ => spec_l8Word.eq k _ _) ?_)
  refine W.ite (fun h => W.ret ⟨by rw [opw, if_neg (by omega)], Lh.refl _⟩) fun h1 => ?_
  refine W.ite (fun h => W.ret ⟨by rw [opw, if_neg (by omega)], Lh.refl _⟩) fun h2 => ?_
  have hw : IntKind.wrap .i64 (n - 1) = n - 1 := wrap_id (by omega) (by omega)
  have hg : (hnew σ 1 (opws.map .str))[σ.length]? = some (some ⟨opws.map .str, 1, false, 0⟩) := by simp [hnew]
  have hat := row_at hg (opw_some (n := n) (by omega) (by omega))
  have hv : vidx 1 (.sl σ.length 0 10 true) (n - 1) = some (σ.length, (n - 1).toNat) := by
    simp only [vidx]
    rw [if_pos (by omega)]
    simp
  simp only [opws, List.map_cons, List.map_nil] at hat
  try simp only [q_bind_some, castInt_int, q_castBool, q_castStr, q_castPtr, q_castFn, q_castAgg, q_castTuple, q_uncons, q_isNil, q_sl, q_nils, q_emp, q_ptr, q_nilp, q_fn, q_cond_true, q_cond_false, Bool.not_true, Bool.not_false, decide_true, decide_false, List.cons_append, List.nil_append, hw, hv, hat]
  exact W.ret ⟨rfl, Lh.new _ _ _⟩
def argL (l : List Int) : List UInt8 := if tyL l = [] then [45] else tyL l
def headL (args : List Int) (t s : Int) : List UInt8 := argL args ++ [32] ++ (tword t).data.toList ++ [32] ++ Lib.itoa s
def insL (x : CodeIns) : List UInt8 := (opw x.op).data.toList ++ [32] ++ Lib.itoa x.a ++ [10]
def codeL (l : List CodeIns) : List UInt8 := catL insL l l.length
theorem ins_b {x : CodeIns} (h : InsOk x) : -99999999999999999 ≤ x.a ∧ x.a ≤ 99999999999999999 ∧ 1 ≤ x.op ∧ x.op ≤ 10 := by unfold InsOk at h; omega
theorem insL_len {x : CodeIns} (h : InsOk x) : (insL x).length ≤ 32 := by
  have h1 := ins_b h
  have h2 := Lib.itoa_length_le x.a (by omega) (by omega)
  have h3 := opw_size x.op
  have h4 := ba_list (opw x.op)
  unfold insL
  simp only [List.length_append, List.length_cons, List.length_nil]
  omega
theorem tot_const {α : Type} (c : Nat) : ∀ l : List α, totS (fun _ => c) l = c * l.length
  | [] => by simp [totS]
  | x :: l => by simp only [totS, List.length_cons, tot_const c l, Nat.mul_add]; omega
theorem code_len {l : List CodeIns} (h : ∀ x, x ∈ l → InsOk x) (i : Nat) (hi : i ≤ l.length) : (catL insL l i).length ≤ 32 * i := by
  have h1 := catL_len (f := insL) (g := fun _ => 32) (fun x hx => insL_len (h x hx)) i hi
  rw [tot_const, List.length_take, Nat.min_eq_left hi] at h1
  exact h1
theorem argL_len {l : List Int} (h : l.length ≤ 4) : (argL l).length ≤ 20 := by
  have h1 := tyL_len l l.length (Nat.le_refl _)
  rw [List.take_length] at h1
  unfold argL
  split
  · simp
  · omega
theorem mainW_size : mainW.size = 4 := by decide
theorem name_len {f : CodeFun} (h : CFunOk f) : f.name.data.toList.length ≤ 8 := by
  rw [ba_list]
  rcases h.1.1 with h | h
  · exact h.2.1.2
  · rw [h, mainW_size]; omega
theorem head_len {f : CodeFun} (h : CFunOk f) : (headL f.args f.type f.slots).length ≤ 60 := by
  have h1 := argL_len h.1.2.1.1
  have h2 := tword_size f.type
  have h3 := ba_list (tword f.type)
  have h4 := h.1.2.2.2
  have h5 := Lib.itoa_length_le f.slots (by omega) (by omega)
  unfold headL
  simp only [List.length_append, List.length_cons, List.length_nil]
  omega
theorem tot_lin {α : Type} (c d : Nat) (g : α → Nat) : ∀ l : List α, totS (fun x => c + d * g x) l = c * l.length + d * totS g l
  | [] => by simp [totS]
  | x :: l => by simp only [totS, List.length_cons, tot_lin c d g l, Nat.mul_add]; omega
end Go.F

/- Objects read: plain. Lines and words; what the program reads, and that it reads what is written. -/
set_option linter.unusedVariables false
set_option linter.unusedSimpArgs false
namespace Go.F
open Go.HM Go.Proofs
/-- Lines, each with its end. -/
def lns (xs : List (List UInt8)) : List UInt8 := (xs.map fun x => x ++ [10]).flatten
theorem lns_app (a b : List (List UInt8)) : lns (a ++ b) = lns a ++ lns b := by simp [lns]
theorem lns_cons (x : List UInt8) (b : List (List UInt8)) : lns (x :: b) = x ++ [10] ++ lns b := by simp [lns]
theorem split_lns : ∀ xs : List (List UInt8), (∀ x, x ∈ xs → (10 : UInt8) ∉ x) → splitL 10 (lns xs) = xs ++ [[]]
  | [], _ => rfl
  | x :: xs, h => by
    have e : lns (x :: xs) = x ++ 10 :: lns xs := by simp [lns]
    rw [e, split_at (h x (by simp)), split_lns xs fun y hy => h y (by simp [hy])]
    rfl
theorem trim_lns (xs : List (List UInt8)) (hne : xs ≠ []) (h : ∀ x, x ∈ xs → (10 : UInt8) ∉ x) : splitL 10 (trimL 10 (lns xs)) = xs := by
  have key : ∀ xs : List (List UInt8), xs ≠ [] → (∀ x, x ∈ xs → (10 : UInt8) ∉ x) → ∃ m, lns xs = m ++ [10] ∧ splitL 10 m = xs := fun xs => by
    induction xs with
    | nil => intro hn; exact absurd rfl hn
    | cons x l ih =>
      intro _ h
      cases l with
      | nil => exact ⟨x, by simp [lns], split_plain (h x (by simp))⟩
      | cons y l =>
        obtain ⟨m, m1, m2⟩ := ih (by simp) fun z hz => h z (by simp [hz])
        refine ⟨x ++ 10 :: m, by rw [lns_cons, m1]; simp, ?_⟩
        rw [split_at (h x (by simp)), m2]
  obtain ⟨m, m1, m2⟩ := key xs hne h
  rw [m1, trim_at, m2]
/-! Numbers. -/
/-- The number that decimal hands back, whether it is one or not. -/
def numR (l : List UInt8) : Int := match Lib.atoiAll l with
  | .ok n => n
  | .range => Lib.atoiSat l
  | _ => 0
theorem numR_b (l : List UInt8) : -9223372036854775808 ≤ numR l ∧ numR l ≤ 9223372036854775807 := by
  unfold numR
  split
  · rename_i n h
    exact Lib.atoiAll_bounds h
  · exact Lib.atoiSat_bounds l
  · omega
theorem numR_itoa {n : Int} (h0 : -99999999999999999 ≤ n) (h1 : n ≤ 99999999999999999) : numR (Lib.itoa n) = n := by
  have h := num_itoa h0 h1
  rw [num_eq] at h
  unfold numI at h
  unfold numR
  split at h
  · rename_i m hm
    rw [hm]
    simp only
    split at h
    · injection h
    · injection h with h h'
      cases h'
  · injection h with h h'
    cases h'
theorem num_b (l : List UInt8) : -9223372036854775808 ≤ (num l).1 ∧ (num l).1 ≤ 9223372036854775807 := by
  rcases num_cases l with h | ⟨n, h⟩
  · rw [h]
    simp only
    omega
  · have := num_some h
    rw [h]
    simp only
    omega
theorem dig_mem : ∀ (n u : Nat), u ≤ n → ∀ c, c ∈ Lib.decDigits u → 48 ≤ c.toNat ∧ c.toNat ≤ 57
  | n, u, hn, c, hc => by
    have hb : ∀ d : Nat, d < 10 → 48 ≤ (UInt8.ofNat (48 + d)).toNat ∧ (UInt8.ofNat (48 + d)).toNat ≤ 57 := fun d hd => by
      have : (UInt8.ofNat (48 + d)).toNat = 48 + d := by simp; omega
      omega
    by_cases h9 : 9 < u
    · match n with
      | 0 => omega
      | n + 1 =>
        rw [dec_next h9] at hc
        rcases List.mem_append.1 hc with hc | hc
        · exact dig_mem n (u / 10) (by omega) c hc
        · simp only [List.mem_singleton] at hc
          subst hc
          exact hb _ (by omega)
    · rw [Lib.decDigits_one (by omega)] at hc
      simp only [List.mem_singleton] at hc
      subst hc
      exact hb _ (by omega)
theorem itoa_no {c : UInt8} (h1 : c.toNat < 48) (h2 : c ≠ 45) (n : Int) : c ∉ Lib.itoa n := fun hc => by
  unfold Lib.itoa at hc
  split at hc
  · rcases List.mem_cons.1 hc with hc | hc
    · exact h2 hc
    · have := dig_mem _ _ (Nat.le_refl _) c hc
      omega
  · have := dig_mem _ _ (Nat.le_refl _) c hc
    omega
/-! Bytes that do not stand in names, types, words of instructions. -/
theorem name_low {s : ByteArray} (h : IsName s ∨ s = mainW) {c : UInt8} (hc : c.toNat < 97) : c ∉ s.data.toList := fun hm => by
  rcases h with h | h
  · obtain ⟨i, hi, e⟩ := List.getElem_of_mem hm
    have hs : i < s.size := by simpa using hi
    have := h.1 i hs
    have e2 : s[i] = c := by
      obtain ⟨⟨l⟩⟩ := s
      exact e
    rw [e2] at this
    omega
  · subst h
    have : c = 109 ∨ c = 97 ∨ c = 105 ∨ c = 110 := by simpa [mainW] using hm
    rcases this with rfl | rfl | rfl | rfl <;> simp at hc
theorem word_low (n : Int) {c : UInt8} (hc : c.toNat < 97) : c ∉ (tword n).data.toList := fun hm => by
  unfold tword at hm
  split at hm
  · have : c = 105 ∨ c = 110 ∨ c = 116 := by simpa using hm
    rcases this with rfl | rfl | rfl <;> simp at hc
  split at hm
  · have : c = 98 ∨ c = 111 ∨ c = 111 ∨ c = 108 := by simpa using hm
    rcases this with rfl | rfl | rfl | rfl <;> simp at hc
  split at hm
  · have : c = 114 ∨ c = 111 ∨ c = 119 := by simpa using hm
    rcases this with rfl | rfl | rfl <;> simp at hc
  · simp at hm
theorem tyL_low {c : UInt8} (hc : c.toNat < 97) (h44 : c ≠ 44) (l : List Int) : c ∉ tyL l := fun hm => by
  have ht : ∀ r : List (List UInt8), (∀ x, x ∈ r → c ∉ x) → c ∉ Lib.joinTail [44] r := fun r => by
    induction r with
    | nil => intro _; simp [Lib.joinTail]
    | cons z r ih =>
      intro hz
      have := ih fun x hx => hz x (by simp [hx])
      have h2 := hz z (by simp)
      simp [Lib.joinTail] at this ⊢
      exact ⟨h44, h2, this⟩
  have key : ∀ xs : List (List UInt8), (∀ x, x ∈ xs → c ∉ x) → c ∉ Lib.join xs [44] := fun xs => by
    intro hx
    cases xs with
    | nil => simp [Lib.join_nil]
    | cons y r =>
      rw [Lib.join_cons]
      have h1 := hx y (by simp)
      have h2 := ht r fun x hx' => hx x (by simp [hx'])
      simp [h1, h2]
  refine key (l.map fun n => (tword n).data.toList) (fun x hx => ?_) hm
  obtain ⟨n, _, rfl⟩ := List.mem_map.1 hx
  exact word_low n hc
theorem argL_low {c : UInt8} (hc : c.toNat < 97) (h44 : c ≠ 44) (h45 : c ≠ 45) (l : List Int) : c ∉ argL l := by
  unfold argL
  split
  · simpa using h45
  · exact tyL_low hc h44 l
theorem opw_low (n : Int) {c : UInt8} (hc : c.toNat < 97) : c ∉ (opw n).data.toList := by
  have all : ∀ s, s ∈ opws → c ∉ s.data.toList := fun s hs => by
    have key : ∀ s, s ∈ opws → ∀ d, d ∈ s.data.toList → 97 ≤ d.toNat := by
      unfold opws
      decide
    exact fun hm => by have := key s hs c hm; omega
  unfold opw
  split
  · rename_i h
    cases hx : opws[(n - 1).toNat]? with
    | none => simp
    | some s => simpa using all s (List.mem_of_getElem? hx)
  · simp
/-! Types, and words of instructions, read. -/
def argR (w : List UInt8) : List Int := if w = [45] then [] else readT w
theorem argR_L {l : List Int} (h : Typs l) : argR (argL l) = l := by
  unfold argR argL
  by_cases he : tyL l = []
  · rw [if_pos he, if_pos rfl, ← readT_tyL h, he]
    rfl
  · rw [if_neg he, if_neg (fun hc => tyL_low (c := 45) (by decide) (by decide) l (by rw [hc]; simp)), readT_tyL h]
theorem readT_len (w : List UInt8) : (readT w).length ≤ w.length + 1 := by
  unfold readT
  split
  · simp
  · rw [List.length_map]
    exact split_len 44 w
theorem argR_len (w : List UInt8) : (argR w).length ≤ w.length + 1 := by
  unfold argR
  split
  · simp
  · exact readT_len w
theorem typeNo_b (s : ByteArray) : 0 ≤ typeNo s ∧ typeNo s ≤ 3 := by
  unfold typeNo
  split
  · omega
  split
  · omega
  split <;> omega
theorem argR_b (w : List UInt8) : ∀ n, n ∈ argR w → 0 ≤ n ∧ n ≤ 3 := fun n hn => by
  unfold argR readT at hn
  split at hn
  · simp at hn
  split at hn
  · simp at hn
  · obtain ⟨x, _, rfl⟩ := List.mem_map.1 hn
    exact typeNo_b _
def opNo (s : ByteArray) : Int := fidx (fun x => decide (s = x)) opws + 1
theorem opNo_w {n : Int} (h1 : 1 ≤ n) (h2 : n ≤ 10) : opNo (opw n) = n := by
  have : n = 1 ∨ n = 2 ∨ n = 3 ∨ n = 4 ∨ n = 5 ∨ n = 6 ∨ n = 7 ∨ n = 8 ∨ n = 9 ∨ n = 10 := by omega
  rcases this with rfl | rfl | rfl | rfl | rfl | rfl | rfl | rfl | rfl | rfl <;> decide
theorem opNo_b (s : ByteArray) : 0 ≤ opNo s ∧ opNo s ≤ 10 := by
  have h1 := fidx_ge (p := fun x => decide (s = x)) opws
  have h2 := fidx_lt (p := fun x => decide (s = x)) opws
  have h3 : opws.length = 10 := rfl
  unfold opNo
  omega
/-! Words of a line. -/
def wd (ws : List (List UInt8)) (i : Nat) : List UInt8 := (ws[i]?).getD []
theorem wd_some {ws : List (List UInt8)} {i : Nat} (h : i < ws.length) : ws[i]? = some (wd ws i) := by
  unfold wd
  rw [List.getElem?_eq_getElem h]
  rfl
def refW : List UInt8 := [114, 101, 102]
def funW : List UInt8 := [102, 117, 110]
/-- By the reference. -/
noncomputable def insQ (ws : List (List UInt8)) : CodeIns := if ba (wd ws 0) ∈ opws then ⟨opNo (ba (wd ws 0)), (num (wd ws 1)).1⟩ else ⟨0, 0⟩
def wordsP (l : List UInt8) : List (List UInt8) := splitL 32 l
def wordsQ (l : List UInt8) : List (List UInt8) := (splitL 32 l).filter fun w => decide (w ≠ [])
def insO (x : CodeIns) : List UInt8 := (opw x.op).data.toList ++ 32 :: Lib.itoa x.a
theorem insL_O (x : CodeIns) : insL x = insO x ++ [10] := by simp [insL, insO]
theorem cat_lns {α : Type} {f : α → List UInt8} {g : α → List UInt8} (h : ∀ x, f x = g x ++ [10]) (l : List α) : catL f l l.length = lns (l.map g) := by
  unfold catL lns
  rw [List.take_length, List.map_map]
  congr 1
  exact List.map_congr_left fun x _ => h x
theorem cat_lnss {α : Type} {f : α → List UInt8} {g : α → List (List UInt8)} (h : ∀ x, f x = lns (g x)) (l : List α) : catL f l l.length = lns (l.map g).flatten := by
  unfold catL
  rw [List.take_length]
  induction l with
  | nil => rfl
  | cons x l ih => rw [List.map_cons, List.flatten_cons, List.map_cons, List.flatten_cons, lns_app, ih, h]
theorem insO_no (x : CodeIns) : (10 : UInt8) ∉ insO x := by
  have h1 := opw_low x.op (c := 10) (by decide)
  have h2 := itoa_no (c := 10) (by decide) (by decide) x.a
  unfold insO
  simp [h1, h2]
theorem insO_ws (x : CodeIns) : splitL 32 (insO x) = [(opw x.op).data.toList, Lib.itoa x.a] := by
  unfold insO
  rw [split_at (opw_low x.op (by decide)), split_plain (itoa_no (by decide) (by decide) _)]
theorem opw_in {n : Int} (h1 : 1 ≤ n) (h2 : n ≤ 10) : opw n ∈ opws := List.mem_of_getElem? (opw_some h1 h2)
theorem opw_not {n : Int} (h1 : 1 ≤ n) (h2 : n ≤ 10) : (opw n).data.toList ≠ refW ∧ (opw n).data.toList ≠ funW ∧ (opw n).data.toList ≠ [] := by
  have key : ∀ s, s ∈ opws → s.data.toList ≠ refW ∧ s.data.toList ≠ funW ∧ s.data.toList ≠ [] := by unfold opws refW funW; decide
  exact key _ (opw_in h1 h2)
theorem filt_id {l : List (List UInt8)} (h : ∀ x, x ∈ l → x ≠ []) : l.filter (fun w => decide (w ≠ [])) = l := List.filter_eq_self.2 fun x hx => decide_eq_true (h x hx)
theorem itoa_ne (n : Int) : Lib.itoa n ≠ [] := by
  unfold Lib.itoa
  split
  · simp
  · exact dec_ne _
theorem argL_ne (l : List Int) : argL l ≠ [] := by
  unfold argL
  split
  · simp
  · assumption
theorem cutF_tot (c : UInt8) : ∀ (l : List UInt8) (A : List (List UInt8)) (w : List UInt8), totS List.length (cutF c (A, w) l).1 + (cutF c (A, w) l).2.length ≤ totS List.length A + w.length + l.length
  | [], A, w => by simp [cutF]
  | b :: l, A, w => by
    show totS List.length (cutF c (if b = c then (A ++ [w], []) else (A, w ++ [b])) l).1 + (cutF c (if b = c then (A ++ [w], []) else (A, w ++ [b])) l).2.length ≤ _
    split
    · have := cutF_tot c l (A ++ [w]) []
      rw [totS_append] at this
      simp [totS] at this ⊢
      omega
    · have := cutF_tot c l A (w ++ [b])
      simp at this ⊢
      omega
theorem split_tot (c : UInt8) (l : List UInt8) : totS List.length (splitL c l) ≤ l.length := by
  have := cutF_tot c l [] []
  unfold splitL
  rw [totS_append]
  simp [totS] at this ⊢
  omega
theorem filt_tot (p : List UInt8 → Bool) : ∀ l : List (List UInt8), totS List.length (l.filter p) ≤ totS List.length l
  | [] => Nat.le_refl _
  | x :: l => by
    have := filt_tot p l
    rw [List.filter_cons]
    split <;> simp only [totS] <;> omega
theorem wordsP_tot (l : List UInt8) : totS List.length (wordsP l) ≤ l.length := split_tot 32 l
theorem wordsQ_tot (l : List UInt8) : totS List.length (wordsQ l) ≤ l.length := Nat.le_trans (filt_tot _ _) (split_tot 32 l)
/-- Numbers that fit. -/
def FunB (f : CodeFun) : Prop := (∀ n, n ∈ f.args → 0 ≤ n ∧ n ≤ 3) ∧ (0 ≤ f.type ∧ f.type ≤ 3) ∧ (-9223372036854775808 ≤ f.slots ∧ f.slots ≤ 9223372036854775807) ∧ ∀ x, x ∈ f.code → (0 ≤ x.op ∧ x.op ≤ 10) ∧ (-9223372036854775808 ≤ x.a ∧ x.a ≤ 9223372036854775807)
theorem tot_mem {α : Type} {f : α → Nat} : ∀ {l : List α} {x : α}, x ∈ l → f x ≤ totS f l
  | y :: l, x, h => by
    rcases List.mem_cons.1 h with rfl | h
    · simp only [totS]; omega
    · have := tot_mem (f := f) h
      simp only [totS]; omega
theorem totS_set {α : Type} {f : α → Nat} : ∀ {l : List α} {i : Nat} {x : α}, l[i]? = some x → ∀ y, totS f (l.set i y) + f x = totS f l + f y
  | [], i, x, h, y => by simp at h
  | z :: l, 0, x, h, y => by
    simp at h
    subst h
    simp only [List.set_cons_zero, totS]
    omega
  | z :: l, i + 1, x, h, y => by
    have := totS_set (f := f) (l := l) (i := i) (by simpa using h) y
    simp only [List.set_cons_succ, totS]
    omega
theorem cut_tot (c : UInt8) (l : List UInt8) : (cutAt c l).1.length + (cutAt c l).2.length ≤ l.length := by
  unfold cutAt
  split
  · simp
  · simp only [List.length_take, List.length_drop]
    omega
theorem take_tot {α : Type} (f : α → Nat) : ∀ (l : List α) (n : Nat), totS f (l.take n) ≤ totS f l
  | [], n => by simp
  | x :: l, 0 => by simp [totS]
  | x :: l, n + 1 => by have := take_tot f l n; simp only [List.take_succ_cons, totS]; omega
theorem drop_tot {α : Type} (f : α → Nat) : ∀ (l : List α) (n : Nat), totS f (l.drop n) ≤ totS f l
  | [], n => by simp
  | x :: l, 0 => by simp
  | x :: l, n + 1 => by have := drop_tot f l n; simp only [List.drop_succ_cons, totS]; omega
end Go.F

/- The text of a mark. -/
set_option linter.unusedVariables false
set_option linter.unusedSimpArgs false
namespace Go.F
open Go.HM Go.Proofs
theorem markText_runs (σ : Heap) {n : Nat} (h1 : 1 ≤ n) (h2 : n ≤ 1099511627776) : Runs G n_laws_markText [.int .i64 (n : Int)] σ (.str (mText n)) σ := by
  have e62 : (2 : Nat) ^ 62 = 4611686018427387904 := by decide
  refine Runs.of (W.to (fun k _ => laws_markText.eq k _ _) ?_)
  refine W.ite (fun h => absurd h (by omega)) fun _ => ?_
  refine W.loop (S := Nat × ByteArray) (fun s => s.2.size + s.1 ≤ n ∧ mDig s.1 s.2 = mDig n ⟨#[]⟩) (fun s => [.v (.int .i64 (s.1 : Int)), .v (.str s.2)]) (fun _ => σ) (fun s => s.1) (fun ⟨m, s⟩ ⟨hs, hd⟩ => ?_)
    (n, ⟨#[]⟩) ⟨Nat.le_of_eq (by show 0 + n = n; omega), rfl⟩
  simp only at hs hd ⊢
  refine W.to (fun k _ => by rw [laws_markText.L0_step]) ?_
  refine B.ite (fun h0 => ?_) fun h0 => ?_
  · have hm : m ≠ 0 := by omega
    have hb : bytesOf [.int .u8 (IntKind.wrap .u8 (IntKind.wrap .i64 (48 + Int.tmod (m : Int) 10)))] .empty = some (mByte m) := rfl
    refine B.bind hb ?_
    have hsz : (mByte m).size = 1 := rfl
    refine B.iff (fun hx => ?_) fun hx => absurd (by rw [hsz, e62]; omega) hx
    have hdiv : IntKind.wrap .i64 (Int.tdiv (m : Int) 10) = ((m / 10 : Nat) : Int) := by
      have : Int.tdiv (m : Int) 10 = ((m / 10 : Nat) : Int) := rfl
      rw [this, wrap_id (by omega) (by omega)]
    refine W.again (m / 10, mByte m ++ s) ⟨?_, ?_⟩ (by simp only; omega) (by rw [hdiv]) rfl
    · simp only [ByteArray.size_append, hsz]; omega
    · simp only
      rw [← hd]
      conv => rhs; rw [mDig, dif_neg hm]
  · have hm : m = 0 := by omega
    try simp only [q_bind_some, castInt_int, q_castBool, q_castStr, q_castPtr, q_castFn, q_castAgg, q_castTuple, q_uncons, q_isNil, q_sl, q_nils, q_emp, q_ptr, q_nilp, q_fn, q_cond_true, q_cond_false, Bool.not_true, Bool.not_false, decide_true, decide_false, List.cons_append, List.nil_append, laws_markText.A0_x0]
    have hsz : (⟨#[109]⟩ : ByteArray).size = 1 := rfl
    refine W.iff (fun hx => W.ret ⟨?_, rfl⟩) fun hx => absurd (by rw [hsz, e62]; omega) hx
    rw [mText, ← hd, hm, mDig, dif_pos rfl]
end Go.F
