/- Lemmas on numbers, lists and texts, without Go and memory, that the proofs of this seat share. -/
import Derived.Test.YtoffgpomodijoaaWWords
namespace Go.Proofs.Ytoffgpomodijoaa.Lib
open Go.RowKit Go.Proofs.YtoffgpomodijoaaW.PrintWords

theorem wrap_id {i : Int} (h0 : -9223372036854775808 ≤ i) (h : i ≤ 9223372036854775807) : wrap64 i = i := by
  unfold wrap64
  omega
theorem wrap_succ {i n : Nat} (h : i < n) (hn : n ≤ 4611686018427387904) : wrap64 ((i : Int) + 1) = ((i + 1 : Nat) : Int) := by
  rw [wrap_id (by omega) (by omega)]
  rfl
theorem rdOf_get {α : Type} {d : α} {xs : List α} {i : Nat} (h : i < xs.length) : rdOf d xs (i : Int) = xs[i] := by
  simp [rdOf, h]
theorem rd_get {xs : List Int} {i : Nat} (h : i < xs.length) : rd xs (i : Int) = xs[i] := by
  simp [rd, h]
theorem bt_get {s : ByteArray} {i : Nat} (h : i < s.size) : bt s (i : Int) = (s.data[i].toNat : Int) := by
  simp only [bt, Int.toNat_natCast]
  rw [dif_pos h]
  rfl
theorem drop_cons {α : Type} {xs : List α} {i : Nat} (h : i < xs.length) : xs.drop i = xs[i] :: xs.drop (i + 1) := List.drop_eq_getElem_cons h
theorem drop_end {α : Type} {xs : List α} {i : Nat} (h : xs.length ≤ i) : xs.drop i = [] := List.drop_eq_nil_of_le h
theorem str_inj {a b : ByteArray} (h : a.toList = b.toList) : a = b := by
  cases a with
  | mk a =>
    cases b with
    | mk b =>
      rw [ByteArray.toList_eq, ByteArray.toList_eq] at h
      have : a = b := Array.toList_inj.mp h
      rw [this]
theorem str_iff {a b : ByteArray} : a.toList = b.toList ↔ a = b := ⟨str_inj, fun h => by rw [h]⟩
theorem toList_mk (a : Array UInt8) : (⟨a⟩ : ByteArray).toList = a.toList := ByteArray.toList_eq _
theorem data_iff {a b : ByteArray} : a.data = b.data ↔ a = b := by
  cases a
  cases b
  simp
instance byteArrayEq : DecidableEq ByteArray := fun _ _ => decidable_of_iff _ data_iff
instance memDec (s : ByteArray) (xs : List ByteArray) : Decidable (s ∈ xs) := decidable_of_iff (∃ x ∈ xs, s = x) (by simp)
theorem size_eq (s : ByteArray) : s.size = s.data.toList.length := by
  rw [Array.length_toList]
  rfl
/-- The bytes of a text from a place on. -/
def from_ (s : ByteArray) (i : Nat) : List UInt8 := s.data.toList.drop i
theorem from_cons {s : ByteArray} {i : Nat} (h : i < s.size) : from_ s i = s.data[i] :: from_ s (i + 1) := by
  have h' : i < s.data.toList.length := by rw [← size_eq]; exact h
  unfold from_
  rw [drop_cons h']
  simp
theorem from_end {s : ByteArray} {i : Nat} (h : s.size ≤ i) : from_ s i = [] := drop_end (by rw [← size_eq]; exact h)
theorem less (n : Nat) (h : 0 < n) : ∃ m, n = m + 1 := ⟨n - 1, by omega⟩
/-- The bytes of a text from a place to a place. -/
def seg (s : ByteArray) (a b : Nat) : List UInt8 := (s.data.toList.drop a).take (b - a)
def mkb (l : List UInt8) : ByteArray := ⟨l.toArray⟩
theorem toList_mkb (l : List UInt8) : (mkb l).toList = l := by
  rw [mkb, toList_mk]
theorem mkb_toList (s : ByteArray) : mkb s.toList = s := str_inj (toList_mkb _)
theorem extract_seg (s : ByteArray) (a b : Nat) : s.extract a b = mkb (seg s a b) := by
  apply data_iff.mp
  simp [mkb, seg, ByteArray.data_extract]
  apply Array.toList_inj.mp
  simp [Array.toList_extract]
theorem seg_self (s : ByteArray) (a : Nat) : seg s a a = [] := by simp [seg]
theorem seg_length {s : ByteArray} {a b : Nat} (hb : b ≤ s.size) : (seg s a b).length = b - a := by
  have := size_eq s
  simp only [seg, List.length_take, List.length_drop]
  omega
theorem seg_succ {s : ByteArray} {a b : Nat} (h : a ≤ b) (hb : b < s.size) : seg s a (b + 1) = seg s a b ++ [s.data[b]] := by
  have hz := size_eq s
  unfold seg
  rw [show b + 1 - a = (b - a) + 1 by omega, List.take_succ_eq_append_getElem (by rw [List.length_drop]; omega)]
  congr 2
  simp [List.getElem_drop, show a + (b - a) = b by omega]
theorem seg_nil {s : ByteArray} {a b : Nat} (h : a ≤ b) (hb : b ≤ s.size) : seg s a b = [] ↔ a = b := by
  rw [← List.length_eq_zero_iff, seg_length hb]
  omega
theorem nat_cast (n : Nat) : ((n : Int)).toNat = n := rfl

end Go.Proofs.Ytoffgpomodijoaa.Lib
