/- Texts as lists of bytes. -/
import Derived.Test.YtbkbdpdfcannfaaDoorEF0
import Derived.Test.YtbkbdpdfcannfaaDoorHMIdx
set_option linter.unusedVariables false
set_option linter.unusedSimpArgs false
namespace Go.L
open Go.HM Go.Proofs
def ba (l : List UInt8) : ByteArray := ⟨l.toArray⟩
theorem ba_app (l : List UInt8) (s : ByteArray) : ba l ++ s = ba (l ++ s.data.toList) := by
  obtain ⟨⟨d⟩⟩ := s
  apply ByteArray.ext
  rw [ByteArray.data_append]
  simp [ba]
theorem ba_size (l : List UInt8) : (ba l).size = l.length := by simp [ba, ByteArray.size]
theorem ba_self (s : ByteArray) : s = ba s.data.toList := by
  obtain ⟨⟨d⟩⟩ := s
  rfl
theorem ba_list (s : ByteArray) : s.data.toList.length = s.size := by simp
theorem fitB {α : Type} (L M : List UInt8) (x y : α) (h : L.length + M.length ≤ 4611686018427387904) : (if (ba L).size + (ba M).size ≤ 2 ^ 62 then x else y) = x := by
  have e62 : (2 : Nat) ^ 62 = 4611686018427387904 := by decide
  rw [if_pos (by rw [ba_size, ba_size, e62]; exact h)]
theorem ba2 (L M : List UInt8) : ba L ++ ba M = ba (L ++ M) := ba_app L (ba M)
theorem mk_ba (L : List UInt8) : (⟨L.toArray⟩ : ByteArray) = ba L := rfl
theorem ba_inj {L M : List UInt8} : ba L = ba M ↔ L = M := ⟨fun h => congrArg (fun s : ByteArray => s.data.toList) h, fun h => by rw [h]⟩
end Go.L
