/- Small words that this session's texts use beside the kit's: comparisons of texts. -/
import Derived.Test.YtoffgpomodijoaaWWords
import Derived.WalkLawsBesides
namespace Go.Proofs.YtoffgpomodijoaaW.PrintWords
open Go.RowKit

theorem bytesLess_flip : ∀ (a b : List UInt8), (Op.bytesLess b a || b == a) = !Op.bytesLess a b
  | [], [] => rfl
  | [], _ :: _ => rfl
  | _ :: _, [] => rfl
  | x :: a, y :: b => by
    have ih := bytesLess_flip a b
    have hlt : ∀ p q : UInt8, p < q ↔ p.toNat < q.toNat := fun p q => UInt8.lt_iff_toNat_lt
    have heq : ∀ p q : UInt8, p = q ↔ p.toNat = q.toNat := fun p q => ⟨fun h => by rw [h], fun h => UInt8.toNat_inj.mp h⟩
    simp only [Op.bytesLess]
    by_cases h1 : x < y
    · have h2 : ¬ y < x := by rw [hlt] at h1 ⊢; omega
      have h3 : ¬ y = x := by rw [heq]; rw [hlt] at h1; omega
      simp [h1, h2, h3]
    · by_cases h2 : y < x
      · have h3 : ¬ x = y := by rw [heq]; rw [hlt] at h2; omega
        simp [h1, h2, h3]
      · have h3 : x = y := by
          rw [heq]
          rw [hlt] at h1 h2
          omega
        subst h3
        simp only [h1, decide_false, Bool.false_or, BEq.rfl, Bool.true_and]
        rw [← ih]
        simp
theorem leq_of_less {a b : List UInt8} (h : Op.bytesLess a b = true) : (Op.bytesLess b a || b == a) = false := by
  rw [bytesLess_flip, h]
  rfl
theorem leq_of_not_less {a b : List UInt8} (h : ¬ Op.bytesLess a b = true) : (Op.bytesLess b a || b == a) = true := by
  rw [bytesLess_flip, Bool.eq_false_iff.mpr h]
  rfl

end Go.Proofs.YtoffgpomodijoaaW.PrintWords
