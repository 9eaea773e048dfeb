/- What the arguments of the law FnExactTreeSame fit, and that whatever is read of them is of the kinds that its printed functions speak of. -/
import Derived.Test.YthcinellhbmcoaaQTreeSamex11
import Derived.Test.YthcinellhbmcoaaOpen
namespace Go.Proofs.Ythcinellhbmcoaa.Q
open Go.RowKit Go.Proofs.YthcinellhbmcoaaW.PrintWords Go.Proofs.Ythcinellhbmcoaa.Open
set_option linter.unusedVariables false

def fit205 (x : S205) : Prop := strOk x.f0 ∧ rng x.f1
theorem opens205 {H : Type} {enc : TypeId × Value → H} {W : World} (m : Nat) : Opens enc Try.prog W 205 k205 fit205 m := by
  refine Opens.less (m := m + 1) ?_ (by omega)
  refine Opens.struct (fit := (both strOk rng)) (fun x : S205 => (x.f0, x.f1)) (fun y => (⟨y.1, y.2⟩ : S205)) (fun _ => rfl) (fun y h => h) Try.underlying205 (by kernel_rfl) ?_
  show Fields enc Try.prog W [_, _] 0 _ _ _
  refine Fields.cons (off := 1) (by kernel_rfl) (by kernel_rfl) ?_ ?_
  · exact (Opens.string Try.underlying9)
  refine Fields.last (by kernel_rfl) ?_
  exact (Opens.i64 Try.underlying3)
inductive fit78 : S78 → Prop where
  | mk (x : S78) (h0 : rng x.f0) (h1 : rng x.f1) (h2 : strOk x.f2) (h3 : strOk x.f3) (h4 : lenOk x.f4) (g4 : ∀ y, y ∈ x.f4 → fit78 y) : fit78 x
theorem opens78 {H : Type} {enc : TypeId × Value → H} {W : World} : ∀ m, Opens enc Try.prog W 78 k78 fit78 m := by
  refine Opens.fix (fun n d hsz hd => ?_)
  refine Opens.struct (fit := (both rng (both rng (both strOk (both strOk (fitList fit78)))))) (fun x : S78 => (x.f0, x.f1, x.f2, x.f3, x.f4)) (fun y => (⟨y.1, y.2.1, y.2.2.1, y.2.2.2.1, y.2.2.2.2⟩ : S78)) (fun _ => rfl) (fun y h => .mk _ h.1 h.2.1 h.2.2.1 h.2.2.2.1 h.2.2.2.2.1 h.2.2.2.2.2) Try.underlying78 (by kernel_rfl) ?_
  show Fields enc Try.prog W [_, _, _, _, _] 0 _ _ _
  refine Fields.cons (off := 1) (by kernel_rfl) (by kernel_rfl) ?_ ?_
  · exact (Opens.i64 Try.underlying3)
  refine Fields.cons (off := 2) (by kernel_rfl) (by kernel_rfl) ?_ ?_
  · exact (Opens.i64 Try.underlying3)
  refine Fields.cons (off := 3) (by kernel_rfl) (by kernel_rfl) ?_ ?_
  · exact (Opens.string Try.underlying9)
  refine Fields.cons (off := 4) (by kernel_rfl) (by kernel_rfl) ?_ ?_
  · exact (Opens.string Try.underlying9)
  refine Fields.last (by kernel_rfl) ?_
  exact (Opens.slice' Try.underlying24 (by rw [hsz]; kernel_rfl) hd)
def fit149 (x : S149) : Prop := strOk x.f0 ∧ anyb x.f1 ∧ (fitList fit205) x.f2 ∧ rng x.f3 ∧ fit78 x.f4
theorem opens149 {H : Type} {enc : TypeId × Value → H} {W : World} (m : Nat) : Opens enc Try.prog W 149 k149 fit149 m := by
  refine Opens.less (m := m + 1) ?_ (by omega)
  refine Opens.struct (fit := (both strOk (both anyb (both (fitList fit205) (both rng fit78))))) (fun x : S149 => (x.f0, x.f1, x.f2, x.f3, x.f4)) (fun y => (⟨y.1, y.2.1, y.2.2.1, y.2.2.2.1, y.2.2.2.2⟩ : S149)) (fun _ => rfl) (fun y h => h) Try.underlying149 (by kernel_rfl) ?_
  show Fields enc Try.prog W [_, _, _, _, _] 0 _ _ _
  refine Fields.cons (off := 1) (by kernel_rfl) (by kernel_rfl) ?_ ?_
  · exact (Opens.string Try.underlying9)
  refine Fields.cons (off := 2) (by kernel_rfl) (by kernel_rfl) ?_ ?_
  · exact (Opens.bool Try.underlying4)
  refine Fields.cons (off := 3) (by kernel_rfl) (by kernel_rfl) ?_ ?_
  · exact (Opens.slice' Try.underlying147 (by kernel_rfl) (opens205 _))
  refine Fields.cons (off := 4) (by kernel_rfl) (by kernel_rfl) ?_ ?_
  · exact (Opens.i64 Try.underlying3)
  refine Fields.last (by kernel_rfl) ?_
  exact (opens78 _)
def fit26 (x : S26) : Prop := (fitList strOk) x.f0 ∧ (fitList fit149) x.f1 ∧ (fitList fit78) x.f2
theorem opens26 {H : Type} {enc : TypeId × Value → H} {W : World} (m : Nat) : Opens enc Try.prog W 26 k26 fit26 m := by
  refine Opens.less (m := m + 1) ?_ (by omega)
  refine Opens.struct (fit := (both (fitList strOk) (both (fitList fit149) (fitList fit78)))) (fun x : S26 => (x.f0, x.f1, x.f2)) (fun y => (⟨y.1, y.2.1, y.2.2⟩ : S26)) (fun _ => rfl) (fun y h => h) Try.underlying26 (by kernel_rfl) ?_
  show Fields enc Try.prog W [_, _, _] 0 _ _ _
  refine Fields.cons (off := 1) (by kernel_rfl) (by kernel_rfl) ?_ ?_
  · exact (Opens.slice' Try.underlying22 (by kernel_rfl) (Opens.string Try.underlying9))
  refine Fields.cons (off := 2) (by kernel_rfl) (by kernel_rfl) ?_ ?_
  · exact (Opens.slice' Try.underlying23 (by kernel_rfl) (opens149 _))
  refine Fields.last (by kernel_rfl) ?_
  exact (Opens.slice' Try.underlying24 (by kernel_rfl) (opens78 _))
/-- What is left to prove: of all arguments that fit, after some rounds the law answers true. -/
def laws_FnExactTreeSame.PureF : Prop := ∀ (a0 : S26) (a1 : S26), fit26 a0 → fit26 a1 → ∃ k, laws_FnExactTreeSame.f k a0.f0 a0.f1 a0.f2 a1.f0 a1.f1 a1.f2 = some true
end Go.Proofs.Ythcinellhbmcoaa.Q
