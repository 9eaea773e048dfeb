/- What the arguments of the law FnExactObjOk fit, and that whatever is read of them is of the kinds that its printed functions speak of. -/
import Derived.Test.YtnebeklmfenikaaQObjOkx9
import Derived.Test.YtnebeklmfenikaaOpen
namespace Go.Proofs.Ytnebeklmfenikaa.Q
open Go.RowKit Go.Proofs.YtnebeklmfenikaaW.PrintWords Go.Proofs.Ytnebeklmfenikaa.Open
set_option linter.unusedVariables false

def fit123 (x : S123) : Prop := strOk x.f0 ∧ strOk x.f1
theorem opens123 {H : Type} {enc : TypeId × Value → H} {W : World} (m : Nat) : Opens enc Try.prog W 123 k123 fit123 m := by
  refine Opens.less (m := m + 1) ?_ (by omega)
  refine Opens.struct (fit := (both strOk strOk)) (fun x : S123 => (x.f0, x.f1)) (fun y => (⟨y.1, y.2⟩ : S123)) (fun _ => rfl) (fun y h => h) Try.underlying123 (by kernel_rfl) ?_
  show Fields enc Try.prog W [_, _] 0 _ _ _
  refine Fields.cons (off := 1) (by kernel_rfl) (by kernel_rfl) ?_ ?_
  · exact (Opens.string Try.underlying9)
  refine Fields.last (by kernel_rfl) ?_
  exact (Opens.string Try.underlying9)
def fit162 (x : S162) : Prop := rng x.f0 ∧ rng x.f1
theorem opens162 {H : Type} {enc : TypeId × Value → H} {W : World} (m : Nat) : Opens enc Try.prog W 162 k162 fit162 m := by
  refine Opens.less (m := m + 1) ?_ (by omega)
  refine Opens.struct (fit := (both rng rng)) (fun x : S162 => (x.f0, x.f1)) (fun y => (⟨y.1, y.2⟩ : S162)) (fun _ => rfl) (fun y h => h) Try.underlying162 (by kernel_rfl) ?_
  show Fields enc Try.prog W [_, _] 0 _ _ _
  refine Fields.cons (off := 1) (by kernel_rfl) (by kernel_rfl) ?_ ?_
  · exact (Opens.i64 Try.underlying3)
  refine Fields.last (by kernel_rfl) ?_
  exact (Opens.i64 Try.underlying3)
def fit127 (x : S127) : Prop := strOk x.f0 ∧ anyb x.f1 ∧ (fitList rng) x.f2 ∧ rng x.f3 ∧ rng x.f4 ∧ (fitList fit162) x.f5
theorem opens127 {H : Type} {enc : TypeId × Value → H} {W : World} (m : Nat) : Opens enc Try.prog W 127 k127 fit127 m := by
  refine Opens.less (m := m + 1) ?_ (by omega)
  refine Opens.struct (fit := (both strOk (both anyb (both (fitList rng) (both rng (both rng (fitList fit162))))))) (fun x : S127 => (x.f0, x.f1, x.f2, x.f3, x.f4, x.f5)) (fun y => (⟨y.1, y.2.1, y.2.2.1, y.2.2.2.1, y.2.2.2.2.1, y.2.2.2.2.2⟩ : S127)) (fun _ => rfl) (fun y h => h) Try.underlying127 (by kernel_rfl) ?_
  show Fields enc Try.prog W [_, _, _, _, _, _] 0 _ _ _
  refine Fields.cons (off := 1) (by kernel_rfl) (by kernel_rfl) ?_ ?_
  · exact (Opens.string Try.underlying9)
  refine Fields.cons (off := 2) (by kernel_rfl) (by kernel_rfl) ?_ ?_
  · exact (Opens.bool Try.underlying4)
  refine Fields.cons (off := 3) (by kernel_rfl) (by kernel_rfl) ?_ ?_
  · exact (Opens.slice' Try.underlying40 (by kernel_rfl) (Opens.i64 Try.underlying3))
  refine Fields.cons (off := 4) (by kernel_rfl) (by kernel_rfl) ?_ ?_
  · exact (Opens.i64 Try.underlying3)
  refine Fields.cons (off := 5) (by kernel_rfl) (by kernel_rfl) ?_ ?_
  · exact (Opens.i64 Try.underlying3)
  refine Fields.last (by kernel_rfl) ?_
  exact (Opens.slice' Try.underlying125 (by kernel_rfl) (opens162 _))
def fit25 (x : S25) : Prop := (fitList fit123) x.f0 ∧ (fitList fit127) x.f1
theorem opens25 {H : Type} {enc : TypeId × Value → H} {W : World} (m : Nat) : Opens enc Try.prog W 25 k25 fit25 m := by
  refine Opens.less (m := m + 1) ?_ (by omega)
  refine Opens.struct (fit := (both (fitList fit123) (fitList fit127))) (fun x : S25 => (x.f0, x.f1)) (fun y => (⟨y.1, y.2⟩ : S25)) (fun _ => rfl) (fun y h => h) Try.underlying25 (by kernel_rfl) ?_
  show Fields enc Try.prog W [_, _] 0 _ _ _
  refine Fields.cons (off := 1) (by kernel_rfl) (by kernel_rfl) ?_ ?_
  · exact (Opens.slice' Try.underlying22 (by kernel_rfl) (opens123 _))
  refine Fields.last (by kernel_rfl) ?_
  exact (Opens.slice' Try.underlying23 (by kernel_rfl) (opens127 _))
/-- What is left to prove: of all arguments that fit, after some rounds the law answers true. -/
def laws_FnExactObjOk.PureF : Prop := ∀ (a0 : S25), fit25 a0 → ∃ k, laws_FnExactObjOk.f k a0.f0 a0.f1 = some true
end Go.Proofs.Ytnebeklmfenikaa.Q
