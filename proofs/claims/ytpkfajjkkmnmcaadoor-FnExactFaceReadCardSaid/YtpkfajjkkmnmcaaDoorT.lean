/- The types: their values, how long they are, how they lie in a heap. -/
import Derived.Test.YtpkfajjkkmnmcaaDoorHMRep
namespace Go.R
open Go.HM
set_option linter.unusedVariables false
def StrRep (cs : List V) (x : ByteArray) : Prop := cs = [.str x]
def IntRep (cs : List V) (x : Int) : Prop := cs = [.int .i64 x]
structure FaceSig where
  name : ByteArray
  args : List Int
  type : Int
def FaceSig.total (e : FaceSig) : Nat := e.name.size + (e.args.length + totS (fun _ => 0) e.args)
theorem FaceSig.total_eq (e : FaceSig) : e.total = e.name.size + (e.args.length + totS (fun _ => 0) e.args) := rfl
inductive FaceSig.Rep (σ : Heap) : List V → FaceSig → Prop where
  | mk {e : FaceSig} {a0 : V} : RepS 1 IntRep σ a0 e.args → FaceSig.Rep σ [.str e.name, a0, .int .i64 e.type] e
inductive FaceSig.Fit : FaceSig → Prop where
  | mk {e : FaceSig} : e.name.size ≤ 9223372036854775807 → e.args.length ≤ 9223372036854775807 → (∀ x, x ∈ e.args → (-9223372036854775808 ≤ x ∧ x ≤ 9223372036854775807)) → (-9223372036854775808 ≤ e.type ∧ e.type ≤ 9223372036854775807) → FaceSig.Fit e
theorem FaceSig.Rep.le {σ σ' : Heap} (hl : Lh σ σ') {cs : List V} {e : FaceSig} : FaceSig.Rep σ cs e → FaceSig.Rep σ' cs e
  | .mk h0 => .mk (h0.le hl)
theorem FaceSig.Rep.len {σ : Heap} {cs : List V} {e : FaceSig} (h : FaceSig.Rep σ cs e) : cs.length = 3 := by cases h; rfl
end Go.R
