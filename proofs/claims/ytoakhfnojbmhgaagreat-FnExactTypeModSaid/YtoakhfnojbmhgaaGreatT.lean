/- The types: their values, how long they are, how they lie in a heap. -/
import Derived.Test.YtoakhfnojbmhgaaGreatHMRep
namespace Go.G
open Go.HM
set_option linter.unusedVariables false
def StrRep (cs : List V) (x : ByteArray) : Prop := cs = [.str x]
def IntRep (cs : List V) (x : Int) : Prop := cs = [.int .i64 x]
structure FaceSig where
  name : ByteArray
  args : List Int
  type : Int
def FaceSig.total (e : FaceSig) : Nat := e.name.size + (e.args.length + totS (fun _ => 0) e.args)
theorem FaceSig.total_eq (e : FaceSig) : e.total = e.name.size + (e.args.length + totS (fun _ => 0) e.args) := rfl
inductive FaceSig.Rep (σ : Heap) : List V → FaceSig → Prop where
  | mk {e : FaceSig} {a0 : V} : RepS 1 IntRep σ a0 e.args → FaceSig.Rep σ [.str e.name, a0, .int .i64 e.type] e
inductive FaceSig.Fit : FaceSig → Prop where
  | mk {e : FaceSig} : e.name.size ≤ 9223372036854775807 → e.args.length ≤ 9223372036854775807 → (∀ x, x ∈ e.args → (-9223372036854775808 ≤ x ∧ x ≤ 9223372036854775807)) → (-9223372036854775808 ≤ e.type ∧ e.type ≤ 9223372036854775807) → FaceSig.Fit e
theorem FaceSig.Rep.le {σ σ' : Heap} (hl : Lh σ σ') {cs : List V} {e : FaceSig} : FaceSig.Rep σ cs e → FaceSig.Rep σ' cs e
  | .mk h0 => .mk (h0.le hl)
theorem FaceSig.Rep.len {σ : Heap} {cs : List V} {e : FaceSig} (h : FaceSig.Rep σ cs e) : cs.length = 3 := by cases h; rfl
structure TreeArg where
  name : ByteArray
  type : Int
def TreeArg.total (e : TreeArg) : Nat := e.name.size
theorem TreeArg.total_eq (e : TreeArg) : e.total = e.name.size := rfl
inductive TreeArg.Rep (σ : Heap) : List V → TreeArg → Prop where
  | mk {e : TreeArg} : TreeArg.Rep σ [.str e.name, .int .i64 e.type] e
inductive TreeArg.Fit : TreeArg → Prop where
  | mk {e : TreeArg} : e.name.size ≤ 9223372036854775807 → (-9223372036854775808 ≤ e.type ∧ e.type ≤ 9223372036854775807) → TreeArg.Fit e
theorem TreeArg.Rep.le {σ σ' : Heap} (hl : Lh σ σ') {cs : List V} {e : TreeArg} : TreeArg.Rep σ cs e → TreeArg.Rep σ' cs e
  | .mk  => .mk 
theorem TreeArg.Rep.len {σ : Heap} {cs : List V} {e : TreeArg} (h : TreeArg.Rep σ cs e) : cs.length = 2 := by cases h; rfl
structure TreeExpr where
  kind : Int
  num : Int
  name : ByteArray
  mod : ByteArray
  kids : List TreeExpr
mutual
def TreeExpr.total : TreeExpr → Nat
  | ⟨kind, num, name, mod, kids⟩ => name.size + mod.size + (kids.length + TreeExpr.totalS kids)
def TreeExpr.totalS : List TreeExpr → Nat
  | [] => 0
  | e :: es => e.total + TreeExpr.totalS es
end
theorem TreeExpr.totalS_eq : ∀ l, TreeExpr.totalS l = totS TreeExpr.total l
  | [] => rfl
  | e :: es => by rw [TreeExpr.totalS, totS, TreeExpr.totalS_eq]
theorem TreeExpr.total_eq (e : TreeExpr) : e.total = e.name.size + e.mod.size + (e.kids.length + totS TreeExpr.total e.kids) := by
  cases e; rw [TreeExpr.total, TreeExpr.totalS_eq]
inductive TreeExpr.Rep (σ : Heap) : List V → TreeExpr → Prop where
  | mk {e : TreeExpr} {a0 : V} : RepS 5 (TreeExpr.Rep σ) σ a0 e.kids → TreeExpr.Rep σ [.int .i64 e.kind, .int .i64 e.num, .str e.name, .str e.mod, a0] e
inductive TreeExpr.Fit : TreeExpr → Prop where
  | mk {e : TreeExpr} : (-9223372036854775808 ≤ e.kind ∧ e.kind ≤ 9223372036854775807) → (-9223372036854775808 ≤ e.num ∧ e.num ≤ 9223372036854775807) → e.name.size ≤ 9223372036854775807 → e.mod.size ≤ 9223372036854775807 → e.kids.length ≤ 9223372036854775807 → (∀ x, x ∈ e.kids → TreeExpr.Fit x) → TreeExpr.Fit e
theorem TreeExpr.Rep.le {σ σ' : Heap} (hl : Lh σ σ') : ∀ {cs : List V} (e : TreeExpr), TreeExpr.Rep σ cs e → TreeExpr.Rep σ' cs e
  | _, e, .mk h0 => .mk (h0.mono hl fun cs x hx hc => TreeExpr.Rep.le hl x hc)
termination_by _ e => SizeOf.sizeOf e
decreasing_by
  cases e
  have := List.sizeOf_lt_of_mem hx
  simp at this ⊢
  omega
theorem TreeExpr.Rep.len {σ : Heap} {cs : List V} {e : TreeExpr} (h : TreeExpr.Rep σ cs e) : cs.length = 5 := by cases h; rfl
structure TreeFun where
  name : ByteArray
  pub : Bool
  args : List TreeArg
  type : Int
  body : TreeExpr
def TreeFun.total (e : TreeFun) : Nat := e.name.size + (e.args.length + totS TreeArg.total e.args) + e.body.total
theorem TreeFun.total_eq (e : TreeFun) : e.total = e.name.size + (e.args.length + totS TreeArg.total e.args) + e.body.total := rfl
inductive TreeFun.Rep (σ : Heap) : List V → TreeFun → Prop where
  | mk {e : TreeFun} {a0 a1 : V} : RepS 2 (TreeArg.Rep σ) σ a0 e.args → RepS 5 (TreeExpr.Rep σ) σ a1 e.body.kids → TreeFun.Rep σ [.str e.name, .bool e.pub, a0, .int .i64 e.type, .int .i64 e.body.kind, .int .i64 e.body.num, .str e.body.name, .str e.body.mod, a1] e
inductive TreeFun.Fit : TreeFun → Prop where
  | mk {e : TreeFun} : e.name.size ≤ 9223372036854775807 → e.args.length ≤ 9223372036854775807 → (∀ x, x ∈ e.args → TreeArg.Fit x) → (-9223372036854775808 ≤ e.type ∧ e.type ≤ 9223372036854775807) → TreeExpr.Fit e.body → TreeFun.Fit e
theorem TreeFun.Rep.le {σ σ' : Heap} (hl : Lh σ σ') {cs : List V} {e : TreeFun} : TreeFun.Rep σ cs e → TreeFun.Rep σ' cs e
  | .mk h0 h1 => .mk (h0.mono hl fun cs x hx hc => TreeArg.Rep.le hl hc) (h1.mono hl fun cs x hx hc => TreeExpr.Rep.le hl x hc)
theorem TreeFun.Rep.len {σ : Heap} {cs : List V} {e : TreeFun} (h : TreeFun.Rep σ cs e) : cs.length = 9 := by cases h; rfl
structure TreeMod where
  uses : List ByteArray
  funs : List TreeFun
  main : List TreeExpr
def TreeMod.total (e : TreeMod) : Nat := (e.uses.length + totS ByteArray.size e.uses) + (e.funs.length + totS TreeFun.total e.funs) + (e.main.length + totS TreeExpr.total e.main)
theorem TreeMod.total_eq (e : TreeMod) : e.total = (e.uses.length + totS ByteArray.size e.uses) + (e.funs.length + totS TreeFun.total e.funs) + (e.main.length + totS TreeExpr.total e.main) := rfl
inductive TreeMod.Rep (σ : Heap) : List V → TreeMod → Prop where
  | mk {e : TreeMod} {a0 a1 a2 : V} : RepS 1 StrRep σ a0 e.uses → RepS 9 (TreeFun.Rep σ) σ a1 e.funs → RepS 5 (TreeExpr.Rep σ) σ a2 e.main → TreeMod.Rep σ [a0, a1, a2] e
inductive TreeMod.Fit : TreeMod → Prop where
  | mk {e : TreeMod} : e.uses.length ≤ 9223372036854775807 → (∀ x, x ∈ e.uses → x.size ≤ 9223372036854775807) → e.funs.length ≤ 9223372036854775807 → (∀ x, x ∈ e.funs → TreeFun.Fit x) → e.main.length ≤ 9223372036854775807 → (∀ x, x ∈ e.main → TreeExpr.Fit x) → TreeMod.Fit e
theorem TreeMod.Rep.le {σ σ' : Heap} (hl : Lh σ σ') {cs : List V} {e : TreeMod} : TreeMod.Rep σ cs e → TreeMod.Rep σ' cs e
  | .mk h0 h1 h2 => .mk (h0.le hl) (h1.mono hl fun cs x hx hc => TreeFun.Rep.le hl hc) (h2.mono hl fun cs x hx hc => TreeExpr.Rep.le hl x hc)
theorem TreeMod.Rep.len {σ : Heap} {cs : List V} {e : TreeMod} (h : TreeMod.Rep σ cs e) : cs.length = 3 := by cases h; rfl
structure TypeFace where
  mod : ByteArray
  sigs : List FaceSig
def TypeFace.total (e : TypeFace) : Nat := e.mod.size + (e.sigs.length + totS FaceSig.total e.sigs)
theorem TypeFace.total_eq (e : TypeFace) : e.total = e.mod.size + (e.sigs.length + totS FaceSig.total e.sigs) := rfl
inductive TypeFace.Rep (σ : Heap) : List V → TypeFace → Prop where
  | mk {e : TypeFace} {a0 : V} : RepS 3 (FaceSig.Rep σ) σ a0 e.sigs → TypeFace.Rep σ [.str e.mod, a0] e
inductive TypeFace.Fit : TypeFace → Prop where
  | mk {e : TypeFace} : e.mod.size ≤ 9223372036854775807 → e.sigs.length ≤ 9223372036854775807 → (∀ x, x ∈ e.sigs → FaceSig.Fit x) → TypeFace.Fit e
theorem TypeFace.Rep.le {σ σ' : Heap} (hl : Lh σ σ') {cs : List V} {e : TypeFace} : TypeFace.Rep σ cs e → TypeFace.Rep σ' cs e
  | .mk h0 => .mk (h0.mono hl fun cs x hx hc => FaceSig.Rep.le hl hc)
theorem TypeFace.Rep.len {σ : Heap} {cs : List V} {e : TypeFace} (h : TypeFace.Rep σ cs e) : cs.length = 2 := by cases h; rfl
end Go.G
