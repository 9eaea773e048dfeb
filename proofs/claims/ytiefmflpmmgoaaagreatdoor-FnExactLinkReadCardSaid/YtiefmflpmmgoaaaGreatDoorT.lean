/- The types: their values, how long they are, how they lie in a heap. -/
import Derived.Test.YtiefmflpmmgoaaaGreatDoorHMRep
namespace Go.F
open Go.HM
set_option linter.unusedVariables false
def StrRep (cs : List V) (x : ByteArray) : Prop := cs = [.str x]
def IntRep (cs : List V) (x : Int) : Prop := cs = [.int .i64 x]
structure CodeIns where
  op : Int
  a : Int
def CodeIns.total (e : CodeIns) : Nat := 0
theorem CodeIns.total_eq (e : CodeIns) : e.total = 0 := rfl
inductive CodeIns.Rep (σ : Heap) : List V → CodeIns → Prop where
  | mk {e : CodeIns} : CodeIns.Rep σ [.int .i64 e.op, .int .i64 e.a] e
inductive CodeIns.Fit : CodeIns → Prop where
  | mk {e : CodeIns} : (-9223372036854775808 ≤ e.op ∧ e.op ≤ 9223372036854775807) → (-9223372036854775808 ≤ e.a ∧ e.a ≤ 9223372036854775807) → CodeIns.Fit e
theorem CodeIns.Rep.le {σ σ' : Heap} (hl : Lh σ σ') {cs : List V} {e : CodeIns} : CodeIns.Rep σ cs e → CodeIns.Rep σ' cs e
  | .mk  => .mk 
theorem CodeIns.Rep.len {σ : Heap} {cs : List V} {e : CodeIns} (h : CodeIns.Rep σ cs e) : cs.length = 2 := by cases h; rfl
structure CodeFun where
  name : ByteArray
  pub : Bool
  args : List Int
  type : Int
  slots : Int
  code : List CodeIns
def CodeFun.total (e : CodeFun) : Nat := e.name.size + (e.args.length + totS (fun _ => 0) e.args) + (e.code.length + totS CodeIns.total e.code)
theorem CodeFun.total_eq (e : CodeFun) : e.total = e.name.size + (e.args.length + totS (fun _ => 0) e.args) + (e.code.length + totS CodeIns.total e.code) := rfl
inductive CodeFun.Rep (σ : Heap) : List V → CodeFun → Prop where
  | mk {e : CodeFun} {a0 a1 : V} : RepS 1 IntRep σ a0 e.args → RepS 2 (CodeIns.Rep σ) σ a1 e.code → CodeFun.Rep σ [.str e.name, .bool e.pub, a0, .int .i64 e.type, .int .i64 e.slots, a1] e
inductive CodeFun.Fit : CodeFun → Prop where
  | mk {e : CodeFun} : e.name.size ≤ 9223372036854775807 → e.args.length ≤ 9223372036854775807 → (∀ x, x ∈ e.args → (-9223372036854775808 ≤ x ∧ x ≤ 9223372036854775807)) → (-9223372036854775808 ≤ e.type ∧ e.type ≤ 9223372036854775807) → (-9223372036854775808 ≤ e.slots ∧ e.slots ≤ 9223372036854775807) → e.code.length ≤ 9223372036854775807 → (∀ x, x ∈ e.code → CodeIns.Fit x) → CodeFun.Fit e
theorem CodeFun.Rep.le {σ σ' : Heap} (hl : Lh σ σ') {cs : List V} {e : CodeFun} : CodeFun.Rep σ cs e → CodeFun.Rep σ' cs e
  | .mk h0 h1 => .mk (h0.le hl) (h1.mono hl fun cs x hx hc => CodeIns.Rep.le hl hc)
theorem CodeFun.Rep.len {σ : Heap} {cs : List V} {e : CodeFun} (h : CodeFun.Rep σ cs e) : cs.length = 6 := by cases h; rfl
structure LinkFun where
  mod : ByteArray
  name : ByteArray
  args : List Int
  type : Int
  slots : Int
  code : List CodeIns
def LinkFun.total (e : LinkFun) : Nat := e.mod.size + e.name.size + (e.args.length + totS (fun _ => 0) e.args) + (e.code.length + totS CodeIns.total e.code)
theorem LinkFun.total_eq (e : LinkFun) : e.total = e.mod.size + e.name.size + (e.args.length + totS (fun _ => 0) e.args) + (e.code.length + totS CodeIns.total e.code) := rfl
inductive LinkFun.Rep (σ : Heap) : List V → LinkFun → Prop where
  | mk {e : LinkFun} {a0 a1 : V} : RepS 1 IntRep σ a0 e.args → RepS 2 (CodeIns.Rep σ) σ a1 e.code → LinkFun.Rep σ [.str e.mod, .str e.name, a0, .int .i64 e.type, .int .i64 e.slots, a1] e
inductive LinkFun.Fit : LinkFun → Prop where
  | mk {e : LinkFun} : e.mod.size ≤ 9223372036854775807 → e.name.size ≤ 9223372036854775807 → e.args.length ≤ 9223372036854775807 → (∀ x, x ∈ e.args → (-9223372036854775808 ≤ x ∧ x ≤ 9223372036854775807)) → (-9223372036854775808 ≤ e.type ∧ e.type ≤ 9223372036854775807) → (-9223372036854775808 ≤ e.slots ∧ e.slots ≤ 9223372036854775807) → e.code.length ≤ 9223372036854775807 → (∀ x, x ∈ e.code → CodeIns.Fit x) → LinkFun.Fit e
theorem LinkFun.Rep.le {σ σ' : Heap} (hl : Lh σ σ') {cs : List V} {e : LinkFun} : LinkFun.Rep σ cs e → LinkFun.Rep σ' cs e
  | .mk h0 h1 => .mk (h0.le hl) (h1.mono hl fun cs x hx hc => CodeIns.Rep.le hl hc)
theorem LinkFun.Rep.len {σ : Heap} {cs : List V} {e : LinkFun} (h : LinkFun.Rep σ cs e) : cs.length = 6 := by cases h; rfl
structure LinkImage where
  funs : List LinkFun
  mains : List Int
def LinkImage.total (e : LinkImage) : Nat := (e.funs.length + totS LinkFun.total e.funs) + (e.mains.length + totS (fun _ => 0) e.mains)
theorem LinkImage.total_eq (e : LinkImage) : e.total = (e.funs.length + totS LinkFun.total e.funs) + (e.mains.length + totS (fun _ => 0) e.mains) := rfl
inductive LinkImage.Rep (σ : Heap) : List V → LinkImage → Prop where
  | mk {e : LinkImage} {a0 a1 : V} : RepS 6 (LinkFun.Rep σ) σ a0 e.funs → RepS 1 IntRep σ a1 e.mains → LinkImage.Rep σ [a0, a1] e
inductive LinkImage.Fit : LinkImage → Prop where
  | mk {e : LinkImage} : e.funs.length ≤ 9223372036854775807 → (∀ x, x ∈ e.funs → LinkFun.Fit x) → e.mains.length ≤ 9223372036854775807 → (∀ x, x ∈ e.mains → (-9223372036854775808 ≤ x ∧ x ≤ 9223372036854775807)) → LinkImage.Fit e
theorem LinkImage.Rep.le {σ σ' : Heap} (hl : Lh σ σ') {cs : List V} {e : LinkImage} : LinkImage.Rep σ cs e → LinkImage.Rep σ' cs e
  | .mk h0 h1 => .mk (h0.mono hl fun cs x hx hc => LinkFun.Rep.le hl hc) (h1.le hl)
theorem LinkImage.Rep.len {σ : Heap} {cs : List V} {e : LinkImage} (h : LinkImage.Rep σ cs e) : cs.length = 2 := by cases h; rfl
end Go.F
