/- The types: their values, how long they are, how they lie in a heap. -/
import Derived.Test.YtgkcndokehglaaaGreatDoorHMRep
namespace Go.E
open Go.HM
set_option linter.unusedVariables false
def StrRep (cs : List V) (x : ByteArray) : Prop := cs = [.str x]
def IntRep (cs : List V) (x : Int) : Prop := cs = [.int .i64 x]
structure CodeIns where
  op : Int
  a : Int
def CodeIns.total (e : CodeIns) : Nat := 0
theorem CodeIns.total_eq (e : CodeIns) : e.total = 0 := rfl
inductive CodeIns.Rep (σ : Heap) : List V → CodeIns → Prop where
  | mk {e : CodeIns} : CodeIns.Rep σ [.int .i64 e.op, .int .i64 e.a] e
inductive CodeIns.Fit : CodeIns → Prop where
  | mk {e : CodeIns} : (-9223372036854775808 ≤ e.op ∧ e.op ≤ 9223372036854775807) → (-9223372036854775808 ≤ e.a ∧ e.a ≤ 9223372036854775807) → CodeIns.Fit e
theorem CodeIns.Rep.le {σ σ' : Heap} (hl : Lh σ σ') {cs : List V} {e : CodeIns} : CodeIns.Rep σ cs e → CodeIns.Rep σ' cs e
  | .mk  => .mk 
theorem CodeIns.Rep.len {σ : Heap} {cs : List V} {e : CodeIns} (h : CodeIns.Rep σ cs e) : cs.length = 2 := by cases h; rfl
structure CodeRef where
  mod : ByteArray
  name : ByteArray
def CodeRef.total (e : CodeRef) : Nat := e.mod.size + e.name.size
theorem CodeRef.total_eq (e : CodeRef) : e.total = e.mod.size + e.name.size := rfl
inductive CodeRef.Rep (σ : Heap) : List V → CodeRef → Prop where
  | mk {e : CodeRef} : CodeRef.Rep σ [.str e.mod, .str e.name] e
inductive CodeRef.Fit : CodeRef → Prop where
  | mk {e : CodeRef} : e.mod.size ≤ 9223372036854775807 → e.name.size ≤ 9223372036854775807 → CodeRef.Fit e
theorem CodeRef.Rep.le {σ σ' : Heap} (hl : Lh σ σ') {cs : List V} {e : CodeRef} : CodeRef.Rep σ cs e → CodeRef.Rep σ' cs e
  | .mk  => .mk 
theorem CodeRef.Rep.len {σ : Heap} {cs : List V} {e : CodeRef} (h : CodeRef.Rep σ cs e) : cs.length = 2 := by cases h; rfl
structure CodeFun where
  name : ByteArray
  pub : Bool
  args : List Int
  type : Int
  slots : Int
  code : List CodeIns
def CodeFun.total (e : CodeFun) : Nat := e.name.size + (e.args.length + totS (fun _ => 0) e.args) + (e.code.length + totS CodeIns.total e.code)
theorem CodeFun.total_eq (e : CodeFun) : e.total = e.name.size + (e.args.length + totS (fun _ => 0) e.args) + (e.code.length + totS CodeIns.total e.code) := rfl
inductive CodeFun.Rep (σ : Heap) : List V → CodeFun → Prop where
  | mk {e : CodeFun} {a0 a1 : V} : RepS 1 IntRep σ a0 e.args → RepS 2 (CodeIns.Rep σ) σ a1 e.code → CodeFun.Rep σ [.str e.name, .bool e.pub, a0, .int .i64 e.type, .int .i64 e.slots, a1] e
inductive CodeFun.Fit : CodeFun → Prop where
  | mk {e : CodeFun} : e.name.size ≤ 9223372036854775807 → e.args.length ≤ 9223372036854775807 → (∀ x, x ∈ e.args → (-9223372036854775808 ≤ x ∧ x ≤ 9223372036854775807)) → (-9223372036854775808 ≤ e.type ∧ e.type ≤ 9223372036854775807) → (-9223372036854775808 ≤ e.slots ∧ e.slots ≤ 9223372036854775807) → e.code.length ≤ 9223372036854775807 → (∀ x, x ∈ e.code → CodeIns.Fit x) → CodeFun.Fit e
theorem CodeFun.Rep.le {σ σ' : Heap} (hl : Lh σ σ') {cs : List V} {e : CodeFun} : CodeFun.Rep σ cs e → CodeFun.Rep σ' cs e
  | .mk h0 h1 => .mk (h0.le hl) (h1.mono hl fun cs x hx hc => CodeIns.Rep.le hl hc)
theorem CodeFun.Rep.len {σ : Heap} {cs : List V} {e : CodeFun} (h : CodeFun.Rep σ cs e) : cs.length = 6 := by cases h; rfl
structure CodeObj where
  refs : List CodeRef
  funs : List CodeFun
def CodeObj.total (e : CodeObj) : Nat := (e.refs.length + totS CodeRef.total e.refs) + (e.funs.length + totS CodeFun.total e.funs)
theorem CodeObj.total_eq (e : CodeObj) : e.total = (e.refs.length + totS CodeRef.total e.refs) + (e.funs.length + totS CodeFun.total e.funs) := rfl
inductive CodeObj.Rep (σ : Heap) : List V → CodeObj → Prop where
  | mk {e : CodeObj} {a0 a1 : V} : RepS 2 (CodeRef.Rep σ) σ a0 e.refs → RepS 6 (CodeFun.Rep σ) σ a1 e.funs → CodeObj.Rep σ [a0, a1] e
inductive CodeObj.Fit : CodeObj → Prop where
  | mk {e : CodeObj} : e.refs.length ≤ 9223372036854775807 → (∀ x, x ∈ e.refs → CodeRef.Fit x) → e.funs.length ≤ 9223372036854775807 → (∀ x, x ∈ e.funs → CodeFun.Fit x) → CodeObj.Fit e
theorem CodeObj.Rep.le {σ σ' : Heap} (hl : Lh σ σ') {cs : List V} {e : CodeObj} : CodeObj.Rep σ cs e → CodeObj.Rep σ' cs e
  | .mk h0 h1 => .mk (h0.mono hl fun cs x hx hc => CodeRef.Rep.le hl hc) (h1.mono hl fun cs x hx hc => CodeFun.Rep.le hl hc)
theorem CodeObj.Rep.len {σ : Heap} {cs : List V} {e : CodeObj} (h : CodeObj.Rep σ cs e) : cs.length = 2 := by cases h; rfl
end Go.E
