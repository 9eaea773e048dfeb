/- Values with their rows, and the places of their marks. -/
import Derived.Test.YtghkdjfgbaoplaaMkA
import Derived.Test.YtghkdjfgbaoplaaHMOwn
set_option linter.unusedVariables false
set_option linter.unusedSimpArgs false
namespace Go.B
open Go.HM Go.Proofs
def RInt (σ : Heap) (cs : List V) (x : Int) (R : List Nat) : Prop := cs = [.int .i64 x] ∧ R = []
theorem RInt.keep {σ σ' : Heap} (cs : List V) (x : Int) (R : List Nat) (h : RInt σ cs x R) (_ : ∀ j, j ∈ R → σ'[j]? = σ[j]?) : RInt σ' cs x R := h
theorem RInt.le {σ σ' : Heap} (hl : Lh σ σ') (cs : List V) (x : Int) (R : List Nat) (h : RInt σ cs x R) : RInt σ' cs x R := h
theorem RInt.lt {σ : Heap} (cs : List V) (x : Int) (R : List Nat) (h : RInt σ cs x R) : ∀ j, j ∈ R → j < σ.length := fun j hj => by
  rw [h.2] at hj
  cases hj
theorem RInt.rep {σ : Heap} (cs : List V) (x : Int) (R : List Nat) (h : RInt σ cs x R) : IntRep cs x := h.1
theorem RInt.lv {σ : Heap} (r o : Nat) (cs : List V) (x : Int) (R : List Nat) (hw : ∃ row, σ[r]? = some (some row) ∧ row.ro = false) (hr : rdc σ r o 1 = some cs) (h : RInt σ cs x R) (hn : R.Nodup) (hrn : r ∉ R) : ∃ ls, PInt σ r o ls ∧ LOk r o (o + 1) R ls ∧ ls.length ≤ 8 := by
  obtain ⟨rfl, rfl⟩ := h
  exact ⟨_, ⟨fl_of (f := 0) (x := .int .i64 x) hw hr rfl rfl, rfl⟩, LOk.one _ _ _, by simp⟩
theorem PInt.of {σ : Heap} (r o : Nat) (cs : List V) (x : Int) (hw : ∃ row, σ[r]? = some (some row) ∧ row.ro = false) (hr : rdc σ r o 1 = some cs) (h : IntRep cs x) : ∃ ls, PInt σ r o ls ∧ ls.length ≤ 8 := by
  unfold IntRep at h
  subst h
  exact ⟨_, ⟨fl_of (f := 0) (x := .int .i64 x) hw hr rfl rfl, rfl⟩, by simp⟩
def CodeIns.wt (x : CodeIns) : Nat := 0
theorem CodeIns.wt_le (x : CodeIns) : x.wt ≤ x.total := by
  unfold CodeIns.wt
  rw [CodeIns.total_eq]
  omega
def RCodeIns (σ : Heap) (cs : List V) (x : CodeIns) (R : List Nat) : Prop := cs = [.int .i64 x.op, .int .i64 x.a] ∧ R = []
theorem RCodeIns.keep {σ σ' : Heap} (cs : List V) (x : CodeIns) (R : List Nat) (h : RCodeIns σ cs x R) (hk : ∀ j, j ∈ R → σ'[j]? = σ[j]?) : RCodeIns σ' cs x R := by
  obtain ⟨rfl, rfl⟩ := h
  exact ⟨rfl, rfl⟩
theorem RCodeIns.le {σ σ' : Heap} (hl : Lh σ σ') (cs : List V) (x : CodeIns) (R : List Nat) (h : RCodeIns σ cs x R) : RCodeIns σ' cs x R := by
  obtain ⟨rfl, rfl⟩ := h
  exact ⟨rfl, rfl⟩
theorem RCodeIns.lt {σ : Heap} (cs : List V) (x : CodeIns) (R : List Nat) (h : RCodeIns σ cs x R) : ∀ j, j ∈ R → j < σ.length := fun j hj => by
  obtain ⟨rfl, rfl⟩ := h
  cases hj
theorem RCodeIns.rep {σ : Heap} (cs : List V) (x : CodeIns) (R : List Nat) (h : RCodeIns σ cs x R) : CodeIns.Rep σ cs x := by
  obtain ⟨rfl, rfl⟩ := h
  exact .mk
theorem RCodeIns.len {σ : Heap} {cs : List V} {x : CodeIns} {R : List Nat} (h : RCodeIns σ cs x R) : cs.length = 2 := by
  obtain ⟨rfl, rfl⟩ := h
  rfl
theorem RCodeIns.lv {σ : Heap} (r o : Nat) (cs : List V) (x : CodeIns) (R : List Nat) (hw : ∃ row, σ[r]? = some (some row) ∧ row.ro = false) (hr : rdc σ r o 2 = some cs) (h : RCodeIns σ cs x R) (hn : R.Nodup) (hrn : r ∉ R) : ∃ ls, PCodeIns σ r o ls ∧ LOk r o (o + 2) R ls ∧ ls.length ≤ 8 + 8 * x.wt := by
  obtain ⟨rfl, rfl⟩ := h
  refine ⟨_, ⟨fl_of (f := 0) (x := .int .i64 x.op) hw hr rfl rfl, fl_of (f := 1) (x := .int .i64 x.a) hw hr rfl rfl, rfl⟩, ?_, ?_⟩
  · refine LOk.app (m := o + 1) (R1 := []) (R2 := []) (LOk.one _ r (o + 0)) ?_ (by omega) (by omega) hn hrn
    exact LOk.one _ r (o + 1)
  · unfold CodeIns.wt
    simp only [List.length_append, List.length_cons, List.length_nil]
    omega
theorem PCodeIns.of {σ : Heap} (r o : Nat) (cs : List V) (x : CodeIns) (hw : ∀ (r : Nat) row, σ[r]? = some (some row) → row.ro = false) (hr : rdc σ r o 2 = some cs) (h : CodeIns.Rep σ cs x) : ∃ ls, PCodeIns σ r o ls ∧ ls.length ≤ 8 + 8 * x.total := by
  obtain ⟨row0, hrow0, _, _⟩ := rdc_some hr
  have hw0 : ∃ row, σ[r]? = some (some row) ∧ row.ro = false := ⟨row0, hrow0, hw r row0 hrow0⟩
  cases h with
  | mk =>
  refine ⟨_, ⟨fl_of (f := 0) (x := .int .i64 x.op) hw0 hr rfl rfl, fl_of (f := 1) (x := .int .i64 x.a) hw0 hr rfl rfl, rfl⟩, ?_⟩
  rw [CodeIns.total_eq]
  simp only [List.length_append, List.length_cons, List.length_nil]
  omega
def LinkFun.wt (x : LinkFun) : Nat := 0 + x.args.length + x.code.length + totS CodeIns.wt x.code
theorem LinkFun.wt_le (x : LinkFun) : x.wt ≤ x.total := by
  unfold LinkFun.wt
  rw [LinkFun.total_eq]
  have h5 := totS_mono CodeIns.wt_le x.code
  omega
def RLinkFun (σ : Heap) (cs : List V) (x : LinkFun) (R : List Nat) : Prop := ∃ (v2 : V) (R2 : List Nat) (v5 : V) (R5 : List Nat), cs = [.str x.mod, .str x.name, v2, .int .i64 x.type, .int .i64 x.slots, v5] ∧ RepR 1 (RInt σ) σ v2 x.args R2 ∧ RepR 2 (RCodeIns σ) σ v5 x.code R5 ∧ R = (R2 ++ R5)
theorem RLinkFun.keep {σ σ' : Heap} (cs : List V) (x : LinkFun) (R : List Nat) (h : RLinkFun σ cs x R) (hk : ∀ j, j ∈ R → σ'[j]? = σ[j]?) : RLinkFun σ' cs x R := by
  obtain ⟨v2, R2, v5, R5, rfl, h2, h5, rfl⟩ := h
  exact ⟨v2, R2, v5, R5, rfl, h2.keep (fun j hj => hk j (List.mem_append_left _ hj)) (fun cs x R h k => RInt.keep cs x R h k), h5.keep (fun j hj => hk j (List.mem_append_right _ hj)) (fun cs x R h k => RCodeIns.keep cs x R h k), rfl⟩
theorem RLinkFun.le {σ σ' : Heap} (hl : Lh σ σ') (cs : List V) (x : LinkFun) (R : List Nat) (h : RLinkFun σ cs x R) : RLinkFun σ' cs x R := by
  obtain ⟨v2, R2, v5, R5, rfl, h2, h5, rfl⟩ := h
  exact ⟨v2, R2, v5, R5, rfl, h2.le hl (fun cs x R h => RInt.le hl cs x R h), h5.le hl (fun cs x R h => RCodeIns.le hl cs x R h), rfl⟩
theorem RLinkFun.lt {σ : Heap} (cs : List V) (x : LinkFun) (R : List Nat) (h : RLinkFun σ cs x R) : ∀ j, j ∈ R → j < σ.length := fun j hj => by
  obtain ⟨v2, R2, v5, R5, rfl, h2, h5, rfl⟩ := h
  rcases List.mem_append.1 hj with hj | hj
  · exact h2.lt (RInt.lt) j hj
  exact h5.lt (RCodeIns.lt) j hj
theorem RLinkFun.rep {σ : Heap} (cs : List V) (x : LinkFun) (R : List Nat) (h : RLinkFun σ cs x R) : LinkFun.Rep σ cs x := by
  obtain ⟨v2, R2, v5, R5, rfl, h2, h5, rfl⟩ := h
  exact .mk (h2.rep fun cs y R _ h => RInt.rep cs y R h) (h5.rep fun cs y R _ h => RCodeIns.rep cs y R h)
theorem RLinkFun.len {σ : Heap} {cs : List V} {x : LinkFun} {R : List Nat} (h : RLinkFun σ cs x R) : cs.length = 6 := by
  obtain ⟨v2, R2, v5, R5, rfl, h2, h5, rfl⟩ := h
  rfl
theorem RLinkFun.lv {σ : Heap} (r o : Nat) (cs : List V) (x : LinkFun) (R : List Nat) (hw : ∃ row, σ[r]? = some (some row) ∧ row.ro = false) (hr : rdc σ r o 6 = some cs) (h : RLinkFun σ cs x R) (hn : R.Nodup) (hrn : r ∉ R) : ∃ ls, PLinkFun σ r o ls ∧ LOk r o (o + 6) R ls ∧ ls.length ≤ 8 + 8 * x.wt := by
  obtain ⟨v2, R2, v5, R5, rfl, h2, h5, rfl⟩ := h
  have n2 := (nodup_sub (c := []) hn).1
  have m2 := (nodup_sub (c := []) hn).2.1
  obtain ⟨l2, k2, o2, b2⟩ := h2.lv (P := PInt σ) (c := (fun _ => 8)) n2 (fun r o cs x R hw hr hq hn hrn => RInt.lv r o cs x R hw hr hq hn hrn)
  rw [totS_eight] at b2
  have n5 := m2
  obtain ⟨l5, k5, o5, b5⟩ := h5.lv (P := PCodeIns σ) (c := (fun y => 8 + 8 * CodeIns.wt y)) n5 (fun r o cs x R hw hr hq hn hrn => RCodeIns.lv r o cs x R hw hr hq hn hrn)
  rw [totS_lin] at b5
  refine ⟨_, ⟨v2, l2, v5, l5, fl_of (f := 0) (x := .str x.mod) hw hr rfl trivial, fl_of (f := 1) (x := .str x.name) hw hr rfl trivial, cl_of (f := 2) (x := v2) hr rfl h2.isSl, k2, fl_of (f := 3) (x := .int .i64 x.type) hw hr rfl rfl, fl_of (f := 4) (x := .int .i64 x.slots) hw hr rfl rfl, cl_of (f := 5) (x := v5) hr rfl h5.isSl, k5, rfl⟩, ?_, ?_⟩
  · refine LOk.app (m := o + 1) (R1 := []) (R2 := (R2 ++ R5)) (LOk.one _ r (o + 0)) ?_ (by omega) (by omega) hn hrn
    refine LOk.app (m := o + 2) (R1 := []) (R2 := (R2 ++ R5)) (LOk.one _ r (o + 1)) ?_ (by omega) (by omega) hn hrn
    refine LOk.app (m := o + 3) (R1 := R2) (R2 := R5) (o2.field r (o + 2)) ?_ (by omega) (by omega) hn hrn
    replace hrn : r ∉ R5 := fun hc => hrn (List.mem_append_right _ hc)
    replace hn : (R5).Nodup := (nodup_sub (c := []) hn).2.1
    refine LOk.app (m := o + 4) (R1 := []) (R2 := R5) (LOk.one _ r (o + 3)) ?_ (by omega) (by omega) hn hrn
    refine LOk.app (m := o + 5) (R1 := []) (R2 := R5) (LOk.one _ r (o + 4)) ?_ (by omega) (by omega) hn hrn
    exact o5.field r (o + 5)
  · unfold LinkFun.wt
    simp only [List.length_append, List.length_cons, List.length_nil]
    omega
theorem PLinkFun.of {σ : Heap} (r o : Nat) (cs : List V) (x : LinkFun) (hw : ∀ (r : Nat) row, σ[r]? = some (some row) → row.ro = false) (hr : rdc σ r o 6 = some cs) (h : LinkFun.Rep σ cs x) : ∃ ls, PLinkFun σ r o ls ∧ ls.length ≤ 8 + 8 * x.total := by
  obtain ⟨row0, hrow0, _, _⟩ := rdc_some hr
  have hw0 : ∃ row, σ[r]? = some (some row) ∧ row.ro = false := ⟨row0, hrow0, hw r row0 hrow0⟩
  cases h with
  | mk h2 h5 =>
  obtain ⟨l2, k2, b2⟩ := h2.lv (P := PInt σ) (c := (fun _ => 8)) hw (fun r o cs x _ hw' hr hq => PInt.of r o cs x hw' hr hq)
  rw [totS_eight] at b2
  obtain ⟨l5, k5, b5⟩ := h5.lv (P := PCodeIns σ) (c := (fun y => 8 + 8 * CodeIns.total y)) hw (fun r o cs x _ hw' hr hq => PCodeIns.of r o cs x hw hr hq)
  rw [totS_lin] at b5
  refine ⟨_, ⟨_, l2, _, l5, fl_of (f := 0) (x := .str x.mod) hw0 hr rfl trivial, fl_of (f := 1) (x := .str x.name) hw0 hr rfl trivial, cl_of (f := 2) hr rfl h2.isSl, k2, fl_of (f := 3) (x := .int .i64 x.type) hw0 hr rfl rfl, fl_of (f := 4) (x := .int .i64 x.slots) hw0 hr rfl rfl, cl_of (f := 5) hr rfl h5.isSl, k5, rfl⟩, ?_⟩
  rw [LinkFun.total_eq]
  simp only [List.length_append, List.length_cons, List.length_nil]
  omega
theorem PCodeRef.of {σ : Heap} (r o : Nat) (cs : List V) (x : CodeRef) (hw : ∀ (r : Nat) row, σ[r]? = some (some row) → row.ro = false) (hr : rdc σ r o 2 = some cs) (h : CodeRef.Rep σ cs x) : ∃ ls, PCodeRef σ r o ls ∧ ls.length ≤ 8 + 8 * x.total := by
  obtain ⟨row0, hrow0, _, _⟩ := rdc_some hr
  have hw0 : ∃ row, σ[r]? = some (some row) ∧ row.ro = false := ⟨row0, hrow0, hw r row0 hrow0⟩
  cases h with
  | mk =>
  refine ⟨_, ⟨fl_of (f := 0) (x := .str x.mod) hw0 hr rfl trivial, fl_of (f := 1) (x := .str x.name) hw0 hr rfl trivial, rfl⟩, ?_⟩
  rw [CodeRef.total_eq]
  simp only [List.length_append, List.length_cons, List.length_nil]
  omega
theorem PCodeFun.of {σ : Heap} (r o : Nat) (cs : List V) (x : CodeFun) (hw : ∀ (r : Nat) row, σ[r]? = some (some row) → row.ro = false) (hr : rdc σ r o 6 = some cs) (h : CodeFun.Rep σ cs x) : ∃ ls, PCodeFun σ r o ls ∧ ls.length ≤ 8 + 8 * x.total := by
  obtain ⟨row0, hrow0, _, _⟩ := rdc_some hr
  have hw0 : ∃ row, σ[r]? = some (some row) ∧ row.ro = false := ⟨row0, hrow0, hw r row0 hrow0⟩
  cases h with
  | mk h2 h5 =>
  obtain ⟨l2, k2, b2⟩ := h2.lv (P := PInt σ) (c := (fun _ => 8)) hw (fun r o cs x _ hw' hr hq => PInt.of r o cs x hw' hr hq)
  rw [totS_eight] at b2
  obtain ⟨l5, k5, b5⟩ := h5.lv (P := PCodeIns σ) (c := (fun y => 8 + 8 * CodeIns.total y)) hw (fun r o cs x _ hw' hr hq => PCodeIns.of r o cs x hw hr hq)
  rw [totS_lin] at b5
  refine ⟨_, ⟨_, l2, _, l5, fl_of (f := 0) (x := .str x.name) hw0 hr rfl trivial, fl_of (f := 1) (x := .bool x.pub) hw0 hr rfl trivial, cl_of (f := 2) hr rfl h2.isSl, k2, fl_of (f := 3) (x := .int .i64 x.type) hw0 hr rfl rfl, fl_of (f := 4) (x := .int .i64 x.slots) hw0 hr rfl rfl, cl_of (f := 5) hr rfl h5.isSl, k5, rfl⟩, ?_⟩
  rw [CodeFun.total_eq]
  simp only [List.length_append, List.length_cons, List.length_nil]
  omega
theorem PLinkPart.of {σ : Heap} (r o : Nat) (cs : List V) (x : LinkPart) (hw : ∀ (r : Nat) row, σ[r]? = some (some row) → row.ro = false) (hr : rdc σ r o 3 = some cs) (h : LinkPart.Rep σ cs x) : ∃ ls, PLinkPart σ r o ls ∧ ls.length ≤ 8 + 8 * x.total := by
  obtain ⟨row0, hrow0, _, _⟩ := rdc_some hr
  have hw0 : ∃ row, σ[r]? = some (some row) ∧ row.ro = false := ⟨row0, hrow0, hw r row0 hrow0⟩
  cases h with
  | mk h1 h2 =>
  obtain ⟨l1, k1, b1⟩ := h1.lv (P := PCodeRef σ) (c := (fun y => 8 + 8 * CodeRef.total y)) hw (fun r o cs x _ hw' hr hq => PCodeRef.of r o cs x hw hr hq)
  rw [totS_lin] at b1
  obtain ⟨l2, k2, b2⟩ := h2.lv (P := PCodeFun σ) (c := (fun y => 8 + 8 * CodeFun.total y)) hw (fun r o cs x _ hw' hr hq => PCodeFun.of r o cs x hw hr hq)
  rw [totS_lin] at b2
  refine ⟨_, ⟨_, l1, _, l2, fl_of (f := 0) (x := .str x.name) hw0 hr rfl trivial, cl_of (f := 1) hr rfl h1.isSl, k1, cl_of (f := 2) hr rfl h2.isSl, k2, rfl⟩, ?_⟩
  rw [LinkPart.total_eq, CodeObj.total_eq]
  simp only [List.length_append, List.length_cons, List.length_nil]
  omega
end Go.B
