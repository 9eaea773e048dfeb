/- Values with their rows, and the places of their marks. -/
import Derived.Test.YthcinellhbmcoaaMkF
import Derived.Test.YthcinellhbmcoaaHMOwn
set_option linter.unusedVariables false
set_option linter.unusedSimpArgs false
namespace Go.X
open Go.HM Go.Proofs
def RInt (σ : Heap) (cs : List V) (x : Int) (R : List Nat) : Prop := cs = [.int .i64 x] ∧ R = []
theorem RInt.keep {σ σ' : Heap} (cs : List V) (x : Int) (R : List Nat) (h : RInt σ cs x R) (_ : ∀ j, j ∈ R → σ'[j]? = σ[j]?) : RInt σ' cs x R := h
theorem RInt.le {σ σ' : Heap} (hl : Lh σ σ') (cs : List V) (x : Int) (R : List Nat) (h : RInt σ cs x R) : RInt σ' cs x R := h
theorem RInt.lt {σ : Heap} (cs : List V) (x : Int) (R : List Nat) (h : RInt σ cs x R) : ∀ j, j ∈ R → j < σ.length := fun j hj => by
  rw [h.2] at hj
  cases hj
theorem RInt.rep {σ : Heap} (cs : List V) (x : Int) (R : List Nat) (h : RInt σ cs x R) : IntRep cs x := h.1
theorem RInt.lv {σ : Heap} (r o : Nat) (cs : List V) (x : Int) (R : List Nat) (hw : ∃ row, σ[r]? = some (some row) ∧ row.ro = false) (hr : rdc σ r o 1 = some cs) (h : RInt σ cs x R) (hn : R.Nodup) (hrn : r ∉ R) : ∃ ls, PInt σ r o ls ∧ LOk r o (o + 1) R ls ∧ ls.length ≤ 8 := by
  obtain ⟨rfl, rfl⟩ := h
  exact ⟨_, ⟨fl_of (f := 0) (x := .int .i64 x) hw hr rfl rfl, rfl⟩, LOk.one _ _ _, by simp⟩
theorem PInt.of {σ : Heap} (r o : Nat) (cs : List V) (x : Int) (hw : ∃ row, σ[r]? = some (some row) ∧ row.ro = false) (hr : rdc σ r o 1 = some cs) (h : IntRep cs x) : ∃ ls, PInt σ r o ls ∧ ls.length ≤ 8 := by
  unfold IntRep at h
  subst h
  exact ⟨_, ⟨fl_of (f := 0) (x := .int .i64 x) hw hr rfl rfl, rfl⟩, by simp⟩
def RString (σ : Heap) (cs : List V) (x : ByteArray) (R : List Nat) : Prop := cs = [.str x] ∧ R = []
theorem RString.keep {σ σ' : Heap} (cs : List V) (x : ByteArray) (R : List Nat) (h : RString σ cs x R) (_ : ∀ j, j ∈ R → σ'[j]? = σ[j]?) : RString σ' cs x R := h
theorem RString.le {σ σ' : Heap} (hl : Lh σ σ') (cs : List V) (x : ByteArray) (R : List Nat) (h : RString σ cs x R) : RString σ' cs x R := h
theorem RString.lt {σ : Heap} (cs : List V) (x : ByteArray) (R : List Nat) (h : RString σ cs x R) : ∀ j, j ∈ R → j < σ.length := fun j hj => by
  rw [h.2] at hj
  cases hj
theorem RString.rep {σ : Heap} (cs : List V) (x : ByteArray) (R : List Nat) (h : RString σ cs x R) : StrRep cs x := h.1
theorem RString.lv {σ : Heap} (r o : Nat) (cs : List V) (x : ByteArray) (R : List Nat) (hw : ∃ row, σ[r]? = some (some row) ∧ row.ro = false) (hr : rdc σ r o 1 = some cs) (h : RString σ cs x R) (hn : R.Nodup) (hrn : r ∉ R) : ∃ ls, PString σ r o ls ∧ LOk r o (o + 1) R ls ∧ ls.length ≤ 8 := by
  obtain ⟨rfl, rfl⟩ := h
  exact ⟨_, ⟨fl_of (f := 0) (x := .str x) hw hr rfl trivial, rfl⟩, LOk.one _ _ _, by simp⟩
theorem PString.of {σ : Heap} (r o : Nat) (cs : List V) (x : ByteArray) (hw : ∃ row, σ[r]? = some (some row) ∧ row.ro = false) (hr : rdc σ r o 1 = some cs) (h : StrRep cs x) : ∃ ls, PString σ r o ls ∧ ls.length ≤ 8 := by
  unfold StrRep at h
  subst h
  exact ⟨_, ⟨fl_of (f := 0) (x := .str x) hw hr rfl trivial, rfl⟩, by simp⟩
theorem PTreeArg.of {σ : Heap} (r o : Nat) (cs : List V) (x : TreeArg) (hw : ∀ (r : Nat) row, σ[r]? = some (some row) → row.ro = false) (hr : rdc σ r o 2 = some cs) (h : TreeArg.Rep σ cs x) : ∃ ls, PTreeArg σ r o ls ∧ ls.length ≤ 8 + 8 * x.total := by
  obtain ⟨row0, hrow0, _, _⟩ := rdc_some hr
  have hw0 : ∃ row, σ[r]? = some (some row) ∧ row.ro = false := ⟨row0, hrow0, hw r row0 hrow0⟩
  cases h with
  | mk =>
  refine ⟨_, ⟨fl_of (f := 0) (x := .str x.name) hw0 hr rfl trivial, fl_of (f := 1) (x := .int .i64 x.type) hw0 hr rfl rfl, rfl⟩, ?_⟩
  rw [TreeArg.total_eq]
  simp only [List.length_append, List.length_cons, List.length_nil]
  omega
theorem PFaceSig.of {σ : Heap} (r o : Nat) (cs : List V) (x : FaceSig) (hw : ∀ (r : Nat) row, σ[r]? = some (some row) → row.ro = false) (hr : rdc σ r o 3 = some cs) (h : FaceSig.Rep σ cs x) : ∃ ls, PFaceSig σ r o ls ∧ ls.length ≤ 8 + 8 * x.total := by
  obtain ⟨row0, hrow0, _, _⟩ := rdc_some hr
  have hw0 : ∃ row, σ[r]? = some (some row) ∧ row.ro = false := ⟨row0, hrow0, hw r row0 hrow0⟩
  cases h with
  | mk h1 =>
  obtain ⟨l1, k1, b1⟩ := h1.lv (P := PInt σ) (c := (fun _ => 8)) hw (fun r o cs x _ hw' hr hq => PInt.of r o cs x hw' hr hq)
  rw [totS_eight] at b1
  refine ⟨_, ⟨_, l1, fl_of (f := 0) (x := .str x.name) hw0 hr rfl trivial, cl_of (f := 1) hr rfl h1.isSl, k1, fl_of (f := 2) (x := .int .i64 x.type) hw0 hr rfl rfl, rfl⟩, ?_⟩
  rw [FaceSig.total_eq]
  simp only [List.length_append, List.length_cons, List.length_nil]
  omega
theorem PTypeFace.of {σ : Heap} (r o : Nat) (cs : List V) (x : TypeFace) (hw : ∀ (r : Nat) row, σ[r]? = some (some row) → row.ro = false) (hr : rdc σ r o 2 = some cs) (h : TypeFace.Rep σ cs x) : ∃ ls, PTypeFace σ r o ls ∧ ls.length ≤ 8 + 8 * x.total := by
  obtain ⟨row0, hrow0, _, _⟩ := rdc_some hr
  have hw0 : ∃ row, σ[r]? = some (some row) ∧ row.ro = false := ⟨row0, hrow0, hw r row0 hrow0⟩
  cases h with
  | mk h1 =>
  obtain ⟨l1, k1, b1⟩ := h1.lv (P := PFaceSig σ) (c := (fun y => 8 + 8 * FaceSig.total y)) hw (fun r o cs x _ hw' hr hq => PFaceSig.of r o cs x hw hr hq)
  rw [totS_lin] at b1
  refine ⟨_, ⟨_, l1, fl_of (f := 0) (x := .str x.mod) hw0 hr rfl trivial, cl_of (f := 1) hr rfl h1.isSl, k1, rfl⟩, ?_⟩
  rw [TypeFace.total_eq]
  simp only [List.length_append, List.length_cons, List.length_nil]
  omega
end Go.X
