/- What is wrong with parts: LinkCheck of both. -/
import Derived.Test.YtghkdjfgbaoplaaLink1
import Derived.Test.YtghkdjfgbaoplaaObj1
set_option linter.unusedVariables false
set_option linter.unusedSimpArgs false
namespace Go.B
open Go.HM Go.Proofs
abbrev Flt := Int × Int × Int
def noF : Flt := (0, 0, 0)
def FV (f : Flt) : V := .agg [.int .i64 f.1, .int .i64 f.2.1, .int .i64 f.2.2]
/-- A fault, or none. -/
def FOk (f : Flt) : Prop := f = noF ∨ 0 < f.1
/-- The first that is found. -/
def scan {α : Type} (g : Nat → α → Flt) : Nat → List α → Flt
  | _, [] => noF
  | i, x :: l => if g i x = noF then scan g (i + 1) l else g i x
theorem scan_at {α : Type} {g : Nat → α → Flt} : ∀ {l : List α} {n i : Nat} {x : α}, l[i]? = some x → g (n + i) x ≠ noF → (∀ (j : Nat) y, j < i → l[j]? = some y → g (n + j) y = noF) → scan g n l = g (n + i) x
  | y :: l, n, 0, x, hx, hn, _ => by
    simp at hx; subst hx
    rw [Nat.add_zero] at hn ⊢
    rw [scan, if_neg hn]
  | y :: l, n, i + 1, x, hx, hn, h => by
    have h0 : g n y = noF := h 0 y (by omega) rfl
    have e : n + 1 + i = n + (i + 1) := by omega
    rw [scan, if_pos h0, ← e]
    refine scan_at (by simpa using hx) (by rw [e]; exact hn) fun j z hj hz => ?_
    have := h (j + 1) z (by omega) (by simpa using hz)
    have e2 : n + 1 + j = n + (j + 1) := by omega
    rw [e2]; exact this
theorem scan_none {α : Type} {g : Nat → α → Flt} : ∀ {l : List α} {n : Nat}, (∀ (j : Nat) y, l[j]? = some y → g (n + j) y = noF) → scan g n l = noF
  | [], n, _ => rfl
  | y :: l, n, h => by
    have h0 := h 0 y rfl
    rw [Nat.add_zero] at h0
    rw [scan, if_pos h0]
    refine scan_none fun j z hz => ?_
    have := h (j + 1) z (by simpa using hz)
    have e2 : n + 1 + j = n + (j + 1) := by omega
    rw [e2]; exact this
theorem scan_ok {α : Type} {g : Nat → α → Flt} : ∀ {l : List α} {n : Nat}, (∀ (j : Nat) y, y ∈ l → FOk (g j y)) → FOk (scan g n l)
  | [], n, _ => .inl rfl
  | y :: l, n, h => by
    rw [scan]
    split
    · exact scan_ok fun j z hz => h j z (by simp [hz])
    · exact h n y (by simp)
def twice (o : CodeObj) (i : Nat) : Flt := scan (fun j f => if funIdx o f.name < (j : Int) then (3, (i : Int), (j : Int)) else noF) 0 o.funs
noncomputable def formFault (l : List LinkPart) (i : Nat) (p : LinkPart) : Flt :=
  open Classical in if ¬ ObjIs p.obj ∨ ¬ IsName p.name then (2, (i : Int), 0) else if partIdx l p.name < (i : Int) then (3, (i : Int), 0) else twice p.obj i
def pubAt (o : CodeObj) (k : Int) : Bool := match o.funs[k.toNat]? with
  | some f => f.pub
  | none => true
def refFault (l : List LinkPart) (i : Nat) (p : LinkPart) (j : Nat) (r : CodeRef) : Flt :=
  if r.mod = ⟨#[]⟩ then (if funIdx p.obj r.name < 0 then (4, (i : Int), (j : Int)) else noF)
  else match l[(partIdx l r.mod).toNat]? with
    | none => (4, (i : Int), (j : Int))
    | some q => if partIdx l r.mod < 0 then (4, (i : Int), (j : Int)) else if funIdx q.obj r.name < 0 then (4, (i : Int), (j : Int)) else if pubAt q.obj (funIdx q.obj r.name) then noF else (5, (i : Int), (j : Int))
def badCall (n : Nat) (x : CodeIns) : Bool := decide (x.op = 8) && decide ((n : Int) ≤ x.a)
def callFault (p : LinkPart) (i : Nat) (j : Nat) (f : CodeFun) : Flt := if f.code.any (badCall p.obj.refs.length) then (6, (i : Int), (j : Int)) else noF
def refsFault (l : List LinkPart) (i : Nat) (p : LinkPart) : Flt := if scan (refFault l i p) 0 p.obj.refs = noF then scan (callFault p i) 0 p.obj.funs else scan (refFault l i p) 0 p.obj.refs
noncomputable def linkFault (l : List LinkPart) : Flt := if 8 < l.length then (1, 0, 0) else if scan (formFault l) 0 l = noF then scan (refsFault l) 0 l else scan (formFault l) 0 l
theorem twice_ok (o : CodeObj) (i : Nat) : FOk (twice o i) := scan_ok fun j f _ => by split; exact .inr (by simp); exact .inl rfl
theorem formFault_ok (l : List LinkPart) (i : Nat) (p : LinkPart) : FOk (formFault l i p) := by
  unfold formFault
  split
  · exact .inr (by simp)
  · split
    · exact .inr (by simp)
    · exact twice_ok _ _
theorem refFault_ok (l : List LinkPart) (i : Nat) (p : LinkPart) (j : Nat) (r : CodeRef) : FOk (refFault l i p j r) := by
  unfold refFault
  split
  · split
    · exact .inr (by simp)
    · exact .inl rfl
  · split
    · exact .inr (by simp)
    · split
      · exact .inr (by simp)
      · split
        · exact .inr (by simp)
        · split
          · exact .inl rfl
          · exact .inr (by simp)
theorem callFault_ok (p : LinkPart) (i j : Nat) (f : CodeFun) : FOk (callFault p i j f) := by
  unfold callFault
  split
  · exact .inr (by simp)
  · exact .inl rfl
theorem refsFault_ok (l : List LinkPart) (i : Nat) (p : LinkPart) : FOk (refsFault l i p) := by
  unfold refsFault
  split
  · exact scan_ok fun j f _ => callFault_ok p i j f
  · exact scan_ok fun j r _ => refFault_ok l i p j r
theorem ext_hok {α : Type} {l : List α} {Q : Nat → α → Prop} {i : Nat} {x : α} (hx : l[i]? = some x) (hok : ∀ (j : Nat) y, j < i → l[j]? = some y → Q j y) (h : Q i x) : ∀ (j : Nat) y, j < i + 1 → l[j]? = some y → Q j y := fun j y hj hy => by
  by_cases hij : j = i
  · subst hij
    rw [hx] at hy
    injection hy with hy
    rw [← hy]; exact h
  · exact hok j y (by omega) hy
theorem part_fit {p : LinkPart} (h : p.Fit) : p.name.size ≤ 9223372036854775807 ∧ p.obj.Fit := by cases h with | mk f0 f1 => exact ⟨f0, f1⟩
theorem part_total {l : List LinkPart} {p : LinkPart} (ht : l.length + totS LinkPart.total l ≤ 1048576) (hm : p ∈ l) : p.obj.total ≤ 1048576 := by
  have := totS_mem LinkPart.total hm
  rw [LinkPart.total_eq p] at this
  omega
theorem obj_lens {o : CodeObj} (h : o.total ≤ 1048576) : o.refs.length ≤ 1048576 ∧ o.funs.length ≤ 1048576 ∧ ∀ f, f ∈ o.funs → f.code.length ≤ 1048576 := by
  rw [CodeObj.total_eq] at h
  refine ⟨by omega, by omega, fun f hf => ?_⟩
  have := totS_mem CodeFun.total hf
  rw [CodeFun.total_eq f] at this
  omega
theorem checkPart_gives {σ : Heap} {v : V} {l : List LinkPart} (ht : l.length + totS LinkPart.total l ≤ 1048576) (hF : ∀ x, x ∈ l → x.Fit) (h : RepS 3 (LinkPart.Rep σ) σ v l) {i : Nat} {p : LinkPart} (hp : l[i]? = some p) :
    Gives G n_impl_checkPart [v, .int .i64 (i : Int)] σ (FV (formFault l i p)) := by
  have hm := List.mem_of_getElem? hp
  have hf := part_fit (hF p hm)
  have hpt := part_total ht hm
  have hol := obj_lens hpt
  refine Gives.of (W.to (fun k _ => impl_checkPart.eq k _ _ _) ?_)
  refine W.at h (Lh.refl _) (lt_of_get hp) fun r o cs x hx hr hP => ?_
  obtain rfl : x = p := by rw [hp] at hx; injection hx with hx; exact hx.symm
  cases hP with
  | mk q0 q1 =>
  rename_i b0 b1
  have hO : ∀ {σ' : Heap}, Lh σ σ' → CodeObj.Rep σ' [b0, b1] x.obj := fun l => CodeObj.Rep.le l (.mk q0 q1)
  try simp only [q_bind_some, Option.bind_assoc, castInt_int, q_castBool, q_castStr, q_castPtr, q_castFn, q_castAgg, q_castTuple, q_uncons, q_isNil, q_sl, q_nils, q_emp, q_ptr, q_nilp, q_fn, q_cond_true, q_cond_false, Bool.not_true, Bool.not_false, decide_true, decide_false, castInt_bind, castBool_bind, castStr_bind, castPtr_bind, castFn_bind, castAgg_bind, castTuple_bind, uncons_bind, isNil_bind, one_bind, cond_bind, ite_bind_, List.cons_append, List.nil_append, hr]
  refine W.give (implObjOk_gives hf.2 hpt (hO (Lh.refl _))) fun σ1 l1 => ?_
  try simp only [q_bind_some, Option.bind_assoc, castInt_int, q_castBool, q_castStr, q_castPtr, q_castFn, q_castAgg, q_castTuple, q_uncons, q_isNil, q_sl, q_nils, q_emp, q_ptr, q_nilp, q_fn, q_cond_true, q_cond_false, Bool.not_true, Bool.not_false, decide_true, decide_false, castInt_bind, castBool_bind, castStr_bind, castPtr_bind, castFn_bind, castAgg_bind, castTuple_bind, uncons_bind, isNil_bind, one_bind, cond_bind, ite_bind_, List.cons_append, List.nil_append]
  by_cases hOb : ObjIs x.obj
  rotate_left
  · try simp only [q_bind_some, Option.bind_assoc, castInt_int, q_castBool, q_castStr, q_castPtr, q_castFn, q_castAgg, q_castTuple, q_uncons, q_isNil, q_sl, q_nils, q_emp, q_ptr, q_nilp, q_fn, q_cond_true, q_cond_false, Bool.not_true, Bool.not_false, decide_true, decide_false, castInt_bind, castBool_bind, castStr_bind, castPtr_bind, castFn_bind, castAgg_bind, castTuple_bind, uncons_bind, isNil_bind, one_bind, cond_bind, ite_bind_, List.cons_append, List.nil_append, hOb]
    exact W.ret ⟨by rw [formFault, if_pos (.inl hOb)]; rfl, l1⟩
  try simp only [q_bind_some, Option.bind_assoc, castInt_int, q_castBool, q_castStr, q_castPtr, q_castFn, q_castAgg, q_castTuple, q_uncons, q_isNil, q_sl, q_nils, q_emp, q_ptr, q_nilp, q_fn, q_cond_true, q_cond_false, Bool.not_true, Bool.not_false, decide_true, decide_false, castInt_bind, castBool_bind, castStr_bind, castPtr_bind, castFn_bind, castAgg_bind, castTuple_bind, uncons_bind, isNil_bind, one_bind, cond_bind, ite_bind_, List.cons_append, List.nil_append, hOb]
  refine W.give (implLexName_gives σ1 _ hf.1) fun σ2 l2 => ?_
  have l02 := l1.trans l2
  try simp only [q_bind_some, Option.bind_assoc, castInt_int, q_castBool, q_castStr, q_castPtr, q_castFn, q_castAgg, q_castTuple, q_uncons, q_isNil, q_sl, q_nils, q_emp, q_ptr, q_nilp, q_fn, q_cond_true, q_cond_false, Bool.not_true, Bool.not_false, decide_true, decide_false, castInt_bind, castBool_bind, castStr_bind, castPtr_bind, castFn_bind, castAgg_bind, castTuple_bind, uncons_bind, isNil_bind, one_bind, cond_bind, ite_bind_, List.cons_append, List.nil_append]
  by_cases hN : IsName x.name
  rotate_left
  · try simp only [q_bind_some, Option.bind_assoc, castInt_int, q_castBool, q_castStr, q_castPtr, q_castFn, q_castAgg, q_castTuple, q_uncons, q_isNil, q_sl, q_nils, q_emp, q_ptr, q_nilp, q_fn, q_cond_true, q_cond_false, Bool.not_true, Bool.not_false, decide_true, decide_false, castInt_bind, castBool_bind, castStr_bind, castPtr_bind, castFn_bind, castAgg_bind, castTuple_bind, uncons_bind, isNil_bind, one_bind, cond_bind, ite_bind_, List.cons_append, List.nil_append, hN]
    exact W.ret ⟨by rw [formFault, if_pos (.inr hN)]; rfl, l02⟩
  try simp only [q_bind_some, Option.bind_assoc, castInt_int, q_castBool, q_castStr, q_castPtr, q_castFn, q_castAgg, q_castTuple, q_uncons, q_isNil, q_sl, q_nils, q_emp, q_ptr, q_nilp, q_fn, q_cond_true, q_cond_false, Bool.not_true, Bool.not_false, decide_true, decide_false, castInt_bind, castBool_bind, castStr_bind, castPtr_bind, castFn_bind, castAgg_bind, castTuple_bind, uncons_bind, isNil_bind, one_bind, cond_bind, ite_bind_, List.cons_append, List.nil_append, hN]
  refine W.give (partAt_gives (by omega) (h.mono l02 fun cs x _ hc => LinkPart.Rep.le l02 hc) x.name) fun σ3 l3 => ?_
  have l03 := l02.trans l3
  try simp only [q_bind_some, Option.bind_assoc, castInt_int, q_castBool, q_castStr, q_castPtr, q_castFn, q_castAgg, q_castTuple, q_uncons, q_isNil, q_sl, q_nils, q_emp, q_ptr, q_nilp, q_fn, q_cond_true, q_cond_false, Bool.not_true, Bool.not_false, decide_true, decide_false, castInt_bind, castBool_bind, castStr_bind, castPtr_bind, castFn_bind, castAgg_bind, castTuple_bind, uncons_bind, isNil_bind, one_bind, cond_bind, ite_bind_, List.cons_append, List.nil_append]
  have hform : formFault l i x = if partIdx l x.name < (i : Int) then (3, (i : Int), 0) else twice x.obj i := by
    rw [formFault, if_neg (by simp [hOb, hN])]
  refine W.ite (fun k1 => ?_) fun k1 => ?_
  · exact W.ret ⟨by rw [hform, if_pos k1]; rfl, l03⟩
  rw [hform, if_neg k1]
  refine W.len q1 ?_
  refine W.loop (S := Nat × Heap) (fun s => s.1 ≤ x.obj.funs.length ∧ Lh σ s.2 ∧ ∀ (j : Nat) f, j < s.1 → x.obj.funs[j]? = some f → ¬ funIdx x.obj f.name < (j : Int))
    (fun s => [.v (.int .i64 (i : Int)), .box [.int .i64 0, .int .i64 0, .int .i64 0], .box [.str x.name, b0, b1], .v b1, .v (.int .i64 (x.obj.funs.length : Int)), .v (.int .i64 (s.1 : Int))]) (fun s => s.2) (fun s => x.obj.funs.length - s.1) (fun ⟨j, σj⟩ ⟨hj, hlj, hok⟩ => ?_)
    (0, σ3) ⟨Nat.zero_le _, l03, fun j f hj => absurd hj (Nat.not_lt_zero _)⟩
  simp only at hj hlj hok ⊢
  refine W.to (fun k _ => by rw [impl_checkPart.L0_step]) ?_
  try simp only [q_bind_some, Option.bind_assoc, castInt_int, q_castBool, q_castStr, q_castPtr, q_castFn, q_castAgg, q_castTuple, q_uncons, q_isNil, q_sl, q_nils, q_emp, q_ptr, q_nilp, q_fn, q_cond_true, q_cond_false, Bool.not_true, Bool.not_false, decide_true, decide_false, castInt_bind, castBool_bind, castStr_bind, castPtr_bind, castFn_bind, castAgg_bind, castTuple_bind, uncons_bind, isNil_bind, one_bind, cond_bind, ite_bind_, List.cons_append, List.nil_append]
  refine W.ite (fun hlt => ?_) fun hlt => ?_
  · refine W.at q1 hlj (by omega) fun r o cs f hx hr hP => ?_
    cases hP with
    | mk p0 p1 =>
    try simp only [q_bind_some, Option.bind_assoc, castInt_int, q_castBool, q_castStr, q_castPtr, q_castFn, q_castAgg, q_castTuple, q_uncons, q_isNil, q_sl, q_nils, q_emp, q_ptr, q_nilp, q_fn, q_cond_true, q_cond_false, Bool.not_true, Bool.not_false, decide_true, decide_false, castInt_bind, castBool_bind, castStr_bind, castPtr_bind, castFn_bind, castAgg_bind, castTuple_bind, uncons_bind, isNil_bind, one_bind, cond_bind, ite_bind_, List.cons_append, List.nil_append, hr]
    refine W.give (funIn_gives (by omega) (hO hlj) f.name) fun σ4 l4 => ?_
    try simp only [q_bind_some, Option.bind_assoc, castInt_int, q_castBool, q_castStr, q_castPtr, q_castFn, q_castAgg, q_castTuple, q_uncons, q_isNil, q_sl, q_nils, q_emp, q_ptr, q_nilp, q_fn, q_cond_true, q_cond_false, Bool.not_true, Bool.not_false, decide_true, decide_false, castInt_bind, castBool_bind, castStr_bind, castPtr_bind, castFn_bind, castAgg_bind, castTuple_bind, uncons_bind, isNil_bind, one_bind, cond_bind, ite_bind_, List.cons_append, List.nil_append]
    have l04 := hlj.trans l4
    refine W.ite (fun k2 => ?_) fun k2 => ?_
    · try simp only [q_bind_some, Option.bind_assoc, castInt_int, q_castBool, q_castStr, q_castPtr, q_castFn, q_castAgg, q_castTuple, q_uncons, q_isNil, q_sl, q_nils, q_emp, q_ptr, q_nilp, q_fn, q_cond_true, q_cond_false, Bool.not_true, Bool.not_false, decide_true, decide_false, castInt_bind, castBool_bind, castStr_bind, castPtr_bind, castFn_bind, castAgg_bind, castTuple_bind, uncons_bind, isNil_bind, one_bind, cond_bind, ite_bind_, List.cons_append, List.nil_append, impl_checkPart.A0_ret]
      refine W.ret ⟨?_, l04⟩
      rw [twice, scan_at hx (by simp [k2, noF]) fun j' y hj' hy => by rw [Nat.zero_add, if_neg (hok j' y hj' hy)], Nat.zero_add, if_pos k2]
      rfl
    · try simp only [q_bind_some, Option.bind_assoc, castInt_int, q_castBool, q_castStr, q_castPtr, q_castFn, q_castAgg, q_castTuple, q_uncons, q_isNil, q_sl, q_nils, q_emp, q_ptr, q_nilp, q_fn, q_cond_true, q_cond_false, Bool.not_true, Bool.not_false, decide_true, decide_false, castInt_bind, castBool_bind, castStr_bind, castPtr_bind, castFn_bind, castAgg_bind, castTuple_bind, uncons_bind, isNil_bind, one_bind, cond_bind, ite_bind_, List.cons_append, List.nil_append, wrap_next (show j < x.obj.funs.length by omega) (by omega)]
      exact W.again (j + 1, σ4) ⟨by show j + 1 ≤ x.obj.funs.length; omega, l04, ext_hok hx hok k2⟩ (by simp only; omega) rfl rfl
  · try simp only [q_bind_some, Option.bind_assoc, castInt_int, q_castBool, q_castStr, q_castPtr, q_castFn, q_castAgg, q_castTuple, q_uncons, q_isNil, q_sl, q_nils, q_emp, q_ptr, q_nilp, q_fn, q_cond_true, q_cond_false, Bool.not_true, Bool.not_false, decide_true, decide_false, castInt_bind, castBool_bind, castStr_bind, castPtr_bind, castFn_bind, castAgg_bind, castTuple_bind, uncons_bind, isNil_bind, one_bind, cond_bind, ite_bind_, List.cons_append, List.nil_append, impl_checkPart.A0_x1]
    refine W.ret ⟨?_, hlj⟩
    rw [twice, scan_none fun j' y hy => by rw [Nat.zero_add, if_neg (hok j' y (by have := lt_of_get hy; omega) hy)]]
    rfl
theorem checkRefs1_gives {σ σ' : Heap} {s : ByteArray} {b0 b1 : V} {refs : List CodeRef} (hl : Lh (hnew σ 3 [.str s, b0, b1]) σ') (h : RepS 2 (CodeRef.Rep σ') σ' b0 refs) {x : CodeIns} {cs : List V} (hx : CodeIns.Rep σ' cs x) :
    Gives G n_impl_checkRefs_1 ([.agg cs] ++ [.ptr σ.length 0]) σ' (.bool (badCall refs.length x)) := by
  have hr : rdc σ' σ.length 0 3 = some [.str s, b0, b1] := new_rdc hl
  have hr1 : rdc σ' σ.length (0 + 1 + 0) 1 = some [b0] := rdc_sub hr 1 1 (by omega)
  cases hx with
  | mk =>
  refine Gives.of (W.to (fun k _ => impl_checkRefs_1.eq k _ _ _ _) ?_)
  refine W.ite (fun k1 => ?_) fun k1 => ?_
  · try simp only [q_bind_some, Option.bind_assoc, castInt_int, q_castBool, q_castStr, q_castPtr, q_castFn, q_castAgg, q_castTuple, q_uncons, q_isNil, q_sl, q_nils, q_emp, q_ptr, q_nilp, q_fn, q_cond_true, q_cond_false, Bool.not_true, Bool.not_false, decide_true, decide_false, castInt_bind, castBool_bind, castStr_bind, castPtr_bind, castFn_bind, castAgg_bind, castTuple_bind, uncons_bind, isNil_bind, one_bind, cond_bind, ite_bind_, List.cons_append, List.nil_append, hr1]
    refine W.len h ?_
    exact W.ret ⟨by simp [badCall, k1], Lh.refl _⟩
  · exact W.ret ⟨by simp [badCall, k1], Lh.refl _⟩
theorem pub_at {o : CodeObj} {k : Nat} {f : CodeFun} (h : o.funs[k]? = some f) : pubAt o (k : Int) = f.pub := by
  simp [pubAt, h]
theorem checkRefs_gives {σ : Heap} {v : V} {l : List LinkPart} (ht : l.length + totS LinkPart.total l ≤ 1048576) (hF : ∀ x, x ∈ l → x.Fit) (h : RepS 3 (LinkPart.Rep σ) σ v l) {i : Nat} {p : LinkPart} (hp : l[i]? = some p) :
    Gives G n_impl_checkRefs [v, .int .i64 (i : Int)] σ (FV (refsFault l i p)) := by
  have hm := List.mem_of_getElem? hp
  have hpt := part_total ht hm
  have hol := obj_lens hpt
  refine Gives.of (W.to (fun k _ => impl_checkRefs.eq k _ _ _) ?_)
  refine W.at h (Lh.refl _) (lt_of_get hp) fun r o cs x hx hr hP => ?_
  obtain rfl : x = p := by rw [hp] at hx; injection hx with hx; exact hx.symm
  cases hP with
  | mk q0 q1 =>
  rename_i b0 b1
  have ln : Lh σ (hnew σ 3 [.str x.name, b0, b1]) := Lh.new _ _ _
  have hbox : ∀ {σ' : Heap}, Lh (hnew σ 3 [.str x.name, b0, b1]) σ' → rdc σ' σ.length 0 3 = some [.str x.name, b0, b1] := fun l => new_rdc l
  have hb1 : ∀ {σ' : Heap}, Lh (hnew σ 3 [.str x.name, b0, b1]) σ' → rdc σ' σ.length (0 + 1 + 0) 1 = some [b0] := fun l => rdc_sub (hbox l) 1 1 (by omega)
  have hb2 : ∀ {σ' : Heap}, Lh (hnew σ 3 [.str x.name, b0, b1]) σ' → rdc σ' σ.length (0 + 1 + 1) 1 = some [b1] := fun l => rdc_sub (hbox l) 2 1 (by omega)
  try simp only [q_bind_some, Option.bind_assoc, castInt_int, q_castBool, q_castStr, q_castPtr, q_castFn, q_castAgg, q_castTuple, q_uncons, q_isNil, q_sl, q_nils, q_emp, q_ptr, q_nilp, q_fn, q_cond_true, q_cond_false, Bool.not_true, Bool.not_false, decide_true, decide_false, castInt_bind, castBool_bind, castStr_bind, castPtr_bind, castFn_bind, castAgg_bind, castTuple_bind, uncons_bind, isNil_bind, one_bind, cond_bind, ite_bind_, List.cons_append, List.nil_append, hr, wrc_new σ 3 [.str (⟨#[]⟩ : ByteArray), .nils, .nils] [.str x.name, b0, b1] rfl, hb1 (Lh.refl _)]
  refine W.len q0 ?_
  refine W.loop (S := Nat × Heap) (fun s => s.1 ≤ x.obj.refs.length ∧ Lh (hnew σ 3 [.str x.name, b0, b1]) s.2 ∧ ∀ (j : Nat) r, j < s.1 → x.obj.refs[j]? = some r → refFault l i x j r = noF)
    (fun s => [.v v, .v (.int .i64 (i : Int)), .box [.int .i64 0, .int .i64 0, .int .i64 0], .v (.ptr σ.length 0), .v b0, .v (.int .i64 (x.obj.refs.length : Int)), .v (.int .i64 (s.1 : Int))]) (fun s => s.2) (fun s => x.obj.refs.length - s.1) (fun ⟨j, σj⟩ ⟨hj, hlj0, hok⟩ => ?_)
    (0, hnew σ 3 [.str x.name, b0, b1]) ⟨Nat.zero_le _, Lh.refl _, fun j f hj => absurd hj (Nat.not_lt_zero _)⟩
  simp only at hj hlj0 hok ⊢
  have hlj := ln.trans hlj0
  refine W.to (fun k _ => by rw [impl_checkRefs.L0_step]) ?_
  try simp only [q_bind_some, castInt_int, q_castBool, q_castStr, q_castPtr, q_castFn, q_castAgg, q_castTuple, q_uncons, q_isNil, q_sl, q_nils, q_emp, q_ptr, q_nilp, q_fn, q_cond_true, q_cond_false, Bool.not_true, Bool.not_false, decide_true, decide_false, List.cons_append, List.nil_append]
  refine B.ite (fun hlt => ?_) fun hlt => ?_
  · refine B.at q0 hlj (by omega) fun r o cs rf hrf hr hP => ?_
    cases hP with
    | mk =>
    try simp only [q_bind_some, castInt_int, q_castBool, q_castStr, q_castPtr, q_castFn, q_castAgg, q_castTuple, q_uncons, q_isNil, q_sl, q_nils, q_emp, q_ptr, q_nilp, q_fn, q_cond_true, q_cond_false, Bool.not_true, Bool.not_false, decide_true, decide_false, List.cons_append, List.nil_append, hr]
    have bad : ∀ {σ' : Heap} {f : Flt}, Lh σ σ' → refFault l i x j rf = f → f ≠ noF → W (ι := Nat × Unit) (fun w σ' => w = FV (refsFault l i x) ∧ Lh σ σ') (Nxt (fun _ => False) impl_checkRefs.L0 (fun k _ => impl_checkRefs.A0 k) (fun s : Nat × Heap => s.1 ≤ x.obj.refs.length ∧ Lh (hnew σ 3 [.str x.name, b0, b1]) s.2 ∧ ∀ (j : Nat) r, j < s.1 → x.obj.refs[j]? = some r → refFault l i x j r = noF)
        (fun s => [.v v, .v (.int .i64 (i : Int)), .box [.int .i64 0, .int .i64 0, .int .i64 0], .v (.ptr σ.length 0), .v b0, .v (.int .i64 (x.obj.refs.length : Int)), .v (.int .i64 (s.1 : Int))]) (fun s => s.2) (fun s => x.obj.refs.length - s.1) (x.obj.refs.length - j))
        (fun k _ => some (.agg [.int .i64 f.1, .int .i64 f.2.1, .int .i64 f.2.2], σ')) := by
      intro σ' f lh he hn
      refine W.ret ⟨?_, lh⟩
      have hs : scan (refFault l i x) 0 x.obj.refs = f := by
        rw [scan_at hrf (by rw [Nat.zero_add, he]; exact hn) fun j' y hj' hy => by rw [Nat.zero_add]; exact hok j' y hj' hy, Nat.zero_add, he]
      rw [refsFault, hs, if_neg hn]
      rfl
    by_cases hmo : rf.mod = ⟨#[]⟩
    · try simp only [q_bind_some, castInt_int, q_castBool, q_castStr, q_castPtr, q_castFn, q_castAgg, q_castTuple, q_uncons, q_isNil, q_sl, q_nils, q_emp, q_ptr, q_nilp, q_fn, q_cond_true, q_cond_false, Bool.not_true, Bool.not_false, decide_true, decide_false, List.cons_append, List.nil_append, hmo]
      have hnl : ¬ (i : Int) < 0 := by omega
      try simp only [q_bind_some, castInt_int, q_castBool, q_castStr, q_castPtr, q_castFn, q_castAgg, q_castTuple, q_uncons, q_isNil, q_sl, q_nils, q_emp, q_ptr, q_nilp, q_fn, q_cond_true, q_cond_false, Bool.not_true, Bool.not_false, decide_true, decide_false, List.cons_append, List.nil_append, hnl]
      refine B.at h hlj (lt_of_get hp) fun r2 o2 cs2 x2 hx2 hr2 hP2 => ?_
      obtain rfl : x2 = x := by rw [hp] at hx2; injection hx2 with hx2; exact hx2.symm
      cases hP2 with
      | mk p0 p1 =>
      rename_i d0 d1
      have hr3 : rdc σj r2 (o2 + 1) 2 = some [d0, d1] := rdc_sub hr2 1 2 (by omega)
      try simp only [q_bind_some, castInt_int, q_castBool, q_castStr, q_castPtr, q_castFn, q_castAgg, q_castTuple, q_uncons, q_isNil, q_sl, q_nils, q_emp, q_ptr, q_nilp, q_fn, q_cond_true, q_cond_false, Bool.not_true, Bool.not_false, decide_true, decide_false, List.cons_append, List.nil_append, hr3]
      refine B.give (funIn_gives (by omega) (CodeObj.Rep.le hlj (.mk p0 p1)) rf.name) fun σ4 l4 => ?_
      try simp only [q_bind_some, castInt_int, q_castBool, q_castStr, q_castPtr, q_castFn, q_castAgg, q_castTuple, q_uncons, q_isNil, q_sl, q_nils, q_emp, q_ptr, q_nilp, q_fn, q_cond_true, q_cond_false, Bool.not_true, Bool.not_false, decide_true, decide_false, List.cons_append, List.nil_append]
      have hrefF : refFault l i x2 j rf = if funIdx x2.obj rf.name < 0 then (4, (i : Int), (j : Int)) else noF := by rw [refFault, if_pos hmo]
      refine B.ite (fun k2 => ?_) fun k2 => ?_
      · try simp only [q_bind_some, castInt_int, q_castBool, q_castStr, q_castPtr, q_castFn, q_castAgg, q_castTuple, q_uncons, q_isNil, q_sl, q_nils, q_emp, q_ptr, q_nilp, q_fn, q_cond_true, q_cond_false, Bool.not_true, Bool.not_false, decide_true, decide_false, List.cons_append, List.nil_append, impl_checkRefs.A0_ret]
        exact bad (f := (4, (i : Int), (j : Int))) (hlj.trans l4) (by rw [hrefF, if_pos k2]) (by simp [noF])
      · try simp only [q_bind_some, castInt_int, q_castBool, q_castStr, q_castPtr, q_castFn, q_castAgg, q_castTuple, q_uncons, q_isNil, q_sl, q_nils, q_emp, q_ptr, q_nilp, q_fn, q_cond_true, q_cond_false, Bool.not_true, Bool.not_false, decide_true, decide_false, List.cons_append, List.nil_append, wrap_next (show j < x2.obj.refs.length by omega) (by omega)]
        exact W.again (j + 1, σ4) ⟨by show j + 1 ≤ x2.obj.refs.length; omega, hlj0.trans l4, ext_hok hrf hok (by rw [hrefF, if_neg k2])⟩ (by simp only; omega) rfl rfl
    · try simp only [q_bind_some, castInt_int, q_castBool, q_castStr, q_castPtr, q_castFn, q_castAgg, q_castTuple, q_uncons, q_isNil, q_sl, q_nils, q_emp, q_ptr, q_nilp, q_fn, q_cond_true, q_cond_false, Bool.not_true, Bool.not_false, decide_true, decide_false, List.cons_append, List.nil_append, hmo]
      refine B.give (partAt_gives (by omega) (h.mono hlj fun cs x _ hc => LinkPart.Rep.le hlj hc) rf.mod) fun σ2 l2 => ?_
      have l02 := hlj.trans l2
      try simp only [q_bind_some, castInt_int, q_castBool, q_castStr, q_castPtr, q_castFn, q_castAgg, q_castTuple, q_uncons, q_isNil, q_sl, q_nils, q_emp, q_ptr, q_nilp, q_fn, q_cond_true, q_cond_false, Bool.not_true, Bool.not_false, decide_true, decide_false, List.cons_append, List.nil_append]
      refine B.ite (fun k1 => ?_) fun k1 => ?_
      · try simp only [q_bind_some, castInt_int, q_castBool, q_castStr, q_castPtr, q_castFn, q_castAgg, q_castTuple, q_uncons, q_isNil, q_sl, q_nils, q_emp, q_ptr, q_nilp, q_fn, q_cond_true, q_cond_false, Bool.not_true, Bool.not_false, decide_true, decide_false, List.cons_append, List.nil_append, impl_checkRefs.A0_ret]
        refine bad (f := (4, (i : Int), (j : Int))) l02 ?_ (by simp [noF])
        rw [refFault, if_neg hmo]
        split
        · rfl
        · rw [if_pos k1]
      have hpl : partIdx l rf.mod < (l.length : Int) := fidx_lt _
      obtain ⟨q, hq⟩ : ∃ q : Nat, partIdx l rf.mod = (q : Int) := ⟨(partIdx l rf.mod).toNat, by omega⟩
      rw [hq]
      refine B.at h l02 (by omega) fun r2 o2 cs2 x2 hx2 hr2 hP2 => ?_
      have hm2 := List.mem_of_getElem? hx2
      have hol2 := obj_lens (part_total ht hm2)
      have e : ((q : Int)).toNat = q := by omega
      have hrefF : refFault l i x j rf = if funIdx x2.obj rf.name < 0 then (4, (i : Int), (j : Int)) else if pubAt x2.obj (funIdx x2.obj rf.name) then noF else (5, (i : Int), (j : Int)) := by
        rw [refFault, if_neg hmo, hq, e, hx2]
        simp only
        rw [if_neg (by omega)]
      cases hP2 with
      | mk p0 p1 =>
      rename_i d0 d1
      have hr3 : rdc σ2 r2 (o2 + 1) 2 = some [d0, d1] := rdc_sub hr2 1 2 (by omega)
      try simp only [q_bind_some, castInt_int, q_castBool, q_castStr, q_castPtr, q_castFn, q_castAgg, q_castTuple, q_uncons, q_isNil, q_sl, q_nils, q_emp, q_ptr, q_nilp, q_fn, q_cond_true, q_cond_false, Bool.not_true, Bool.not_false, decide_true, decide_false, List.cons_append, List.nil_append, hr3]
      refine B.give (funIn_gives (by omega) (CodeObj.Rep.le l02 (.mk p0 p1)) rf.name) fun σ4 l4 => ?_
      have l04 := l02.trans l4
      try simp only [q_bind_some, castInt_int, q_castBool, q_castStr, q_castPtr, q_castFn, q_castAgg, q_castTuple, q_uncons, q_isNil, q_sl, q_nils, q_emp, q_ptr, q_nilp, q_fn, q_cond_true, q_cond_false, Bool.not_true, Bool.not_false, decide_true, decide_false, List.cons_append, List.nil_append]
      refine B.ite (fun k2 => ?_) fun k2 => ?_
      · try simp only [q_bind_some, castInt_int, q_castBool, q_castStr, q_castPtr, q_castFn, q_castAgg, q_castTuple, q_uncons, q_isNil, q_sl, q_nils, q_emp, q_ptr, q_nilp, q_fn, q_cond_true, q_cond_false, Bool.not_true, Bool.not_false, decide_true, decide_false, List.cons_append, List.nil_append, impl_checkRefs.A0_ret]
        exact bad (f := (4, (i : Int), (j : Int))) l04 (by rw [hrefF, if_pos k2]) (by simp [noF])
      have hfl : funIdx x2.obj rf.name < (x2.obj.funs.length : Int) := fidx_lt _
      obtain ⟨z, hz⟩ : ∃ z : Nat, funIdx x2.obj rf.name = (z : Int) := ⟨(funIdx x2.obj rf.name).toNat, by omega⟩
      obtain ⟨r4, o4, hv4, _⟩ := (h.mono l04 fun cs x _ hc => LinkPart.Rep.le l04 hc).at (show q < l.length by omega)
      have hr4 : rdc σ4 r2 (o2 + 1 + 1) 1 = some [d1] := rdc_sub (l4.rdc hr2) 2 1 (by omega)
      refine B.at h l04 (by omega) fun r5 o5 cs5 x5 hx5 hr5 hP5 => ?_
      obtain rfl : x5 = x2 := by rw [hx2] at hx5; injection hx5 with hx5; exact hx5.symm
      cases hP5 with
      | mk p0' p1' =>
      rename_i d0' d1'
      have hr6 : rdc σ4 r5 (o5 + 1 + 1) 1 = some [d1'] := rdc_sub hr5 2 1 (by omega)
      try simp only [q_bind_some, castInt_int, q_castBool, q_castStr, q_castPtr, q_castFn, q_castAgg, q_castTuple, q_uncons, q_isNil, q_sl, q_nils, q_emp, q_ptr, q_nilp, q_fn, q_cond_true, q_cond_false, Bool.not_true, Bool.not_false, decide_true, decide_false, List.cons_append, List.nil_append, hr6]
      rw [hz]
      refine B.at p1' l04 (by omega) fun r7 o7 cs7 f7 hx7 hr7 hP7 => ?_
      cases hP7 with
      | mk t0 t1 =>
      have hr8 : rdc σ4 r7 (o7 + 1) 1 = some [.bool f7.pub] := rdc_sub hr7 1 1 (by omega)
      try simp only [q_bind_some, castInt_int, q_castBool, q_castStr, q_castPtr, q_castFn, q_castAgg, q_castTuple, q_uncons, q_isNil, q_sl, q_nils, q_emp, q_ptr, q_nilp, q_fn, q_cond_true, q_cond_false, Bool.not_true, Bool.not_false, decide_true, decide_false, List.cons_append, List.nil_append, hr8]
      have hpub : pubAt x5.obj (funIdx x5.obj rf.name) = f7.pub := by rw [hz]; exact pub_at hx7
      cases hb : f7.pub with
      | false =>
        try simp only [q_bind_some, castInt_int, q_castBool, q_castStr, q_castPtr, q_castFn, q_castAgg, q_castTuple, q_uncons, q_isNil, q_sl, q_nils, q_emp, q_ptr, q_nilp, q_fn, q_cond_true, q_cond_false, Bool.not_true, Bool.not_false, decide_true, decide_false, List.cons_append, List.nil_append, impl_checkRefs.A0_ret]
        exact bad (f := (5, (i : Int), (j : Int))) l04 (by rw [hrefF, if_neg k2, hpub, hb]; rfl) (by simp [noF])
      | true =>
        try simp only [q_bind_some, castInt_int, q_castBool, q_castStr, q_castPtr, q_castFn, q_castAgg, q_castTuple, q_uncons, q_isNil, q_sl, q_nils, q_emp, q_ptr, q_nilp, q_fn, q_cond_true, q_cond_false, Bool.not_true, Bool.not_false, decide_true, decide_false, List.cons_append, List.nil_append, wrap_next (show j < x.obj.refs.length by omega) (by omega)]
        exact W.again (j + 1, σ4) ⟨by show j + 1 ≤ x.obj.refs.length; omega, hlj0.trans (l2.trans l4), ext_hok hrf hok (by rw [hrefF, if_neg k2, hpub, hb]; rfl)⟩ (by simp only; omega) rfl rfl
  have hrefs : scan (refFault l i x) 0 x.obj.refs = noF := scan_none fun j' y hy => by rw [Nat.zero_add]; exact hok j' y (by have := lt_of_get hy; omega) hy
  have hrf2 : refsFault l i x = scan (callFault x i) 0 x.obj.funs := by rw [refsFault, if_pos hrefs]
  rw [hrf2]
  try simp only [q_bind_some, Option.bind_assoc, castInt_int, q_castBool, q_castStr, q_castPtr, q_castFn, q_castAgg, q_castTuple, q_uncons, q_isNil, q_sl, q_nils, q_emp, q_ptr, q_nilp, q_fn, q_cond_true, q_cond_false, Bool.not_true, Bool.not_false, decide_true, decide_false, castInt_bind, castBool_bind, castStr_bind, castPtr_bind, castFn_bind, castAgg_bind, castTuple_bind, uncons_bind, isNil_bind, one_bind, cond_bind, ite_bind_, List.cons_append, List.nil_append, impl_checkRefs.A0_x0, hb2 hlj0]
  refine W.len q1 ?_
  refine W.loop (S := Nat × Heap) (fun s => s.1 ≤ x.obj.funs.length ∧ Lh (hnew σ 3 [.str x.name, b0, b1]) s.2 ∧ ∀ (j : Nat) f, j < s.1 → x.obj.funs[j]? = some f → callFault x i j f = noF)
    (fun s => [.v (.int .i64 (i : Int)), .box [.int .i64 0, .int .i64 0, .int .i64 0], .v (.ptr σ.length 0), .v b1, .v (.int .i64 (x.obj.funs.length : Int)), .v (.int .i64 (s.1 : Int))]) (fun s => s.2) (fun s => x.obj.funs.length - s.1) (fun ⟨z, σz⟩ ⟨hz, hlz0, hokz⟩ => ?_)
    (0, σj) ⟨Nat.zero_le _, hlj0, fun j f hj => absurd hj (Nat.not_lt_zero _)⟩
  simp only at hz hlz0 hokz ⊢
  have hlz := ln.trans hlz0
  refine W.to (fun k _ => by rw [impl_checkRefs.L1_step]) ?_
  try simp only [q_bind_some, castInt_int, q_castBool, q_castStr, q_castPtr, q_castFn, q_castAgg, q_castTuple, q_uncons, q_isNil, q_sl, q_nils, q_emp, q_ptr, q_nilp, q_fn, q_cond_true, q_cond_false, Bool.not_true, Bool.not_false, decide_true, decide_false, List.cons_append, List.nil_append]
  refine B.ite (fun hlt2 => ?_) fun hlt2 => ?_
  · refine B.at q1 hlz (by omega) fun r o cs f hf hr hP => ?_
    have hfm := List.mem_of_getElem? hf
    cases hP with
    | mk t0 t1 =>
    try simp only [q_bind_some, castInt_int, q_castBool, q_castStr, q_castPtr, q_castFn, q_castAgg, q_castTuple, q_uncons, q_isNil, q_sl, q_nils, q_emp, q_ptr, q_nilp, q_fn, q_cond_true, q_cond_false, Bool.not_true, Bool.not_false, decide_true, decide_false, List.cons_append, List.nil_append, hr]
    have hcl := hol.2.2 f hfm
    refine B.give (slices_ContainsFunc_impl_CodeIns_impl_CodeIns_gives (by omega) (t1.mono hlz fun cs y _ hc => CodeIns.Rep.le hlz hc) n_impl_checkRefs_1 [.ptr σ.length 0] (badCall x.obj.refs.length) fun y hy σ' cs hl hP => ?_) fun σ4 l4 => ?_
    · exact checkRefs1_gives (hlz0.trans hl) (q0.mono (hlz.trans hl) fun cs y _ hc => CodeRef.Rep.le (hlz.trans hl) hc) hP
    try simp only [q_bind_some, castInt_int, q_castBool, q_castStr, q_castPtr, q_castFn, q_castAgg, q_castTuple, q_uncons, q_isNil, q_sl, q_nils, q_emp, q_ptr, q_nilp, q_fn, q_cond_true, q_cond_false, Bool.not_true, Bool.not_false, decide_true, decide_false, List.cons_append, List.nil_append]
    cases hb : f.code.any (badCall x.obj.refs.length) with
    | true =>
      try simp only [q_bind_some, castInt_int, q_castBool, q_castStr, q_castPtr, q_castFn, q_castAgg, q_castTuple, q_uncons, q_isNil, q_sl, q_nils, q_emp, q_ptr, q_nilp, q_fn, q_cond_true, q_cond_false, Bool.not_true, Bool.not_false, decide_true, decide_false, List.cons_append, List.nil_append, impl_checkRefs.A1_ret]
      refine W.ret ⟨?_, hlz.trans l4⟩
      have hcf : callFault x i z f = (6, (i : Int), (z : Int)) := by rw [callFault, hb]; rfl
      rw [scan_at hf (by rw [Nat.zero_add, hcf]; simp [noF]) fun j' y hj' hy => by rw [Nat.zero_add]; exact hokz j' y hj' hy, Nat.zero_add, hcf]
      rfl
    | false =>
      have hcf : callFault x i z f = noF := by rw [callFault, hb]; rfl
      try simp only [q_bind_some, castInt_int, q_castBool, q_castStr, q_castPtr, q_castFn, q_castAgg, q_castTuple, q_uncons, q_isNil, q_sl, q_nils, q_emp, q_ptr, q_nilp, q_fn, q_cond_true, q_cond_false, Bool.not_true, Bool.not_false, decide_true, decide_false, List.cons_append, List.nil_append, wrap_next (show z < x.obj.funs.length by omega) (by omega)]
      exact W.again (z + 1, σ4) ⟨by show z + 1 ≤ x.obj.funs.length; omega, hlz0.trans l4, ext_hok hf hokz hcf⟩ (by simp only; omega) rfl rfl
  · try simp only [q_bind_some, castInt_int, q_castBool, q_castStr, q_castPtr, q_castFn, q_castAgg, q_castTuple, q_uncons, q_isNil, q_sl, q_nils, q_emp, q_ptr, q_nilp, q_fn, q_cond_true, q_cond_false, Bool.not_true, Bool.not_false, decide_true, decide_false, List.cons_append, List.nil_append, impl_checkRefs.A1_x3]
    refine W.ret ⟨?_, hlz⟩
    rw [scan_none fun j' y hy => by rw [Nat.zero_add]; exact hokz j' y (by have := lt_of_get hy; omega) hy]
    rfl
theorem fv_zero {f : Flt} (h : FOk f) : (decide (f.1 = 0) && (decide (f.2.1 = 0) && (decide (f.2.2 = 0) && true))) = decide (f = noF) := by
  obtain ⟨a, b, c⟩ := f
  rw [Bool.eq_iff_iff]
  simp [noF]
theorem implLinkCheck_gives {σ : Heap} {v : V} {l : List LinkPart} (ht : l.length + totS LinkPart.total l ≤ 1048576) (hF : ∀ x, x ∈ l → x.Fit) (h : RepS 3 (LinkPart.Rep σ) σ v l) : Gives G n_impl_LinkCheck [v] σ (FV (linkFault l)) := by
  refine Gives.of (W.to (fun k _ => impl_LinkCheck.eq k _ _) ?_)
  refine W.len h (W.ite (fun k1 => ?_) fun k1 => ?_)
  · exact W.ret ⟨by rw [linkFault, if_pos (by omega)]; rfl, Lh.refl _⟩
  refine W.loop (S := Nat × Heap) (fun s => s.1 ≤ 2 ∧ Lh σ s.2 ∧ (1 ≤ s.1 → scan (formFault l) 0 l = noF) ∧ (2 ≤ s.1 → scan (refsFault l) 0 l = noF))
    (fun s => [.v v, .box [.int .i64 0, .int .i64 0, .int .i64 0], .v (.agg [.fn n_impl_checkPart [], .fn n_impl_checkRefs []]), .v (.int .i64 (s.1 : Int))]) (fun s => s.2) (fun s => 2 - s.1) (fun ⟨a, σa⟩ ⟨ha, hla, hf1, hf2⟩ => ?_)
    (0, σ) ⟨Nat.zero_le _, Lh.refl _, fun h => absurd h (by omega), fun h => absurd h (by omega)⟩
  simp only at ha hla hf1 hf2 ⊢
  refine W.to (fun k _ => by rw [impl_LinkCheck.L0_step]) ?_
  try simp only [q_bind_some, Option.bind_assoc, castInt_int, q_castBool, q_castStr, q_castPtr, q_castFn, q_castAgg, q_castTuple, q_uncons, q_isNil, q_sl, q_nils, q_emp, q_ptr, q_nilp, q_fn, q_cond_true, q_cond_false, Bool.not_true, Bool.not_false, decide_true, decide_false, castInt_bind, castBool_bind, castStr_bind, castPtr_bind, castFn_bind, castAgg_bind, castTuple_bind, uncons_bind, isNil_bind, one_bind, cond_bind, ite_bind_, List.cons_append, List.nil_append]
  refine W.ite (fun hlt => ?_) fun hlt => ?_
  rotate_left
  · try simp only [q_bind_some, Option.bind_assoc, castInt_int, q_castBool, q_castStr, q_castPtr, q_castFn, q_castAgg, q_castTuple, q_uncons, q_isNil, q_sl, q_nils, q_emp, q_ptr, q_nilp, q_fn, q_cond_true, q_cond_false, Bool.not_true, Bool.not_false, decide_true, decide_false, castInt_bind, castBool_bind, castStr_bind, castPtr_bind, castFn_bind, castAgg_bind, castTuple_bind, uncons_bind, isNil_bind, one_bind, cond_bind, ite_bind_, List.cons_append, List.nil_append, impl_LinkCheck.A0_x0]
    refine W.ret ⟨?_, hla⟩
    rw [linkFault, if_neg (by omega), if_pos (hf1 (by omega)), hf2 (by omega)]
    rfl
  obtain ⟨fid, g, hai, hg, hgok, hres, hnext⟩ : ∃ (fid : FuncId) (g : Nat → LinkPart → Flt), aidx 2 [.fn n_impl_checkPart [], .fn n_impl_checkRefs []] (a : Int) = some (.fn fid []) ∧
      (∀ {σ' : Heap} {i : Nat} {p : LinkPart}, Lh σ σ' → l[i]? = some p → Gives G fid ([v, .int .i64 (i : Int)] ++ []) σ' (FV (g i p))) ∧ (∀ i p, FOk (g i p)) ∧ (scan g 0 l ≠ noF → linkFault l = scan g 0 l) ∧ (scan g 0 l = noF → (1 ≤ a + 1 → scan (formFault l) 0 l = noF) ∧ (2 ≤ a + 1 → scan (refsFault l) 0 l = noF)) := by
    have : a = 0 ∨ a = 1 := by omega
    rcases this with rfl | rfl
    · refine ⟨n_impl_checkPart, formFault l, by simp [aidx], fun l hp => checkPart_gives ht hF (h.mono l fun cs x _ hc => LinkPart.Rep.le l hc) hp, formFault_ok l, fun hn => ?_, fun hn => ⟨fun _ => hn, fun h => absurd h (by omega)⟩⟩
      rw [linkFault, if_neg (by omega), if_neg hn]
    · refine ⟨n_impl_checkRefs, refsFault l, by simp [aidx], fun l hp => checkRefs_gives ht hF (h.mono l fun cs x _ hc => LinkPart.Rep.le l hc) hp, refsFault_ok l, fun hn => ?_, fun hn => ⟨fun _ => hf1 (by omega), fun _ => hn⟩⟩
      rw [linkFault, if_neg (by omega), if_pos (hf1 (by omega))]
  refine W.bind hai ?_
  refine W.len h ?_
  refine W.loop (S := Nat × Heap) (fun s => s.1 ≤ l.length ∧ Lh σ s.2 ∧ ∀ (j : Nat) p, j < s.1 → l[j]? = some p → g j p = noF)
    (fun s => [.v v, .box [.int .i64 0, .int .i64 0, .int .i64 0], .v (.fn fid []), .v (.agg [.fn n_impl_checkPart [], .fn n_impl_checkRefs []]), .v (.int .i64 (a : Int)), .v (.int .i64 (l.length : Int)), .v (.int .i64 (s.1 : Int))]) (fun s => s.2) (fun s => l.length - s.1) (fun ⟨j, σj⟩ ⟨hj, hlj, hok⟩ => ?_)
    (0, σa) ⟨Nat.zero_le _, hla, fun j f hj => absurd hj (Nat.not_lt_zero _)⟩
  simp only at hj hlj hok ⊢
  refine W.to (fun k _ => by rw [impl_LinkCheck.L1_step]) ?_
  try simp only [q_bind_some, Option.bind_assoc, castInt_int, q_castBool, q_castStr, q_castPtr, q_castFn, q_castAgg, q_castTuple, q_uncons, q_isNil, q_sl, q_nils, q_emp, q_ptr, q_nilp, q_fn, q_cond_true, q_cond_false, Bool.not_true, Bool.not_false, decide_true, decide_false, castInt_bind, castBool_bind, castStr_bind, castPtr_bind, castFn_bind, castAgg_bind, castTuple_bind, uncons_bind, isNil_bind, one_bind, cond_bind, ite_bind_, List.cons_append, List.nil_append]
  refine W.ite (fun hlt2 => ?_) fun hlt2 => ?_
  · have hjl : j < l.length := by omega
    have hp : l[j]? = some l[j] := List.getElem?_eq_getElem hjl
    generalize l[j] = p at hp
    refine W.give (hg hlj hp) fun σ4 l4 => ?_
    have l04 := hlj.trans l4
    have hz := fv_zero (hgok j p)
    try simp only [q_bind_some, Option.bind_assoc, castInt_int, q_castBool, q_castStr, q_castPtr, q_castFn, q_castAgg, q_castTuple, q_uncons, q_isNil, q_sl, q_nils, q_emp, q_ptr, q_nilp, q_fn, q_cond_true, q_cond_false, Bool.not_true, Bool.not_false, decide_true, decide_false, castInt_bind, castBool_bind, castStr_bind, castPtr_bind, castFn_bind, castAgg_bind, castTuple_bind, uncons_bind, isNil_bind, one_bind, cond_bind, ite_bind_, List.cons_append, List.nil_append, FV, hz]
    by_cases hn : g j p = noF
    · try simp only [q_bind_some, Option.bind_assoc, castInt_int, q_castBool, q_castStr, q_castPtr, q_castFn, q_castAgg, q_castTuple, q_uncons, q_isNil, q_sl, q_nils, q_emp, q_ptr, q_nilp, q_fn, q_cond_true, q_cond_false, Bool.not_true, Bool.not_false, decide_true, decide_false, castInt_bind, castBool_bind, castStr_bind, castPtr_bind, castFn_bind, castAgg_bind, castTuple_bind, uncons_bind, isNil_bind, one_bind, cond_bind, ite_bind_, List.cons_append, List.nil_append, hn, wrap_next hjl (by omega)]
      exact W.again (j + 1, σ4) ⟨by show j + 1 ≤ l.length; omega, l04, ext_hok hp hok hn⟩ (by simp only; omega) rfl rfl
    · try simp only [q_bind_some, Option.bind_assoc, castInt_int, q_castBool, q_castStr, q_castPtr, q_castFn, q_castAgg, q_castTuple, q_uncons, q_isNil, q_sl, q_nils, q_emp, q_ptr, q_nilp, q_fn, q_cond_true, q_cond_false, Bool.not_true, Bool.not_false, decide_true, decide_false, castInt_bind, castBool_bind, castStr_bind, castPtr_bind, castFn_bind, castAgg_bind, castTuple_bind, uncons_bind, isNil_bind, one_bind, cond_bind, ite_bind_, List.cons_append, List.nil_append, hn, impl_LinkCheck.A1_ret, impl_LinkCheck.A0_ret]
      refine W.ret ⟨?_, l04⟩
      have hs : scan g 0 l = g j p := by
        rw [scan_at hp (by rw [Nat.zero_add]; exact hn) fun j' y hj' hy => by rw [Nat.zero_add]; exact hok j' y hj' hy, Nat.zero_add]
      rw [hres (by rw [hs]; exact hn), hs]
  · have hs : scan g 0 l = noF := scan_none fun j' y hy => by rw [Nat.zero_add]; exact hok j' y (by have := lt_of_get hy; omega) hy
    have hw : IntKind.wrap .i64 ((a : Int) + 1) = ((a + 1 : Nat) : Int) := wrap_next (show a < 2 by omega) (by omega)
    try simp only [q_bind_some, Option.bind_assoc, castInt_int, q_castBool, q_castStr, q_castPtr, q_castFn, q_castAgg, q_castTuple, q_uncons, q_isNil, q_sl, q_nils, q_emp, q_ptr, q_nilp, q_fn, q_cond_true, q_cond_false, Bool.not_true, Bool.not_false, decide_true, decide_false, castInt_bind, castBool_bind, castStr_bind, castPtr_bind, castFn_bind, castAgg_bind, castTuple_bind, uncons_bind, isNil_bind, one_bind, cond_bind, ite_bind_, List.cons_append, List.nil_append, impl_LinkCheck.A1_x2]
    refine W.out' _ (W.again (a + 1, σj) ⟨by show a + 1 ≤ 2; omega, hlj, hnext hs⟩ (by simp only; omega) (by rw [hw]) rfl) fun k j m => rfl
end Go.B
