/- Objects that are right: ObjOk of both. -/
import Derived.Test.YtjadancpencnnaaDoorP1
import Derived.Test.YtjadancpencnnaaDoorAre
import Derived.Test.YtjadancpencnnaaDoorHMIdx
set_option linter.unusedVariables false
set_option linter.unusedSimpArgs false
namespace Go.D
open Go.HM Go.Proofs
def InsOk (x : CodeIns) : Prop := (x.op = 1 ∧ -99999999999999999 ≤ x.a ∧ x.a ≤ 99999999999999999) ∨ (x.op = 2 ∧ 0 ≤ x.a ∧ x.a ≤ 1) ∨ (x.op = 9 ∧ x.a = 0) ∨ (x.op ≠ 1 ∧ x.op ≠ 2 ∧ x.op ≠ 9 ∧ 1 ≤ x.op ∧ x.op ≤ 10 ∧ 0 ≤ x.a ∧ x.a ≤ 1000)
instance (x : CodeIns) : Decidable (InsOk x) := inferInstanceAs (Decidable (_ ∨ _))
def mainW : ByteArray := ⟨#[109, 97, 105, 110]⟩
def HeadIs (name : ByteArray) (args : List Int) (type slots : Int) : Prop := (IsName name ∨ name = mainW) ∧ Typs args ∧ IsT type ∧ 0 ≤ slots ∧ slots ≤ 1000
noncomputable instance (name : ByteArray) (args : List Int) (type slots : Int) : Decidable (HeadIs name args type slots) := Classical.propDecidable _
def CFunOk (f : CodeFun) : Prop := HeadIs f.name f.args f.type f.slots ∧ ∀ x, x ∈ f.code → InsOk x
noncomputable instance (f : CodeFun) : Decidable (CFunOk f) := Classical.propDecidable _
def RefIs (r : CodeRef) : Prop := IsName r.name ∧ (r.mod = ⟨#[]⟩ ∨ IsName r.mod)
noncomputable instance (r : CodeRef) : Decidable (RefIs r) := Classical.propDecidable _
def codes (l : List CodeFun) : Nat := totS (fun f => f.code.length) l
def ObjIs (o : CodeObj) : Prop := o.refs.length ≤ 40 ∧ o.funs.length ≤ 9 ∧ codes o.funs ≤ 460 ∧ (∀ r, r ∈ o.refs → RefIs r) ∧ ∀ f, f ∈ o.funs → CFunOk f
noncomputable instance (o : CodeObj) : Decidable (ObjIs o) := Classical.propDecidable _
theorem slices_IndexFunc_impl_CodeIns_impl_CodeIns_gives {σ : Heap} {v : V} {l : List CodeIns} (hf : l.length ≤ 1073741824) (h : RepS 2 (CodeIns.Rep σ) σ v l) (f : FuncId) (cap : List V) (p : CodeIns → Bool)
    (hx : ∀ x, x ∈ l → ∀ σ' cs, Lh σ σ' → CodeIns.Rep σ' cs x → Gives G f ([.agg cs] ++ cap) σ' (.bool (p x))) : Gives G n_slices_IndexFunc_impl_CodeIns_impl_CodeIns [v, .fn f cap] σ (.int .i64 (fidx p l)) := by
  refine Gives.of (W.to (fun k _ => slices_IndexFunc_impl_CodeIns_impl_CodeIns.eq k _ _ _) ?_)
  refine W.len h ?_
  refine W.loop (S := Nat × Heap) (fun s => s.1 ≤ l.length ∧ Lh σ s.2 ∧ ∀ (j : Nat) y, j < s.1 → l[j]? = some y → p y = false) (fun s => [.v v, .v (.fn f cap), .v (.int .i64 (l.length : Int)), .v (.int .i64 (s.1 : Int))]) (fun s => s.2) (fun s => l.length - s.1) (fun ⟨i, σi⟩ ⟨hi, hle, hok⟩ => ?_)
    (0, σ) ⟨Nat.zero_le _, Lh.refl _, fun j y hj => absurd hj (Nat.not_lt_zero _)⟩
  simp only at hi hle hok ⊢
  refine W.to (fun k _ => by rw [slices_IndexFunc_impl_CodeIns_impl_CodeIns.L0_step]) ?_
  try simp only [q_bind_some, Option.bind_assoc, castInt_int, q_castBool, q_castStr, q_castPtr, q_castFn, q_castAgg, q_castTuple, q_uncons, q_isNil, q_sl, q_nils, q_emp, q_ptr, q_nilp, q_fn, q_cond_true, q_cond_false, Bool.not_true, Bool.not_false, decide_true, decide_false, castInt_bind, castBool_bind, castStr_bind, castPtr_bind, castFn_bind, castAgg_bind, castTuple_bind, uncons_bind, isNil_bind, one_bind, cond_bind, ite_bind_, List.cons_append, List.nil_append]
  refine W.ite (fun hlt => ?_) fun hlt => ?_
  · refine W.at h hle (by omega) fun r o cs x hx' hr hP => ?_
    have hm := List.mem_of_getElem? hx'
    have hc := hx x hm σi cs hle (CodeIns.Rep.le hle hP)
    cases hP with
    | mk =>
    try simp only [q_bind_some, Option.bind_assoc, castInt_int, q_castBool, q_castStr, q_castPtr, q_castFn, q_castAgg, q_castTuple, q_uncons, q_isNil, q_sl, q_nils, q_emp, q_ptr, q_nilp, q_fn, q_cond_true, q_cond_false, Bool.not_true, Bool.not_false, decide_true, decide_false, castInt_bind, castBool_bind, castStr_bind, castPtr_bind, castFn_bind, castAgg_bind, castTuple_bind, uncons_bind, isNil_bind, one_bind, cond_bind, ite_bind_, List.cons_append, List.nil_append, hr]
    refine W.give hc fun σ1 l1 => ?_
    try simp only [q_bind_some, Option.bind_assoc, castInt_int, q_castBool, q_castStr, q_castPtr, q_castFn, q_castAgg, q_castTuple, q_uncons, q_isNil, q_sl, q_nils, q_emp, q_ptr, q_nilp, q_fn, q_cond_true, q_cond_false, Bool.not_true, Bool.not_false, decide_true, decide_false, castInt_bind, castBool_bind, castStr_bind, castPtr_bind, castFn_bind, castAgg_bind, castTuple_bind, uncons_bind, isNil_bind, one_bind, cond_bind, ite_bind_, List.cons_append, List.nil_append]
    cases hb : p x with
    | true =>
      try simp only [q_bind_some, Option.bind_assoc, castInt_int, q_castBool, q_castStr, q_castPtr, q_castFn, q_castAgg, q_castTuple, q_uncons, q_isNil, q_sl, q_nils, q_emp, q_ptr, q_nilp, q_fn, q_cond_true, q_cond_false, Bool.not_true, Bool.not_false, decide_true, decide_false, castInt_bind, castBool_bind, castStr_bind, castPtr_bind, castFn_bind, castAgg_bind, castTuple_bind, uncons_bind, isNil_bind, one_bind, cond_bind, ite_bind_, List.cons_append, List.nil_append, slices_IndexFunc_impl_CodeIns_impl_CodeIns.A0_ret]
      exact W.ret ⟨by rw [fidx_at hx' hb hok], hle.trans l1⟩
    | false =>
      try simp only [q_bind_some, Option.bind_assoc, castInt_int, q_castBool, q_castStr, q_castPtr, q_castFn, q_castAgg, q_castTuple, q_uncons, q_isNil, q_sl, q_nils, q_emp, q_ptr, q_nilp, q_fn, q_cond_true, q_cond_false, Bool.not_true, Bool.not_false, decide_true, decide_false, castInt_bind, castBool_bind, castStr_bind, castPtr_bind, castFn_bind, castAgg_bind, castTuple_bind, uncons_bind, isNil_bind, one_bind, cond_bind, ite_bind_, List.cons_append, List.nil_append, wrap_next (show i < l.length by omega) (by omega)]
      refine W.again (i + 1, σ1) ⟨by show i + 1 ≤ l.length; omega, hle.trans l1, fun j y hj hy => ?_⟩ (by simp only; omega) rfl rfl
      simp only at hj
      by_cases hij : j = i
      · subst hij
        rw [hx'] at hy
        injection hy with hy
        rw [← hy]; exact hb
      · exact hok j y (by omega) hy
  · try simp only [q_bind_some, Option.bind_assoc, castInt_int, q_castBool, q_castStr, q_castPtr, q_castFn, q_castAgg, q_castTuple, q_uncons, q_isNil, q_sl, q_nils, q_emp, q_ptr, q_nilp, q_fn, q_cond_true, q_cond_false, Bool.not_true, Bool.not_false, decide_true, decide_false, castInt_bind, castBool_bind, castStr_bind, castPtr_bind, castFn_bind, castAgg_bind, castTuple_bind, uncons_bind, isNil_bind, one_bind, cond_bind, ite_bind_, List.cons_append, List.nil_append, slices_IndexFunc_impl_CodeIns_impl_CodeIns.A0_x0]
    exact W.ret ⟨by rw [fidx_none fun j y hy => hok j y (by have := lt_of_get hy; omega) hy], hle⟩

theorem slices_ContainsFunc_impl_CodeIns_impl_CodeIns_gives {σ : Heap} {v : V} {l : List CodeIns} (hf : l.length ≤ 1073741824) (h : RepS 2 (CodeIns.Rep σ) σ v l) (f : FuncId) (cap : List V) (p : CodeIns → Bool)
    (hx : ∀ x, x ∈ l → ∀ σ' cs, Lh σ σ' → CodeIns.Rep σ' cs x → Gives G f ([.agg cs] ++ cap) σ' (.bool (p x))) : Gives G n_slices_ContainsFunc_impl_CodeIns_impl_CodeIns [v, .fn f cap] σ (.bool (l.any p)) := by
  refine Gives.of (W.to (fun k _ => slices_ContainsFunc_impl_CodeIns_impl_CodeIns.eq k _ _ _) ?_)
  refine W.give (slices_IndexFunc_impl_CodeIns_impl_CodeIns_gives hf h f cap p hx) fun σ1 l1 => ?_
  try simp only [q_bind_some, Option.bind_assoc, castInt_int, q_castBool, q_castStr, q_castPtr, q_castFn, q_castAgg, q_castTuple, q_uncons, q_isNil, q_sl, q_nils, q_emp, q_ptr, q_nilp, q_fn, q_cond_true, q_cond_false, Bool.not_true, Bool.not_false, decide_true, decide_false, castInt_bind, castBool_bind, castStr_bind, castPtr_bind, castFn_bind, castAgg_bind, castTuple_bind, uncons_bind, isNil_bind, one_bind, cond_bind, ite_bind_, List.cons_append, List.nil_append, fidx_any]
  exact W.ret ⟨rfl, l1⟩

theorem slices_IndexFunc_impl_CodeRef_impl_CodeRef_gives {σ : Heap} {v : V} {l : List CodeRef} (hf : l.length ≤ 1073741824) (h : RepS 2 (CodeRef.Rep σ) σ v l) (f : FuncId) (cap : List V) (p : CodeRef → Bool)
    (hx : ∀ x, x ∈ l → ∀ σ' cs, Lh σ σ' → CodeRef.Rep σ' cs x → Gives G f ([.agg cs] ++ cap) σ' (.bool (p x))) : Gives G n_slices_IndexFunc_impl_CodeRef_impl_CodeRef [v, .fn f cap] σ (.int .i64 (fidx p l)) := by
  refine Gives.of (W.to (fun k _ => slices_IndexFunc_impl_CodeRef_impl_CodeRef.eq k _ _ _) ?_)
  refine W.len h ?_
  refine W.loop (S := Nat × Heap) (fun s => s.1 ≤ l.length ∧ Lh σ s.2 ∧ ∀ (j : Nat) y, j < s.1 → l[j]? = some y → p y = false) (fun s => [.v v, .v (.fn f cap), .v (.int .i64 (l.length : Int)), .v (.int .i64 (s.1 : Int))]) (fun s => s.2) (fun s => l.length - s.1) (fun ⟨i, σi⟩ ⟨hi, hle, hok⟩ => ?_)
    (0, σ) ⟨Nat.zero_le _, Lh.refl _, fun j y hj => absurd hj (Nat.not_lt_zero _)⟩
  simp only at hi hle hok ⊢
  refine W.to (fun k _ => by rw [slices_IndexFunc_impl_CodeRef_impl_CodeRef.L0_step]) ?_
  try simp only [q_bind_some, Option.bind_assoc, castInt_int, q_castBool, q_castStr, q_castPtr, q_castFn, q_castAgg, q_castTuple, q_uncons, q_isNil, q_sl, q_nils, q_emp, q_ptr, q_nilp, q_fn, q_cond_true, q_cond_false, Bool.not_true, Bool.not_false, decide_true, decide_false, castInt_bind, castBool_bind, castStr_bind, castPtr_bind, castFn_bind, castAgg_bind, castTuple_bind, uncons_bind, isNil_bind, one_bind, cond_bind, ite_bind_, List.cons_append, List.nil_append]
  refine W.ite (fun hlt => ?_) fun hlt => ?_
  · refine W.at h hle (by omega) fun r o cs x hx' hr hP => ?_
    have hm := List.mem_of_getElem? hx'
    have hc := hx x hm σi cs hle (CodeRef.Rep.le hle hP)
    cases hP with
    | mk =>
    try simp only [q_bind_some, Option.bind_assoc, castInt_int, q_castBool, q_castStr, q_castPtr, q_castFn, q_castAgg, q_castTuple, q_uncons, q_isNil, q_sl, q_nils, q_emp, q_ptr, q_nilp, q_fn, q_cond_true, q_cond_false, Bool.not_true, Bool.not_false, decide_true, decide_false, castInt_bind, castBool_bind, castStr_bind, castPtr_bind, castFn_bind, castAgg_bind, castTuple_bind, uncons_bind, isNil_bind, one_bind, cond_bind, ite_bind_, List.cons_append, List.nil_append, hr]
    refine W.give hc fun σ1 l1 => ?_
    try simp only [q_bind_some, Option.bind_assoc, castInt_int, q_castBool, q_castStr, q_castPtr, q_castFn, q_castAgg, q_castTuple, q_uncons, q_isNil, q_sl, q_nils, q_emp, q_ptr, q_nilp, q_fn, q_cond_true, q_cond_false, Bool.not_true, Bool.not_false, decide_true, decide_false, castInt_bind, castBool_bind, castStr_bind, castPtr_bind, castFn_bind, castAgg_bind, castTuple_bind, uncons_bind, isNil_bind, one_bind, cond_bind, ite_bind_, List.cons_append, List.nil_append]
    cases hb : p x with
    | true =>
      try simp only [q_bind_some, Option.bind_assoc, castInt_int, q_castBool, q_castStr, q_castPtr, q_castFn, q_castAgg, q_castTuple, q_uncons, q_isNil, q_sl, q_nils, q_emp, q_ptr, q_nilp, q_fn, q_cond_true, q_cond_false, Bool.not_true, Bool.not_false, decide_true, decide_false, castInt_bind, castBool_bind, castStr_bind, castPtr_bind, castFn_bind, castAgg_bind, castTuple_bind, uncons_bind, isNil_bind, one_bind, cond_bind, ite_bind_, List.cons_append, List.nil_append, slices_IndexFunc_impl_CodeRef_impl_CodeRef.A0_ret]
      exact W.ret ⟨by rw [fidx_at hx' hb hok], hle.trans l1⟩
    | false =>
      try simp only [q_bind_some, Option.bind_assoc, castInt_int, q_castBool, q_castStr, q_castPtr, q_castFn, q_castAgg, q_castTuple, q_uncons, q_isNil, q_sl, q_nils, q_emp, q_ptr, q_nilp, q_fn, q_cond_true, q_cond_false, Bool.not_true, Bool.not_false, decide_true, decide_false, castInt_bind, castBool_bind, castStr_bind, castPtr_bind, castFn_bind, castAgg_bind, castTuple_bind, uncons_bind, isNil_bind, one_bind, cond_bind, ite_bind_, List.cons_append, List.nil_append, wrap_next (show i < l.length by omega) (by omega)]
      refine W.again (i + 1, σ1) ⟨by show i + 1 ≤ l.length; omega, hle.trans l1, fun j y hj hy => ?_⟩ (by simp only; omega) rfl rfl
      simp only at hj
      by_cases hij : j = i
      · subst hij
        rw [hx'] at hy
        injection hy with hy
        rw [← hy]; exact hb
      · exact hok j y (by omega) hy
  · try simp only [q_bind_some, Option.bind_assoc, castInt_int, q_castBool, q_castStr, q_castPtr, q_castFn, q_castAgg, q_castTuple, q_uncons, q_isNil, q_sl, q_nils, q_emp, q_ptr, q_nilp, q_fn, q_cond_true, q_cond_false, Bool.not_true, Bool.not_false, decide_true, decide_false, castInt_bind, castBool_bind, castStr_bind, castPtr_bind, castFn_bind, castAgg_bind, castTuple_bind, uncons_bind, isNil_bind, one_bind, cond_bind, ite_bind_, List.cons_append, List.nil_append, slices_IndexFunc_impl_CodeRef_impl_CodeRef.A0_x0]
    exact W.ret ⟨by rw [fidx_none fun j y hy => hok j y (by have := lt_of_get hy; omega) hy], hle⟩

theorem slices_ContainsFunc_impl_CodeRef_impl_CodeRef_gives {σ : Heap} {v : V} {l : List CodeRef} (hf : l.length ≤ 1073741824) (h : RepS 2 (CodeRef.Rep σ) σ v l) (f : FuncId) (cap : List V) (p : CodeRef → Bool)
    (hx : ∀ x, x ∈ l → ∀ σ' cs, Lh σ σ' → CodeRef.Rep σ' cs x → Gives G f ([.agg cs] ++ cap) σ' (.bool (p x))) : Gives G n_slices_ContainsFunc_impl_CodeRef_impl_CodeRef [v, .fn f cap] σ (.bool (l.any p)) := by
  refine Gives.of (W.to (fun k _ => slices_ContainsFunc_impl_CodeRef_impl_CodeRef.eq k _ _ _) ?_)
  refine W.give (slices_IndexFunc_impl_CodeRef_impl_CodeRef_gives hf h f cap p hx) fun σ1 l1 => ?_
  try simp only [q_bind_some, Option.bind_assoc, castInt_int, q_castBool, q_castStr, q_castPtr, q_castFn, q_castAgg, q_castTuple, q_uncons, q_isNil, q_sl, q_nils, q_emp, q_ptr, q_nilp, q_fn, q_cond_true, q_cond_false, Bool.not_true, Bool.not_false, decide_true, decide_false, castInt_bind, castBool_bind, castStr_bind, castPtr_bind, castFn_bind, castAgg_bind, castTuple_bind, uncons_bind, isNil_bind, one_bind, cond_bind, ite_bind_, List.cons_append, List.nil_append, fidx_any]
  exact W.ret ⟨rfl, l1⟩

theorem headOk_gives {σ : Heap} (s : ByteArray) (hs : s.size ≤ 9223372036854775807) {v : V} {l : List Int} (h : RepS 1 IntRep σ v l) (n m : Int) : Gives G n_impl_headOk [.str s, v, .int .i64 n, .int .i64 m] σ (.bool (decide (HeadIs s l n m))) := by
  refine Gives.of (W.to (fun k _ => impl_headOk.eq k _ _ _ _ _) ?_)
  refine W.give (implLexName_gives σ s hs) fun σ1 l1 => ?_
  try simp only [q_bind_some, Option.bind_assoc, castInt_int, q_castBool, q_castStr, q_castPtr, q_castFn, q_castAgg, q_castTuple, q_uncons, q_isNil, q_sl, q_nils, q_emp, q_ptr, q_nilp, q_fn, q_cond_true, q_cond_false, Bool.not_true, Bool.not_false, decide_true, decide_false, castInt_bind, castBool_bind, castStr_bind, castPtr_bind, castFn_bind, castAgg_bind, castTuple_bind, uncons_bind, isNil_bind, one_bind, cond_bind, ite_bind_, List.cons_append, List.nil_append]
  have rest : ∀ {Next : Cmp Unit → Prop}, (IsName s ∨ s = mainW) → W (fun w σ' => w = .bool (decide (HeadIs s l n m)) ∧ Lh σ σ') Next (fun k _ => (hcall G k n_impl_areTypes [v] σ1).bind fun q7 => castBool q7.1 fun b8 => bif b8 then ((hcall G k n_impl_isType [.int .i64 n] q7.2).bind fun q9 => castBool q9.1 fun b10 => bif b10 then ((hcall G k n_impl_inRange [.int .i64 m, .int .i64 0, .int .i64 1000] q9.2).bind fun q11 => castBool q11.1 fun b12 => some (.bool b12, q11.2)) else (some (.bool false, q9.2))) else (some (.bool false, q7.2))) := by
    intro Next hn
    refine W.give (areTypes_gives (h.le l1)) fun σ2 l2 => ?_
    try simp only [q_bind_some, Option.bind_assoc, castInt_int, q_castBool, q_castStr, q_castPtr, q_castFn, q_castAgg, q_castTuple, q_uncons, q_isNil, q_sl, q_nils, q_emp, q_ptr, q_nilp, q_fn, q_cond_true, q_cond_false, Bool.not_true, Bool.not_false, decide_true, decide_false, castInt_bind, castBool_bind, castStr_bind, castPtr_bind, castFn_bind, castAgg_bind, castTuple_bind, uncons_bind, isNil_bind, one_bind, cond_bind, ite_bind_, List.cons_append, List.nil_append]
    refine W.ite (fun k1 => ?_) fun k1 => ?_
    · refine W.run (isT_runs n) ?_
      try simp only [q_bind_some, Option.bind_assoc, castInt_int, q_castBool, q_castStr, q_castPtr, q_castFn, q_castAgg, q_castTuple, q_uncons, q_isNil, q_sl, q_nils, q_emp, q_ptr, q_nilp, q_fn, q_cond_true, q_cond_false, Bool.not_true, Bool.not_false, decide_true, decide_false, castInt_bind, castBool_bind, castStr_bind, castPtr_bind, castFn_bind, castAgg_bind, castTuple_bind, uncons_bind, isNil_bind, one_bind, cond_bind, ite_bind_, List.cons_append, List.nil_append]
      refine W.ite (fun k2 => ?_) fun k2 => ?_
      · refine W.run (inRange_runs m 0 1000) ?_
        try simp only [q_bind_some, Option.bind_assoc, castInt_int, q_castBool, q_castStr, q_castPtr, q_castFn, q_castAgg, q_castTuple, q_uncons, q_isNil, q_sl, q_nils, q_emp, q_ptr, q_nilp, q_fn, q_cond_true, q_cond_false, Bool.not_true, Bool.not_false, decide_true, decide_false, castInt_bind, castBool_bind, castStr_bind, castPtr_bind, castFn_bind, castAgg_bind, castTuple_bind, uncons_bind, isNil_bind, one_bind, cond_bind, ite_bind_, List.cons_append, List.nil_append]
        exact W.ret ⟨dec_iff (show HeadIs s l n m ↔ (0 ≤ m ∧ m ≤ 1000) from ⟨fun h => h.2.2.2, fun h => ⟨hn, k1, k2, h⟩⟩), l1.trans l2⟩
      · exact W.ret ⟨by rw [decide_eq_false (fun h : HeadIs s l n m => k2 h.2.2.1)], l1.trans l2⟩
    · exact W.ret ⟨by rw [decide_eq_false (fun h : HeadIs s l n m => k1 h.2.1)], l1.trans l2⟩
  refine W.ite (fun k1 => rest (.inl k1)) fun k1 => W.ite (fun k2 => rest (.inr k2)) fun k2 => ?_
  exact W.ret ⟨by rw [decide_eq_false (fun h : HeadIs s l n m => h.1.elim k1 k2)], l1⟩
theorem insOk_runs {σ : Heap} {x : CodeIns} {cs : List V} (h : CodeIns.Rep σ cs x) : Runs G n_impl_insOk [.agg cs] σ (.bool (decide (InsOk x))) σ := by
  cases h with
  | mk =>
  refine Runs.of (W.to (fun k _ => impl_insOk.eq k _ _ _) ?_)
  refine W.ite (fun k1 => ?_) fun k1 => W.ite (fun k2 => ?_) fun k2 => W.ite (fun k3 => ?_) fun k3 => ?_
  · refine W.run (isShort_runs _) ?_
    try simp only [q_bind_some, Option.bind_assoc, castInt_int, q_castBool, q_castStr, q_castPtr, q_castFn, q_castAgg, q_castTuple, q_uncons, q_isNil, q_sl, q_nils, q_emp, q_ptr, q_nilp, q_fn, q_cond_true, q_cond_false, Bool.not_true, Bool.not_false, decide_true, decide_false, castInt_bind, castBool_bind, castStr_bind, castPtr_bind, castFn_bind, castAgg_bind, castTuple_bind, uncons_bind, isNil_bind, one_bind, cond_bind, ite_bind_, List.cons_append, List.nil_append]
    exact W.ret ⟨by simp [InsOk, k1], rfl⟩
  · refine W.run (inRange_runs _ _ _) ?_
    try simp only [q_bind_some, Option.bind_assoc, castInt_int, q_castBool, q_castStr, q_castPtr, q_castFn, q_castAgg, q_castTuple, q_uncons, q_isNil, q_sl, q_nils, q_emp, q_ptr, q_nilp, q_fn, q_cond_true, q_cond_false, Bool.not_true, Bool.not_false, decide_true, decide_false, castInt_bind, castBool_bind, castStr_bind, castPtr_bind, castFn_bind, castAgg_bind, castTuple_bind, uncons_bind, isNil_bind, one_bind, cond_bind, ite_bind_, List.cons_append, List.nil_append]
    exact W.ret ⟨by simp [InsOk, k2], rfl⟩
  · exact W.ret ⟨by simp [InsOk, k3], rfl⟩
  · refine W.run (inRange_runs _ _ _) ?_
    try simp only [q_bind_some, Option.bind_assoc, castInt_int, q_castBool, q_castStr, q_castPtr, q_castFn, q_castAgg, q_castTuple, q_uncons, q_isNil, q_sl, q_nils, q_emp, q_ptr, q_nilp, q_fn, q_cond_true, q_cond_false, Bool.not_true, Bool.not_false, decide_true, decide_false, castInt_bind, castBool_bind, castStr_bind, castPtr_bind, castFn_bind, castAgg_bind, castTuple_bind, uncons_bind, isNil_bind, one_bind, cond_bind, ite_bind_, List.cons_append, List.nil_append]
    refine W.ite (fun k4 => ?_) fun k4 => ?_
    · refine W.run (inRange_runs _ _ _) ?_
      try simp only [q_bind_some, Option.bind_assoc, castInt_int, q_castBool, q_castStr, q_castPtr, q_castFn, q_castAgg, q_castTuple, q_uncons, q_isNil, q_sl, q_nils, q_emp, q_ptr, q_nilp, q_fn, q_cond_true, q_cond_false, Bool.not_true, Bool.not_false, decide_true, decide_false, castInt_bind, castBool_bind, castStr_bind, castPtr_bind, castFn_bind, castAgg_bind, castTuple_bind, uncons_bind, isNil_bind, one_bind, cond_bind, ite_bind_, List.cons_append, List.nil_append]
      exact W.ret ⟨by simp [InsOk, k1, k2, k3, k4], rfl⟩
    · exact W.ret ⟨by
        have : ¬ InsOk x := by
          rintro (h | h | h | h)
          · exact k1 h.1
          · exact k2 h.1
          · exact k3 h.1
          · exact k4 ⟨h.2.2.2.1, h.2.2.2.2.1⟩
        rw [decide_eq_false this], rfl⟩
theorem objOk1_runs {σ : Heap} {x : CodeIns} {cs : List V} (h : CodeIns.Rep σ cs x) : Runs G n_impl_ObjOk_1 [.agg cs] σ (.bool (!decide (InsOk x))) σ := by
  have c := insOk_runs h
  cases h with
  | mk =>
  refine Runs.of (W.to (fun k _ => impl_ObjOk_1.eq k _ _ _) ?_)
  refine W.run c ?_
  try simp only [q_bind_some, Option.bind_assoc, castInt_int, q_castBool, q_castStr, q_castPtr, q_castFn, q_castAgg, q_castTuple, q_uncons, q_isNil, q_sl, q_nils, q_emp, q_ptr, q_nilp, q_fn, q_cond_true, q_cond_false, Bool.not_true, Bool.not_false, decide_true, decide_false, castInt_bind, castBool_bind, castStr_bind, castPtr_bind, castFn_bind, castAgg_bind, castTuple_bind, uncons_bind, isNil_bind, one_bind, cond_bind, ite_bind_, List.cons_append, List.nil_append]
  exact W.ret ⟨rfl, rfl⟩
theorem objOk2_gives {σ : Heap} {x : CodeRef} (hf : x.Fit) {cs : List V} (h : CodeRef.Rep σ cs x) : Gives G n_impl_ObjOk_2 [.agg cs] σ (.bool (!decide (RefIs x))) := by
  cases hf with
  | mk f0 f1 =>
  cases h with
  | mk =>
  refine Gives.of (W.to (fun k _ => impl_ObjOk_2.eq k _ _ _) ?_)
  refine W.give (implLexName_gives σ _ f1) fun σ1 l1 => ?_
  try simp only [q_bind_some, Option.bind_assoc, castInt_int, q_castBool, q_castStr, q_castPtr, q_castFn, q_castAgg, q_castTuple, q_uncons, q_isNil, q_sl, q_nils, q_emp, q_ptr, q_nilp, q_fn, q_cond_true, q_cond_false, Bool.not_true, Bool.not_false, decide_true, decide_false, castInt_bind, castBool_bind, castStr_bind, castPtr_bind, castFn_bind, castAgg_bind, castTuple_bind, uncons_bind, isNil_bind, one_bind, cond_bind, ite_bind_, List.cons_append, List.nil_append]
  by_cases hn : IsName x.name
  rotate_left
  · try simp only [q_bind_some, Option.bind_assoc, castInt_int, q_castBool, q_castStr, q_castPtr, q_castFn, q_castAgg, q_castTuple, q_uncons, q_isNil, q_sl, q_nils, q_emp, q_ptr, q_nilp, q_fn, q_cond_true, q_cond_false, Bool.not_true, Bool.not_false, decide_true, decide_false, castInt_bind, castBool_bind, castStr_bind, castPtr_bind, castFn_bind, castAgg_bind, castTuple_bind, uncons_bind, isNil_bind, one_bind, cond_bind, ite_bind_, List.cons_append, List.nil_append, hn]
    exact W.ret ⟨by rw [decide_eq_false (fun h : RefIs x => hn h.1)]; rfl, l1⟩
  try simp only [q_bind_some, Option.bind_assoc, castInt_int, q_castBool, q_castStr, q_castPtr, q_castFn, q_castAgg, q_castTuple, q_uncons, q_isNil, q_sl, q_nils, q_emp, q_ptr, q_nilp, q_fn, q_cond_true, q_cond_false, Bool.not_true, Bool.not_false, decide_true, decide_false, castInt_bind, castBool_bind, castStr_bind, castPtr_bind, castFn_bind, castAgg_bind, castTuple_bind, uncons_bind, isNil_bind, one_bind, cond_bind, ite_bind_, List.cons_append, List.nil_append, hn]
  by_cases hm : x.mod = ⟨#[]⟩
  · try simp only [q_bind_some, Option.bind_assoc, castInt_int, q_castBool, q_castStr, q_castPtr, q_castFn, q_castAgg, q_castTuple, q_uncons, q_isNil, q_sl, q_nils, q_emp, q_ptr, q_nilp, q_fn, q_cond_true, q_cond_false, Bool.not_true, Bool.not_false, decide_true, decide_false, castInt_bind, castBool_bind, castStr_bind, castPtr_bind, castFn_bind, castAgg_bind, castTuple_bind, uncons_bind, isNil_bind, one_bind, cond_bind, ite_bind_, List.cons_append, List.nil_append, hm]
    exact W.ret ⟨by rw [decide_eq_true (show RefIs x from ⟨hn, .inl hm⟩)]; rfl, l1⟩
  try simp only [q_bind_some, Option.bind_assoc, castInt_int, q_castBool, q_castStr, q_castPtr, q_castFn, q_castAgg, q_castTuple, q_uncons, q_isNil, q_sl, q_nils, q_emp, q_ptr, q_nilp, q_fn, q_cond_true, q_cond_false, Bool.not_true, Bool.not_false, decide_true, decide_false, castInt_bind, castBool_bind, castStr_bind, castPtr_bind, castFn_bind, castAgg_bind, castTuple_bind, uncons_bind, isNil_bind, one_bind, cond_bind, ite_bind_, List.cons_append, List.nil_append, hm]
  refine W.give (implLexName_gives σ1 _ f0) fun σ2 l2 => ?_
  try simp only [q_bind_some, Option.bind_assoc, castInt_int, q_castBool, q_castStr, q_castPtr, q_castFn, q_castAgg, q_castTuple, q_uncons, q_isNil, q_sl, q_nils, q_emp, q_ptr, q_nilp, q_fn, q_cond_true, q_cond_false, Bool.not_true, Bool.not_false, decide_true, decide_false, castInt_bind, castBool_bind, castStr_bind, castPtr_bind, castFn_bind, castAgg_bind, castTuple_bind, uncons_bind, isNil_bind, one_bind, cond_bind, ite_bind_, List.cons_append, List.nil_append]
  exact W.ret ⟨dec_not_iff (show RefIs x ↔ IsName x.mod from ⟨fun h => h.2.resolve_left hm, fun h => ⟨hn, .inr h⟩⟩), l1.trans l2⟩
theorem codes_next {l : List CodeFun} {i : Nat} {x : CodeFun} (h : l[i]? = some x) : codes (l.take (i + 1)) = codes (l.take i) + x.code.length := by
  rw [codes, take_next' h, totS_append, totS, totS]
  rfl
theorem codes_take_le (l : List CodeFun) (i : Nat) : codes (l.take i) ≤ codes l := totS_take_le _ l i
theorem codes_le (l : List CodeFun) : codes l ≤ totS CodeFun.total l := by
  induction l with
  | nil => exact Nat.le_refl _
  | cons x l ih =>
    rw [totS, CodeFun.total_eq]
    show x.code.length + codes l ≤ _
    omega
theorem cfun_fit {f : CodeFun} (h : f.Fit) : f.name.size ≤ 9223372036854775807 := by cases h with | mk f0 => exact f0
theorem implObjOk_gives {σ : Heap} {o : CodeObj} (hF : o.Fit) (ht : o.total ≤ 1048576) {cs : List V} (h : CodeObj.Rep σ cs o) : Gives G n_impl_ObjOk [.agg cs] σ (.bool (decide (ObjIs o))) := by
  rw [CodeObj.total_eq] at ht
  have hcl := codes_le o.funs
  cases hF with
  | mk f0 f1 f2 f3 =>
  cases h with
  | mk h0 h1 =>
  rename_i b0 b1
  refine Gives.of (W.to (fun k _ => impl_ObjOk.eq k _ _ _) ?_)
  refine W.len h1 ?_
  refine W.loop (S := Nat × Heap) (fun s => s.1 ≤ o.funs.length ∧ Lh σ s.2 ∧ ∀ f, f ∈ o.funs.take s.1 → CFunOk f)
    (fun s => [.box [b0, b1], .v (.int .i64 (codes (o.funs.take s.1) : Nat)), .v b1, .v (.int .i64 (o.funs.length : Int)), .v (.int .i64 (s.1 : Int))]) (fun s => s.2) (fun s => o.funs.length - s.1) (fun ⟨i, σi⟩ ⟨hi, hle, hok⟩ => ?_)
    (0, σ) ⟨Nat.zero_le _, Lh.refl _, fun f hf => by simp at hf⟩
  simp only at hi hle hok ⊢
  refine W.to (fun k _ => by rw [impl_ObjOk.L0_step]) ?_
  try simp only [q_bind_some, Option.bind_assoc, castInt_int, q_castBool, q_castStr, q_castPtr, q_castFn, q_castAgg, q_castTuple, q_uncons, q_isNil, q_sl, q_nils, q_emp, q_ptr, q_nilp, q_fn, q_cond_true, q_cond_false, Bool.not_true, Bool.not_false, decide_true, decide_false, castInt_bind, castBool_bind, castStr_bind, castPtr_bind, castFn_bind, castAgg_bind, castTuple_bind, uncons_bind, isNil_bind, one_bind, cond_bind, ite_bind_, List.cons_append, List.nil_append]
  refine W.ite (fun hlt => ?_) fun hlt => ?_
  · refine W.at h1 hle (by omega) fun r o' cs x hx hr hP => ?_
    have hm := List.mem_of_getElem? hx
    have hfit := cfun_fit (f3 x hm)
    have hnext := codes_next hx
    have hcl2 := codes_take_le o.funs (i + 1)
    have hxt := totS_mem CodeFun.total hm
    rw [CodeFun.total_eq x] at hxt
    cases hP with
    | mk q0 q1 =>
    try simp only [q_bind_some, Option.bind_assoc, castInt_int, q_castBool, q_castStr, q_castPtr, q_castFn, q_castAgg, q_castTuple, q_uncons, q_isNil, q_sl, q_nils, q_emp, q_ptr, q_nilp, q_fn, q_cond_true, q_cond_false, Bool.not_true, Bool.not_false, decide_true, decide_false, castInt_bind, castBool_bind, castStr_bind, castPtr_bind, castFn_bind, castAgg_bind, castTuple_bind, uncons_bind, isNil_bind, one_bind, cond_bind, ite_bind_, List.cons_append, List.nil_append, hr]
    have q1' := q1.mono hle fun cs y _ hc => CodeIns.Rep.le hle hc
    refine W.len q1 ?_
    refine W.give (headOk_gives x.name hfit (q0.le hle) x.type x.slots) fun σ1 l1 => ?_
    try simp only [q_bind_some, Option.bind_assoc, castInt_int, q_castBool, q_castStr, q_castPtr, q_castFn, q_castAgg, q_castTuple, q_uncons, q_isNil, q_sl, q_nils, q_emp, q_ptr, q_nilp, q_fn, q_cond_true, q_cond_false, Bool.not_true, Bool.not_false, decide_true, decide_false, castInt_bind, castBool_bind, castStr_bind, castPtr_bind, castFn_bind, castAgg_bind, castTuple_bind, uncons_bind, isNil_bind, one_bind, cond_bind, ite_bind_, List.cons_append, List.nil_append]
    have l01 := hle.trans l1
    by_cases hH : HeadIs x.name x.args x.type x.slots
    rotate_left
    · try simp only [q_bind_some, Option.bind_assoc, castInt_int, q_castBool, q_castStr, q_castPtr, q_castFn, q_castAgg, q_castTuple, q_uncons, q_isNil, q_sl, q_nils, q_emp, q_ptr, q_nilp, q_fn, q_cond_true, q_cond_false, Bool.not_true, Bool.not_false, decide_true, decide_false, castInt_bind, castBool_bind, castStr_bind, castPtr_bind, castFn_bind, castAgg_bind, castTuple_bind, uncons_bind, isNil_bind, one_bind, cond_bind, ite_bind_, List.cons_append, List.nil_append, hH, impl_ObjOk.A0_ret]
      exact W.ret ⟨by rw [decide_eq_false (fun h : ObjIs o => hH (h.2.2.2.2 x hm).1)], l01⟩
    try simp only [q_bind_some, Option.bind_assoc, castInt_int, q_castBool, q_castStr, q_castPtr, q_castFn, q_castAgg, q_castTuple, q_uncons, q_isNil, q_sl, q_nils, q_emp, q_ptr, q_nilp, q_fn, q_cond_true, q_cond_false, Bool.not_true, Bool.not_false, decide_true, decide_false, castInt_bind, castBool_bind, castStr_bind, castPtr_bind, castFn_bind, castAgg_bind, castTuple_bind, uncons_bind, isNil_bind, one_bind, cond_bind, ite_bind_, List.cons_append, List.nil_append, hH]
    refine W.give (slices_ContainsFunc_impl_CodeIns_impl_CodeIns_gives (by omega) (q1.mono l01 fun cs y _ hc => CodeIns.Rep.le l01 hc) n_impl_ObjOk_1 [] (fun x => !decide (InsOk x)) fun y hy σ' cs hl hP => ⟨σ', Lh.refl _, objOk1_runs hP⟩) fun σ2 l2 => ?_
    try simp only [q_bind_some, Option.bind_assoc, castInt_int, q_castBool, q_castStr, q_castPtr, q_castFn, q_castAgg, q_castTuple, q_uncons, q_isNil, q_sl, q_nils, q_emp, q_ptr, q_nilp, q_fn, q_cond_true, q_cond_false, Bool.not_true, Bool.not_false, decide_true, decide_false, castInt_bind, castBool_bind, castStr_bind, castPtr_bind, castFn_bind, castAgg_bind, castTuple_bind, uncons_bind, isNil_bind, one_bind, cond_bind, ite_bind_, List.cons_append, List.nil_append, any_not InsOk x.code]
    have l02 := l01.trans l2
    by_cases hC : ∀ y, y ∈ x.code → InsOk y
    rotate_left
    · try simp only [q_bind_some, Option.bind_assoc, castInt_int, q_castBool, q_castStr, q_castPtr, q_castFn, q_castAgg, q_castTuple, q_uncons, q_isNil, q_sl, q_nils, q_emp, q_ptr, q_nilp, q_fn, q_cond_true, q_cond_false, Bool.not_true, Bool.not_false, decide_true, decide_false, castInt_bind, castBool_bind, castStr_bind, castPtr_bind, castFn_bind, castAgg_bind, castTuple_bind, uncons_bind, isNil_bind, one_bind, cond_bind, ite_bind_, List.cons_append, List.nil_append, hC, impl_ObjOk.A0_ret]
      exact W.ret ⟨by rw [decide_eq_false (fun h : ObjIs o => hC (h.2.2.2.2 x hm).2)], l02⟩
    have hw : IntKind.wrap .i64 (((codes (o.funs.take i) : Nat) : Int) + (x.code.length : Int)) = ((codes (o.funs.take (i + 1)) : Nat) : Int) := by
      rw [hnext, wrap_id (by omega) (by omega)]; omega
    try simp only [q_bind_some, Option.bind_assoc, castInt_int, q_castBool, q_castStr, q_castPtr, q_castFn, q_castAgg, q_castTuple, q_uncons, q_isNil, q_sl, q_nils, q_emp, q_ptr, q_nilp, q_fn, q_cond_true, q_cond_false, Bool.not_true, Bool.not_false, decide_true, decide_false, castInt_bind, castBool_bind, castStr_bind, castPtr_bind, castFn_bind, castAgg_bind, castTuple_bind, uncons_bind, isNil_bind, one_bind, cond_bind, ite_bind_, List.cons_append, List.nil_append, decide_eq_true hC, hw, wrap_next (show i < o.funs.length by omega) (by omega)]
    refine W.again (i + 1, σ2) ⟨by show i + 1 ≤ o.funs.length; omega, l02, fun y hy => ?_⟩ (by simp only; omega) rfl rfl
    simp only at hy
    rw [take_next' hx] at hy
    rcases List.mem_append.1 hy with h | h
    · exact hok y h
    · simp at h; rw [h]; exact ⟨hH, hC⟩
  · rw [List.take_of_length_le (by omega)] at hok ⊢
    try simp only [q_bind_some, Option.bind_assoc, castInt_int, q_castBool, q_castStr, q_castPtr, q_castFn, q_castAgg, q_castTuple, q_uncons, q_isNil, q_sl, q_nils, q_emp, q_ptr, q_nilp, q_fn, q_cond_true, q_cond_false, Bool.not_true, Bool.not_false, decide_true, decide_false, castInt_bind, castBool_bind, castStr_bind, castPtr_bind, castFn_bind, castAgg_bind, castTuple_bind, uncons_bind, isNil_bind, one_bind, cond_bind, ite_bind_, List.cons_append, List.nil_append, impl_ObjOk.A0_x0]
    refine W.len h0 (W.ite (fun k1 => ?_) fun k1 => ?_)
    rotate_left
    · exact W.ret ⟨by rw [decide_eq_false (fun h : ObjIs o => k1 (by have := h.1; omega))], hle⟩
    refine W.len h1 (W.ite (fun k2 => ?_) fun k2 => ?_)
    rotate_left
    · exact W.ret ⟨by rw [decide_eq_false (fun h : ObjIs o => k2 (by have := h.2.1; omega))], hle⟩
    refine W.ite (fun k3 => ?_) fun k3 => ?_
    rotate_left
    · exact W.ret ⟨by rw [decide_eq_false (fun h : ObjIs o => k3 (by have := h.2.2.1; omega))], hle⟩
    refine W.give (slices_ContainsFunc_impl_CodeRef_impl_CodeRef_gives (by omega) (h0.mono hle fun cs y _ hc => CodeRef.Rep.le hle hc) n_impl_ObjOk_2 [] (fun x => !decide (RefIs x)) fun y hy σ' cs hl hP => objOk2_gives (f1 y hy) hP) fun σ2 l2 => ?_
    try simp only [q_bind_some, Option.bind_assoc, castInt_int, q_castBool, q_castStr, q_castPtr, q_castFn, q_castAgg, q_castTuple, q_uncons, q_isNil, q_sl, q_nils, q_emp, q_ptr, q_nilp, q_fn, q_cond_true, q_cond_false, Bool.not_true, Bool.not_false, decide_true, decide_false, castInt_bind, castBool_bind, castStr_bind, castPtr_bind, castFn_bind, castAgg_bind, castTuple_bind, uncons_bind, isNil_bind, one_bind, cond_bind, ite_bind_, List.cons_append, List.nil_append, any_not RefIs o.refs, Bool.not_not]
    exact W.ret ⟨dec_iff (show ObjIs o ↔ ∀ r, r ∈ o.refs → RefIs r from ⟨fun h => h.2.2.2.1, fun h => ⟨by omega, by omega, by omega, h, hok⟩⟩), hle.trans l2⟩
theorem l8Ins_runs {σ : Heap} {x : CodeIns} {cs : List V} (h : CodeIns.Rep σ cs x) : Runs G n_spec_l8Ins [.agg cs] σ (.bool (decide (InsOk x))) σ := by
  cases h with
  | mk =>
  refine Runs.of (W.to (fun k _ => spec_l8Ins.eq k _ _ _) ?_)
  have fin : ∀ {b : Bool} {Next : Cmp Unit → Prop}, (b = true ↔ InsOk x) → W (fun w σ' => w = .bool (decide (InsOk x)) ∧ σ' = σ) Next (fun _ _ => some (.bool b, σ)) := fun {b Next} hb => W.ret ⟨by congr 1; rw [Bool.eq_iff_iff, hb]; simp, rfl⟩
  refine W.ite (fun k1 => W.ite (fun k2 => fin ?_) fun k2 => fin ?_) fun k1 => W.ite (fun k2 => W.ite (fun k3 => fin ?_) fun k3 => fin ?_) fun k2 => W.ite (fun k3 => fin ?_) fun k3 => W.ite (fun k4 => W.ite (fun k5 => W.ite (fun k6 => fin ?_) fun k6 => fin ?_) fun k5 => fin ?_) fun k4 => fin ?_
  all_goals simp only [InsOk, decide_eq_true_eq, Bool.false_eq_true]
  all_goals (constructor <;> intro h <;> first | exact h.elim | trivial | omega)
theorem l8Name_gives {σ : Heap} (s : ByteArray) (hs : s.size ≤ 9223372036854775807) : Gives G n_spec_l8Name [.str s] σ (.bool (decide (IsName s ∨ s = mainW))) := by
  refine Gives.of (W.to (fun k _ => spec_l8Name.eq k _ _) ?_)
  refine W.give (specLexName_gives σ s hs) fun σ1 l1 => ?_
  try simp only [q_bind_some, Option.bind_assoc, castInt_int, q_castBool, q_castStr, q_castPtr, q_castFn, q_castAgg, q_castTuple, q_uncons, q_isNil, q_sl, q_nils, q_emp, q_ptr, q_nilp, q_fn, q_cond_true, q_cond_false, Bool.not_true, Bool.not_false, decide_true, decide_false, castInt_bind, castBool_bind, castStr_bind, castPtr_bind, castFn_bind, castAgg_bind, castTuple_bind, uncons_bind, isNil_bind, one_bind, cond_bind, ite_bind_, List.cons_append, List.nil_append]
  refine W.ite (fun k1 => W.ret ⟨by rw [decide_eq_true (.inl k1)], l1⟩) fun k1 => W.ret ⟨?_, l1⟩
  exact dec_iff (show (IsName s ∨ s = mainW) ↔ s = mainW from ⟨fun h => h.resolve_left k1, .inr⟩)
theorem l8Fun_gives {σ : Heap} {f : CodeFun} (hs : f.name.size ≤ 9223372036854775807) (hl1 : f.args.length ≤ 1048576) (hl2 : f.code.length ≤ 1048576) {cs : List V} (h : CodeFun.Rep σ cs f) : Gives G n_spec_l8Fun [.agg cs] σ (.bool (decide (CFunOk f ∧ f.code.length ≤ 460))) := by
  cases h with
  | mk h0 h1 =>
  rename_i b0 b1
  have no : ∀ {ι : Type} {σ' : Heap} {Next : Cmp ι → Prop}, ¬ (CFunOk f ∧ f.code.length ≤ 460) → Lh σ σ' → W (fun w σ' => w = .bool (decide (CFunOk f ∧ f.code.length ≤ 460)) ∧ Lh σ σ') Next (fun _ _ => some (.bool false, σ')) := fun h l => W.ret ⟨by rw [decide_eq_false h], l⟩
  refine Gives.of (W.to (fun k _ => spec_l8Fun.eq k _ _ _ _ _ _ _) ?_)
  refine W.give (l8Name_gives f.name hs) fun σ1 l1 => ?_
  try simp only [q_bind_some, Option.bind_assoc, castInt_int, q_castBool, q_castStr, q_castPtr, q_castFn, q_castAgg, q_castTuple, q_uncons, q_isNil, q_sl, q_nils, q_emp, q_ptr, q_nilp, q_fn, q_cond_true, q_cond_false, Bool.not_true, Bool.not_false, decide_true, decide_false, castInt_bind, castBool_bind, castStr_bind, castPtr_bind, castFn_bind, castAgg_bind, castTuple_bind, uncons_bind, isNil_bind, one_bind, cond_bind, ite_bind_, List.cons_append, List.nil_append]
  by_cases hN : IsName f.name ∨ f.name = mainW
  rotate_left
  · try simp only [q_bind_some, Option.bind_assoc, castInt_int, q_castBool, q_castStr, q_castPtr, q_castFn, q_castAgg, q_castTuple, q_uncons, q_isNil, q_sl, q_nils, q_emp, q_ptr, q_nilp, q_fn, q_cond_true, q_cond_false, Bool.not_true, Bool.not_false, decide_true, decide_false, castInt_bind, castBool_bind, castStr_bind, castPtr_bind, castFn_bind, castAgg_bind, castTuple_bind, uncons_bind, isNil_bind, one_bind, cond_bind, ite_bind_, List.cons_append, List.nil_append, hN]
    exact no (fun h => hN h.1.1.1) l1
  try simp only [q_bind_some, Option.bind_assoc, castInt_int, q_castBool, q_castStr, q_castPtr, q_castFn, q_castAgg, q_castTuple, q_uncons, q_isNil, q_sl, q_nils, q_emp, q_ptr, q_nilp, q_fn, q_cond_true, q_cond_false, Bool.not_true, Bool.not_false, decide_true, decide_false, castInt_bind, castBool_bind, castStr_bind, castPtr_bind, castFn_bind, castAgg_bind, castTuple_bind, uncons_bind, isNil_bind, one_bind, cond_bind, ite_bind_, List.cons_append, List.nil_append, hN]
  refine W.len h0 (W.ite (fun k1 => no (fun h => by have := h.1.1.2.1.1; omega) l1) fun k1 => ?_)
  obtain ⟨st, hst, ct⟩ := treeType_gives σ1 f.type
  refine W.give ct fun σ2 l2 => ?_
  try simp only [q_bind_some, Option.bind_assoc, castInt_int, q_castBool, q_castStr, q_castPtr, q_castFn, q_castAgg, q_castTuple, q_uncons, q_isNil, q_sl, q_nils, q_emp, q_ptr, q_nilp, q_fn, q_cond_true, q_cond_false, Bool.not_true, Bool.not_false, decide_true, decide_false, castInt_bind, castBool_bind, castStr_bind, castPtr_bind, castFn_bind, castAgg_bind, castTuple_bind, uncons_bind, isNil_bind, one_bind, cond_bind, ite_bind_, List.cons_append, List.nil_append]
  have l02 := l1.trans l2
  refine W.ite (fun k2 => no (fun h => hst.1 k2 h.1.1.2.2.1) l02) fun k2 => ?_
  have hT : IsT f.type := Classical.not_not.1 fun h => k2 (hst.2 h)
  refine W.ite (fun k3 => no (fun h => by have := h.1.1.2.2.2.1; omega) l02) fun k3 => ?_
  refine W.ite (fun k4 => no (fun h => by have := h.1.1.2.2.2.2; omega) l02) fun k4 => ?_
  refine W.len h1 (W.ite (fun k5 => no (fun h => by have := h.2; omega) l02) fun k5 => ?_)
  refine W.loop (S := Nat × Heap) (fun s => s.1 ≤ f.args.length ∧ Lh σ s.2 ∧ ∀ t, t ∈ f.args.take s.1 → IsT t)
    (fun s => [.box [.str f.name, .bool f.pub, b0, .int .i64 f.type, .int .i64 f.slots, b1], .v (.int .i64 (s.1 : Int))]) (fun s => s.2) (fun s => f.args.length - s.1) (fun ⟨i, σi⟩ ⟨hi, hle, hok⟩ => ?_)
    (0, σ2) ⟨Nat.zero_le _, l02, fun f hf => by simp at hf⟩
  simp only at hi hle hok ⊢
  refine W.to (fun k _ => by rw [spec_l8Fun.L0_step]) ?_
  try simp only [q_bind_some, Option.bind_assoc, castInt_int, q_castBool, q_castStr, q_castPtr, q_castFn, q_castAgg, q_castTuple, q_uncons, q_isNil, q_sl, q_nils, q_emp, q_ptr, q_nilp, q_fn, q_cond_true, q_cond_false, Bool.not_true, Bool.not_false, decide_true, decide_false, castInt_bind, castBool_bind, castStr_bind, castPtr_bind, castFn_bind, castAgg_bind, castTuple_bind, uncons_bind, isNil_bind, one_bind, cond_bind, ite_bind_, List.cons_append, List.nil_append]
  refine W.len h0 (W.ite (fun hlt => ?_) fun hlt => ?_)
  · refine W.at h0 hle (by omega) fun r o' cs x hx hr hP => ?_
    have hm := List.mem_of_getElem? hx
    unfold IntRep at hP
    subst hP
    try simp only [q_bind_some, Option.bind_assoc, castInt_int, q_castBool, q_castStr, q_castPtr, q_castFn, q_castAgg, q_castTuple, q_uncons, q_isNil, q_sl, q_nils, q_emp, q_ptr, q_nilp, q_fn, q_cond_true, q_cond_false, Bool.not_true, Bool.not_false, decide_true, decide_false, castInt_bind, castBool_bind, castStr_bind, castPtr_bind, castFn_bind, castAgg_bind, castTuple_bind, uncons_bind, isNil_bind, one_bind, cond_bind, ite_bind_, List.cons_append, List.nil_append, hr]
    obtain ⟨st, hst, ct⟩ := treeType_gives σi x
    refine W.give ct fun σ3 l3 => ?_
    try simp only [q_bind_some, Option.bind_assoc, castInt_int, q_castBool, q_castStr, q_castPtr, q_castFn, q_castAgg, q_castTuple, q_uncons, q_isNil, q_sl, q_nils, q_emp, q_ptr, q_nilp, q_fn, q_cond_true, q_cond_false, Bool.not_true, Bool.not_false, decide_true, decide_false, castInt_bind, castBool_bind, castStr_bind, castPtr_bind, castFn_bind, castAgg_bind, castTuple_bind, uncons_bind, isNil_bind, one_bind, cond_bind, ite_bind_, List.cons_append, List.nil_append]
    refine W.ite (fun k2 => ?_) fun k2 => ?_
    · try simp only [q_bind_some, Option.bind_assoc, castInt_int, q_castBool, q_castStr, q_castPtr, q_castFn, q_castAgg, q_castTuple, q_uncons, q_isNil, q_sl, q_nils, q_emp, q_ptr, q_nilp, q_fn, q_cond_true, q_cond_false, Bool.not_true, Bool.not_false, decide_true, decide_false, castInt_bind, castBool_bind, castStr_bind, castPtr_bind, castFn_bind, castAgg_bind, castTuple_bind, uncons_bind, isNil_bind, one_bind, cond_bind, ite_bind_, List.cons_append, List.nil_append, spec_l8Fun.A0_ret]
      exact no (fun h => hst.1 k2 (h.1.1.2.1.2 x hm)) (hle.trans l3)
    · have hTx : IsT x := Classical.not_not.1 fun h => k2 (hst.2 h)
      try simp only [q_bind_some, Option.bind_assoc, castInt_int, q_castBool, q_castStr, q_castPtr, q_castFn, q_castAgg, q_castTuple, q_uncons, q_isNil, q_sl, q_nils, q_emp, q_ptr, q_nilp, q_fn, q_cond_true, q_cond_false, Bool.not_true, Bool.not_false, decide_true, decide_false, castInt_bind, castBool_bind, castStr_bind, castPtr_bind, castFn_bind, castAgg_bind, castTuple_bind, uncons_bind, isNil_bind, one_bind, cond_bind, ite_bind_, List.cons_append, List.nil_append, wrap_next (show i < f.args.length by omega) (by omega)]
      refine W.again (i + 1, σ3) ⟨by show i + 1 ≤ f.args.length; omega, hle.trans l3, fun y hy => ?_⟩ (by simp only; omega) rfl rfl
      simp only at hy
      rw [take_next' hx] at hy
      rcases List.mem_append.1 hy with h | h
      · exact hok y h
      · simp at h; rw [h]; exact hTx
  rw [List.take_of_length_le (by omega)] at hok
  try simp only [q_bind_some, Option.bind_assoc, castInt_int, q_castBool, q_castStr, q_castPtr, q_castFn, q_castAgg, q_castTuple, q_uncons, q_isNil, q_sl, q_nils, q_emp, q_ptr, q_nilp, q_fn, q_cond_true, q_cond_false, Bool.not_true, Bool.not_false, decide_true, decide_false, castInt_bind, castBool_bind, castStr_bind, castPtr_bind, castFn_bind, castAgg_bind, castTuple_bind, uncons_bind, isNil_bind, one_bind, cond_bind, ite_bind_, List.cons_append, List.nil_append, spec_l8Fun.A0_x0]
  refine W.loop (S := Nat) (fun j => j ≤ f.code.length ∧ ∀ t, t ∈ f.code.take j → InsOk t)
    (fun j => [.box [.str f.name, .bool f.pub, b0, .int .i64 f.type, .int .i64 f.slots, b1], .v (.int .i64 (j : Int))]) (fun _ => σi) (fun j => f.code.length - j) (fun j ⟨hj, hokj⟩ => ?_)
    0 ⟨Nat.zero_le _, fun f hf => by simp at hf⟩
  refine W.to (fun k _ => by rw [spec_l8Fun.L1_step]) ?_
  try simp only [q_bind_some, Option.bind_assoc, castInt_int, q_castBool, q_castStr, q_castPtr, q_castFn, q_castAgg, q_castTuple, q_uncons, q_isNil, q_sl, q_nils, q_emp, q_ptr, q_nilp, q_fn, q_cond_true, q_cond_false, Bool.not_true, Bool.not_false, decide_true, decide_false, castInt_bind, castBool_bind, castStr_bind, castPtr_bind, castFn_bind, castAgg_bind, castTuple_bind, uncons_bind, isNil_bind, one_bind, cond_bind, ite_bind_, List.cons_append, List.nil_append]
  refine W.len h1 (W.ite (fun hlt2 => ?_) fun hlt2 => ?_)
  · refine W.at h1 hle (by omega) fun r o' cs x hx hr hP => ?_
    have hm := List.mem_of_getElem? hx
    have ci := l8Ins_runs (CodeIns.Rep.le hle hP)
    cases hP with
    | mk =>
    try simp only [q_bind_some, Option.bind_assoc, castInt_int, q_castBool, q_castStr, q_castPtr, q_castFn, q_castAgg, q_castTuple, q_uncons, q_isNil, q_sl, q_nils, q_emp, q_ptr, q_nilp, q_fn, q_cond_true, q_cond_false, Bool.not_true, Bool.not_false, decide_true, decide_false, castInt_bind, castBool_bind, castStr_bind, castPtr_bind, castFn_bind, castAgg_bind, castTuple_bind, uncons_bind, isNil_bind, one_bind, cond_bind, ite_bind_, List.cons_append, List.nil_append, hr]
    refine W.run ci ?_
    try simp only [q_bind_some, Option.bind_assoc, castInt_int, q_castBool, q_castStr, q_castPtr, q_castFn, q_castAgg, q_castTuple, q_uncons, q_isNil, q_sl, q_nils, q_emp, q_ptr, q_nilp, q_fn, q_cond_true, q_cond_false, Bool.not_true, Bool.not_false, decide_true, decide_false, castInt_bind, castBool_bind, castStr_bind, castPtr_bind, castFn_bind, castAgg_bind, castTuple_bind, uncons_bind, isNil_bind, one_bind, cond_bind, ite_bind_, List.cons_append, List.nil_append]
    by_cases hI : InsOk x
    · try simp only [q_bind_some, Option.bind_assoc, castInt_int, q_castBool, q_castStr, q_castPtr, q_castFn, q_castAgg, q_castTuple, q_uncons, q_isNil, q_sl, q_nils, q_emp, q_ptr, q_nilp, q_fn, q_cond_true, q_cond_false, Bool.not_true, Bool.not_false, decide_true, decide_false, castInt_bind, castBool_bind, castStr_bind, castPtr_bind, castFn_bind, castAgg_bind, castTuple_bind, uncons_bind, isNil_bind, one_bind, cond_bind, ite_bind_, List.cons_append, List.nil_append, hI, wrap_next (show j < f.code.length by omega) (by omega)]
      refine W.again (j + 1) ⟨by omega, fun y hy => ?_⟩ (by omega) rfl rfl
      rw [take_next' hx] at hy
      rcases List.mem_append.1 hy with h | h
      · exact hokj y h
      · simp at h; rw [h]; exact hI
    · try simp only [q_bind_some, Option.bind_assoc, castInt_int, q_castBool, q_castStr, q_castPtr, q_castFn, q_castAgg, q_castTuple, q_uncons, q_isNil, q_sl, q_nils, q_emp, q_ptr, q_nilp, q_fn, q_cond_true, q_cond_false, Bool.not_true, Bool.not_false, decide_true, decide_false, castInt_bind, castBool_bind, castStr_bind, castPtr_bind, castFn_bind, castAgg_bind, castTuple_bind, uncons_bind, isNil_bind, one_bind, cond_bind, ite_bind_, List.cons_append, List.nil_append, hI, spec_l8Fun.A1_ret]
      exact no (fun h => hI (h.1.2 x hm)) hle
  · rw [List.take_of_length_le (by omega)] at hokj
    try simp only [q_bind_some, Option.bind_assoc, castInt_int, q_castBool, q_castStr, q_castPtr, q_castFn, q_castAgg, q_castTuple, q_uncons, q_isNil, q_sl, q_nils, q_emp, q_ptr, q_nilp, q_fn, q_cond_true, q_cond_false, Bool.not_true, Bool.not_false, decide_true, decide_false, castInt_bind, castBool_bind, castStr_bind, castPtr_bind, castFn_bind, castAgg_bind, castTuple_bind, uncons_bind, isNil_bind, one_bind, cond_bind, ite_bind_, List.cons_append, List.nil_append, spec_l8Fun.A1_x2]
    exact W.ret ⟨by rw [decide_eq_true (show CFunOk f ∧ f.code.length ≤ 460 from ⟨⟨⟨hN, ⟨by omega, hok⟩, hT, by omega, by omega⟩, hokj⟩, by omega⟩)], hle⟩
theorem specObjOk_gives {σ : Heap} {o : CodeObj} (hF : o.Fit) (ht : o.total ≤ 1048576) {cs : List V} (h : CodeObj.Rep σ cs o) : Gives G n_spec_ObjOk [.agg cs] σ (.bool (decide (ObjIs o))) := by
  rw [CodeObj.total_eq] at ht
  have hcl := codes_le o.funs
  cases hF with
  | mk f0 f1 f2 f3 =>
  cases h with
  | mk h0 h1 =>
  rename_i b0 b1
  have no : ∀ {ι : Type} {σ' : Heap} {Next : Cmp ι → Prop}, ¬ ObjIs o → Lh σ σ' → W (fun w σ' => w = .bool (decide (ObjIs o)) ∧ Lh σ σ') Next (fun _ _ => some (.bool false, σ')) := fun h l => W.ret ⟨by rw [decide_eq_false h], l⟩
  refine Gives.of (W.to (fun k _ => spec_ObjOk.eq k _ _ _) ?_)
  refine W.len h0 (W.ite (fun k1 => no (fun h => by have := h.1; omega) (Lh.refl _)) fun k1 => ?_)
  refine W.len h1 (W.ite (fun k2 => no (fun h => by have := h.2.1; omega) (Lh.refl _)) fun k2 => ?_)
  refine W.loop (S := Nat × Heap) (fun s => s.1 ≤ o.refs.length ∧ Lh σ s.2 ∧ ∀ r, r ∈ o.refs.take s.1 → RefIs r)
    (fun s => [.box [b0, b1], .v (.int .i64 (s.1 : Int))]) (fun s => s.2) (fun s => o.refs.length - s.1) (fun ⟨i, σi⟩ ⟨hi, hle, hok⟩ => ?_)
    (0, σ) ⟨Nat.zero_le _, Lh.refl _, fun f hf => by simp at hf⟩
  simp only at hi hle hok ⊢
  refine W.to (fun k _ => by rw [spec_ObjOk.L0_step]) ?_
  try simp only [q_bind_some, Option.bind_assoc, castInt_int, q_castBool, q_castStr, q_castPtr, q_castFn, q_castAgg, q_castTuple, q_uncons, q_isNil, q_sl, q_nils, q_emp, q_ptr, q_nilp, q_fn, q_cond_true, q_cond_false, Bool.not_true, Bool.not_false, decide_true, decide_false, castInt_bind, castBool_bind, castStr_bind, castPtr_bind, castFn_bind, castAgg_bind, castTuple_bind, uncons_bind, isNil_bind, one_bind, cond_bind, ite_bind_, List.cons_append, List.nil_append]
  refine W.len h0 (W.ite (fun hlt => ?_) fun hlt => ?_)
  · obtain ⟨r, o', hv, cs, hr, hP⟩ := h0.at (show i < o.refs.length by omega)
    have hx : o.refs[i]? = some o.refs[i] := List.getElem?_eq_getElem _
    have hm := List.mem_of_getElem? hx
    generalize o.refs[i] = x at hP hx hm
    have hfx := f1 x hm
    cases hfx with
    | mk g0 g1 =>
    cases hP with
    | mk =>
    have again : ∀ {σ' : Heap}, RefIs x → Lh σ σ' → W (ι := Nat × Unit) (fun w σ' => w = .bool (decide (ObjIs o)) ∧ Lh σ σ') (Nxt (fun _ => False) spec_ObjOk.L0 (fun k _ => spec_ObjOk.A0 k) (fun s : Nat × Heap => s.1 ≤ o.refs.length ∧ Lh σ s.2 ∧ ∀ r, r ∈ o.refs.take s.1 → RefIs r) (fun s => [.box [b0, b1], .v (.int .i64 (s.1 : Int))]) (fun s => s.2) (fun s => o.refs.length - s.1) (o.refs.length - i))
        (fun k jm => (spec_ObjOk.L0 k jm.1 [.box [b0, b1], .v (.int .i64 (IntKind.wrap .i64 ((i : Int) + 1)))] σ').bind (spec_ObjOk.A0 k)) := by
      intro σ' hR l
      try simp only [q_bind_some, Option.bind_assoc, castInt_int, q_castBool, q_castStr, q_castPtr, q_castFn, q_castAgg, q_castTuple, q_uncons, q_isNil, q_sl, q_nils, q_emp, q_ptr, q_nilp, q_fn, q_cond_true, q_cond_false, Bool.not_true, Bool.not_false, decide_true, decide_false, castInt_bind, castBool_bind, castStr_bind, castPtr_bind, castFn_bind, castAgg_bind, castTuple_bind, uncons_bind, isNil_bind, one_bind, cond_bind, ite_bind_, List.cons_append, List.nil_append, wrap_next (show i < o.refs.length by omega) (by omega)]
      refine W.again (i + 1, σ') ⟨by show i + 1 ≤ o.refs.length; omega, l, fun y hy => ?_⟩ (by simp only; omega) rfl rfl
      simp only at hy
      rw [take_next' hx] at hy
      rcases List.mem_append.1 hy with h | h
      · exact hok y h
      · simp at h; rw [h]; exact hR
    have e0 : ∀ {σ' : Heap}, Lh σ σ' → rdc σ' r (o' + 0) 1 = some [.str x.mod] := fun l => rdc_sub (l.rdc hr) 0 1 (by omega)
    have e1 : ∀ {σ' : Heap}, Lh σ σ' → rdc σ' r (o' + 1) 1 = some [.str x.name] := fun l => rdc_sub (l.rdc hr) 1 1 (by omega)
    try simp only [q_bind_some, Option.bind_assoc, castInt_int, q_castBool, q_castStr, q_castPtr, q_castFn, q_castAgg, q_castTuple, q_uncons, q_isNil, q_sl, q_nils, q_emp, q_ptr, q_nilp, q_fn, q_cond_true, q_cond_false, Bool.not_true, Bool.not_false, decide_true, decide_false, castInt_bind, castBool_bind, castStr_bind, castPtr_bind, castFn_bind, castAgg_bind, castTuple_bind, uncons_bind, isNil_bind, one_bind, cond_bind, ite_bind_, List.cons_append, List.nil_append, hv, e1 hle]
    refine W.give (specLexName_gives σi _ g1) fun σ1 l1 => ?_
    have l01 := hle.trans l1
    try simp only [q_bind_some, Option.bind_assoc, castInt_int, q_castBool, q_castStr, q_castPtr, q_castFn, q_castAgg, q_castTuple, q_uncons, q_isNil, q_sl, q_nils, q_emp, q_ptr, q_nilp, q_fn, q_cond_true, q_cond_false, Bool.not_true, Bool.not_false, decide_true, decide_false, castInt_bind, castBool_bind, castStr_bind, castPtr_bind, castFn_bind, castAgg_bind, castTuple_bind, uncons_bind, isNil_bind, one_bind, cond_bind, ite_bind_, List.cons_append, List.nil_append, hv, e0 l01]
    by_cases hn : IsName x.name
    rotate_left
    · try simp only [q_bind_some, Option.bind_assoc, castInt_int, q_castBool, q_castStr, q_castPtr, q_castFn, q_castAgg, q_castTuple, q_uncons, q_isNil, q_sl, q_nils, q_emp, q_ptr, q_nilp, q_fn, q_cond_true, q_cond_false, Bool.not_true, Bool.not_false, decide_true, decide_false, castInt_bind, castBool_bind, castStr_bind, castPtr_bind, castFn_bind, castAgg_bind, castTuple_bind, uncons_bind, isNil_bind, one_bind, cond_bind, ite_bind_, List.cons_append, List.nil_append, hn, spec_ObjOk.A0_ret]
      exact no (fun h => hn (h.2.2.2.1 x hm).1) l01
    try simp only [q_bind_some, Option.bind_assoc, castInt_int, q_castBool, q_castStr, q_castPtr, q_castFn, q_castAgg, q_castTuple, q_uncons, q_isNil, q_sl, q_nils, q_emp, q_ptr, q_nilp, q_fn, q_cond_true, q_cond_false, Bool.not_true, Bool.not_false, decide_true, decide_false, castInt_bind, castBool_bind, castStr_bind, castPtr_bind, castFn_bind, castAgg_bind, castTuple_bind, uncons_bind, isNil_bind, one_bind, cond_bind, ite_bind_, List.cons_append, List.nil_append, hn]
    by_cases hmo : x.mod = ⟨#[]⟩
    · try simp only [q_bind_some, Option.bind_assoc, castInt_int, q_castBool, q_castStr, q_castPtr, q_castFn, q_castAgg, q_castTuple, q_uncons, q_isNil, q_sl, q_nils, q_emp, q_ptr, q_nilp, q_fn, q_cond_true, q_cond_false, Bool.not_true, Bool.not_false, decide_true, decide_false, castInt_bind, castBool_bind, castStr_bind, castPtr_bind, castFn_bind, castAgg_bind, castTuple_bind, uncons_bind, isNil_bind, one_bind, cond_bind, ite_bind_, List.cons_append, List.nil_append, hmo]
      exact again ⟨hn, .inl hmo⟩ l01
    try simp only [q_bind_some, Option.bind_assoc, castInt_int, q_castBool, q_castStr, q_castPtr, q_castFn, q_castAgg, q_castTuple, q_uncons, q_isNil, q_sl, q_nils, q_emp, q_ptr, q_nilp, q_fn, q_cond_true, q_cond_false, Bool.not_true, Bool.not_false, decide_true, decide_false, castInt_bind, castBool_bind, castStr_bind, castPtr_bind, castFn_bind, castAgg_bind, castTuple_bind, uncons_bind, isNil_bind, one_bind, cond_bind, ite_bind_, List.cons_append, List.nil_append, hmo]
    refine W.give (specLexName_gives σ1 _ g0) fun σ2 l2 => ?_
    have l02 := l01.trans l2
    try simp only [q_bind_some, Option.bind_assoc, castInt_int, q_castBool, q_castStr, q_castPtr, q_castFn, q_castAgg, q_castTuple, q_uncons, q_isNil, q_sl, q_nils, q_emp, q_ptr, q_nilp, q_fn, q_cond_true, q_cond_false, Bool.not_true, Bool.not_false, decide_true, decide_false, castInt_bind, castBool_bind, castStr_bind, castPtr_bind, castFn_bind, castAgg_bind, castTuple_bind, uncons_bind, isNil_bind, one_bind, cond_bind, ite_bind_, List.cons_append, List.nil_append]
    by_cases hmn : IsName x.mod
    · try simp only [q_bind_some, Option.bind_assoc, castInt_int, q_castBool, q_castStr, q_castPtr, q_castFn, q_castAgg, q_castTuple, q_uncons, q_isNil, q_sl, q_nils, q_emp, q_ptr, q_nilp, q_fn, q_cond_true, q_cond_false, Bool.not_true, Bool.not_false, decide_true, decide_false, castInt_bind, castBool_bind, castStr_bind, castPtr_bind, castFn_bind, castAgg_bind, castTuple_bind, uncons_bind, isNil_bind, one_bind, cond_bind, ite_bind_, List.cons_append, List.nil_append, hmn]
      exact again ⟨hn, .inr hmn⟩ l02
    · try simp only [q_bind_some, Option.bind_assoc, castInt_int, q_castBool, q_castStr, q_castPtr, q_castFn, q_castAgg, q_castTuple, q_uncons, q_isNil, q_sl, q_nils, q_emp, q_ptr, q_nilp, q_fn, q_cond_true, q_cond_false, Bool.not_true, Bool.not_false, decide_true, decide_false, castInt_bind, castBool_bind, castStr_bind, castPtr_bind, castFn_bind, castAgg_bind, castTuple_bind, uncons_bind, isNil_bind, one_bind, cond_bind, ite_bind_, List.cons_append, List.nil_append, hmn, spec_ObjOk.A0_ret]
      exact no (fun h => (h.2.2.2.1 x hm).2.elim hmo hmn) l02
  rw [List.take_of_length_le (by omega)] at hok
  try simp only [q_bind_some, Option.bind_assoc, castInt_int, q_castBool, q_castStr, q_castPtr, q_castFn, q_castAgg, q_castTuple, q_uncons, q_isNil, q_sl, q_nils, q_emp, q_ptr, q_nilp, q_fn, q_cond_true, q_cond_false, Bool.not_true, Bool.not_false, decide_true, decide_false, castInt_bind, castBool_bind, castStr_bind, castPtr_bind, castFn_bind, castAgg_bind, castTuple_bind, uncons_bind, isNil_bind, one_bind, cond_bind, ite_bind_, List.cons_append, List.nil_append, spec_ObjOk.A0_x0]
  refine W.loop (S := Nat × Heap) (fun s => s.1 ≤ o.funs.length ∧ Lh σ s.2 ∧ (∀ f, f ∈ o.funs.take s.1 → CFunOk f) ∧ codes (o.funs.take s.1) ≤ 460)
    (fun s => [.box [b0, b1], .v (.int .i64 (codes (o.funs.take s.1) : Nat)), .v (.int .i64 (s.1 : Int))]) (fun s => s.2) (fun s => o.funs.length - s.1) (fun ⟨j, σj⟩ ⟨hj, hlj, hokj, hsum⟩ => ?_)
    (0, σi) ⟨Nat.zero_le _, hle, fun f hf => by simp at hf, by simp [codes, totS]⟩
  simp only at hj hlj hokj hsum ⊢
  refine W.to (fun k _ => by rw [spec_ObjOk.L1_step]) ?_
  try simp only [q_bind_some, Option.bind_assoc, castInt_int, q_castBool, q_castStr, q_castPtr, q_castFn, q_castAgg, q_castTuple, q_uncons, q_isNil, q_sl, q_nils, q_emp, q_ptr, q_nilp, q_fn, q_cond_true, q_cond_false, Bool.not_true, Bool.not_false, decide_true, decide_false, castInt_bind, castBool_bind, castStr_bind, castPtr_bind, castFn_bind, castAgg_bind, castTuple_bind, uncons_bind, isNil_bind, one_bind, cond_bind, ite_bind_, List.cons_append, List.nil_append]
  refine W.len h1 (W.ite (fun hlt => ?_) fun hlt => ?_)
  · obtain ⟨r, o', hv, cs, hr, hP⟩ := h1.at (show j < o.funs.length by omega)
    have hx : o.funs[j]? = some o.funs[j] := List.getElem?_eq_getElem _
    have hm := List.mem_of_getElem? hx
    generalize o.funs[j] = x at hP hx hm
    have hfit := cfun_fit (f3 x hm)
    have hnext := codes_next hx
    have hcl2 := codes_take_le o.funs (j + 1)
    have hxt := totS_mem CodeFun.total hm
    rw [CodeFun.total_eq x] at hxt
    have cf := l8Fun_gives hfit (by omega) (by omega) (CodeFun.Rep.le hlj hP)
    cases hP with
    | mk q0 q1 =>
    rename_i d0 d1
    have e5 : rdc σj r (o' + 5) 1 = some [d1] := rdc_sub (hlj.rdc hr) 5 1 (by omega)
    try simp only [q_bind_some, Option.bind_assoc, castInt_int, q_castBool, q_castStr, q_castPtr, q_castFn, q_castAgg, q_castTuple, q_uncons, q_isNil, q_sl, q_nils, q_emp, q_ptr, q_nilp, q_fn, q_cond_true, q_cond_false, Bool.not_true, Bool.not_false, decide_true, decide_false, castInt_bind, castBool_bind, castStr_bind, castPtr_bind, castFn_bind, castAgg_bind, castTuple_bind, uncons_bind, isNil_bind, one_bind, cond_bind, ite_bind_, List.cons_append, List.nil_append, hv, e5, hlj.rdc hr]
    refine W.len q1 ?_
    refine W.give cf fun σ1 l1 => ?_
    have l01 := hlj.trans l1
    try simp only [q_bind_some, Option.bind_assoc, castInt_int, q_castBool, q_castStr, q_castPtr, q_castFn, q_castAgg, q_castTuple, q_uncons, q_isNil, q_sl, q_nils, q_emp, q_ptr, q_nilp, q_fn, q_cond_true, q_cond_false, Bool.not_true, Bool.not_false, decide_true, decide_false, castInt_bind, castBool_bind, castStr_bind, castPtr_bind, castFn_bind, castAgg_bind, castTuple_bind, uncons_bind, isNil_bind, one_bind, cond_bind, ite_bind_, List.cons_append, List.nil_append]
    have hw : IntKind.wrap .i64 (((codes (o.funs.take j) : Nat) : Int) + (x.code.length : Int)) = ((codes (o.funs.take (j + 1)) : Nat) : Int) := by
      rw [hnext, wrap_id (by omega) (by omega)]; omega
    by_cases hC : CFunOk x ∧ x.code.length ≤ 460
    rotate_left
    · try simp only [q_bind_some, Option.bind_assoc, castInt_int, q_castBool, q_castStr, q_castPtr, q_castFn, q_castAgg, q_castTuple, q_uncons, q_isNil, q_sl, q_nils, q_emp, q_ptr, q_nilp, q_fn, q_cond_true, q_cond_false, Bool.not_true, Bool.not_false, decide_true, decide_false, castInt_bind, castBool_bind, castStr_bind, castPtr_bind, castFn_bind, castAgg_bind, castTuple_bind, uncons_bind, isNil_bind, one_bind, cond_bind, ite_bind_, List.cons_append, List.nil_append, hC, spec_ObjOk.A1_ret]
      refine no (fun h => hC ⟨h.2.2.2.2 x hm, ?_⟩) l01
      have := h.2.2.1
      omega
    try simp only [q_bind_some, Option.bind_assoc, castInt_int, q_castBool, q_castStr, q_castPtr, q_castFn, q_castAgg, q_castTuple, q_uncons, q_isNil, q_sl, q_nils, q_emp, q_ptr, q_nilp, q_fn, q_cond_true, q_cond_false, Bool.not_true, Bool.not_false, decide_true, decide_false, castInt_bind, castBool_bind, castStr_bind, castPtr_bind, castFn_bind, castAgg_bind, castTuple_bind, uncons_bind, isNil_bind, one_bind, cond_bind, ite_bind_, List.cons_append, List.nil_append, hC, and_self, hw, wrap_next (show j < o.funs.length by omega) (by omega)]
    refine W.ite (fun k3 => ?_) fun k3 => ?_
    · try simp only [q_bind_some, Option.bind_assoc, castInt_int, q_castBool, q_castStr, q_castPtr, q_castFn, q_castAgg, q_castTuple, q_uncons, q_isNil, q_sl, q_nils, q_emp, q_ptr, q_nilp, q_fn, q_cond_true, q_cond_false, Bool.not_true, Bool.not_false, decide_true, decide_false, castInt_bind, castBool_bind, castStr_bind, castPtr_bind, castFn_bind, castAgg_bind, castTuple_bind, uncons_bind, isNil_bind, one_bind, cond_bind, ite_bind_, List.cons_append, List.nil_append, spec_ObjOk.A1_ret]
      exact no (fun h => by have := h.2.2.1; omega) l01
    refine W.again (j + 1, σ1) ⟨by show j + 1 ≤ o.funs.length; omega, l01, fun y hy => ?_, by show codes (o.funs.take (j + 1)) ≤ 460; omega⟩ (by simp only; omega) rfl rfl
    simp only at hy
    rw [take_next' hx] at hy
    rcases List.mem_append.1 hy with h | h
    · exact hokj y h
    · simp at h; rw [h]; exact hC.1
  · rw [List.take_of_length_le (by omega)] at hokj hsum
    try simp only [q_bind_some, Option.bind_assoc, castInt_int, q_castBool, q_castStr, q_castPtr, q_castFn, q_castAgg, q_castTuple, q_uncons, q_isNil, q_sl, q_nils, q_emp, q_ptr, q_nilp, q_fn, q_cond_true, q_cond_false, Bool.not_true, Bool.not_false, decide_true, decide_false, castInt_bind, castBool_bind, castStr_bind, castPtr_bind, castFn_bind, castAgg_bind, castTuple_bind, uncons_bind, isNil_bind, one_bind, cond_bind, ite_bind_, List.cons_append, List.nil_append, spec_ObjOk.A1_x2]
    exact W.ret ⟨by rw [decide_eq_true (show ObjIs o from ⟨by omega, by omega, hsum, hok, hokj⟩)], hlj⟩
end Go.D
