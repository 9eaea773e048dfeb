/- Where parts and functions stand: LinkFind of both. -/
import Derived.Test.YtghkdjfgbaoplaaC
import Derived.Test.YtghkdjfgbaoplaaEF0
import Derived.Test.YtghkdjfgbaoplaaEF1
import Derived.Test.YtghkdjfgbaoplaaEF2
import Derived.Test.YtghkdjfgbaoplaaHMIdx
set_option linter.unusedVariables false
set_option linter.unusedSimpArgs false
namespace Go.B
open Go.HM Go.Proofs
def partIdx (parts : List LinkPart) (mod : ByteArray) : Int := fidx (fun p => decide (p.name = mod)) parts
def funIdx (o : CodeObj) (name : ByteArray) : Int := fidx (fun f => decide (f.name = name)) o.funs
def baseOf (parts : List LinkPart) (n : Nat) : Nat := totS (fun p => p.obj.funs.length) (parts.take n)
def linkFind (parts : List LinkPart) (mod name : ByteArray) : Int × Bool :=
  if 8 < parts.length then (0, false) else if partIdx parts mod < 0 then (0, false) else
  match parts[(partIdx parts mod).toNat]? with
  | none => (0, false)
  | some q => if funIdx q.obj name < 0 then (0, false) else ((baseOf parts (partIdx parts mod).toNat : Nat) + funIdx q.obj name, true)
theorem slices_IndexFunc_impl_LinkPart_impl_LinkPart_gives {σ : Heap} {v : V} {l : List LinkPart} (hf : l.length ≤ 1073741824) (h : RepS 3 (LinkPart.Rep σ) σ v l) (f : FuncId) (cap : List V) (p : LinkPart → Bool)
    (hx : ∀ x, x ∈ l → ∀ σ' cs, Lh σ σ' → LinkPart.Rep σ' cs x → Gives G f ([.agg cs] ++ cap) σ' (.bool (p x))) : Gives G n_slices_IndexFunc_impl_LinkPart_impl_LinkPart [v, .fn f cap] σ (.int .i64 (fidx p l)) := by
  refine Gives.of (W.to (fun k _ => slices_IndexFunc_impl_LinkPart_impl_LinkPart.eq k _ _ _) ?_)
  refine W.len h ?_
  refine W.loop (S := Nat × Heap) (fun s => s.1 ≤ l.length ∧ Lh σ s.2 ∧ ∀ (j : Nat) y, j < s.1 → l[j]? = some y → p y = false) (fun s => [.v v, .v (.fn f cap), .v (.int .i64 (l.length : Int)), .v (.int .i64 (s.1 : Int))]) (fun s => s.2) (fun s => l.length - s.1) (fun ⟨i, σi⟩ ⟨hi, hle, hok⟩ => ?_)
    (0, σ) ⟨Nat.zero_le _, Lh.refl _, fun j y hj => absurd hj (Nat.not_lt_zero _)⟩
  simp only at hi hle hok ⊢
  refine W.to (fun k _ => by rw [slices_IndexFunc_impl_LinkPart_impl_LinkPart.L0_step]) ?_
  try simp only [q_bind_some, Option.bind_assoc, castInt_int, q_castBool, q_castStr, q_castPtr, q_castFn, q_castAgg, q_castTuple, q_uncons, q_isNil, q_sl, q_nils, q_emp, q_ptr, q_nilp, q_fn, q_cond_true, q_cond_false, Bool.not_true, Bool.not_false, decide_true, decide_false, castInt_bind, castBool_bind, castStr_bind, castPtr_bind, castFn_bind, castAgg_bind, castTuple_bind, uncons_bind, isNil_bind, one_bind, cond_bind, ite_bind_, List.cons_append, List.nil_append]
  refine W.ite (fun hlt => ?_) fun hlt => ?_
  · refine W.at h hle (by omega) fun r o cs x hx' hr hP => ?_
    have hm := List.mem_of_getElem? hx'
    have hc := hx x hm σi cs hle (LinkPart.Rep.le hle hP)
    cases hP with
    | mk =>
    try simp only [q_bind_some, Option.bind_assoc, castInt_int, q_castBool, q_castStr, q_castPtr, q_castFn, q_castAgg, q_castTuple, q_uncons, q_isNil, q_sl, q_nils, q_emp, q_ptr, q_nilp, q_fn, q_cond_true, q_cond_false, Bool.not_true, Bool.not_false, decide_true, decide_false, castInt_bind, castBool_bind, castStr_bind, castPtr_bind, castFn_bind, castAgg_bind, castTuple_bind, uncons_bind, isNil_bind, one_bind, cond_bind, ite_bind_, List.cons_append, List.nil_append, hr]
    refine W.give hc fun σ1 l1 => ?_
    try simp only [q_bind_some, Option.bind_assoc, castInt_int, q_castBool, q_castStr, q_castPtr, q_castFn, q_castAgg, q_castTuple, q_uncons, q_isNil, q_sl, q_nils, q_emp, q_ptr, q_nilp, q_fn, q_cond_true, q_cond_false, Bool.not_true, Bool.not_false, decide_true, decide_false, castInt_bind, castBool_bind, castStr_bind, castPtr_bind, castFn_bind, castAgg_bind, castTuple_bind, uncons_bind, isNil_bind, one_bind, cond_bind, ite_bind_, List.cons_append, List.nil_append]
    cases hb : p x with
    | true =>
      try simp only [q_bind_some, Option.bind_assoc, castInt_int, q_castBool, q_castStr, q_castPtr, q_castFn, q_castAgg, q_castTuple, q_uncons, q_isNil, q_sl, q_nils, q_emp, q_ptr, q_nilp, q_fn, q_cond_true, q_cond_false, Bool.not_true, Bool.not_false, decide_true, decide_false, castInt_bind, castBool_bind, castStr_bind, castPtr_bind, castFn_bind, castAgg_bind, castTuple_bind, uncons_bind, isNil_bind, one_bind, cond_bind, ite_bind_, List.cons_append, List.nil_append, slices_IndexFunc_impl_LinkPart_impl_LinkPart.A0_ret]
      exact W.ret ⟨by rw [fidx_at hx' hb hok], hle.trans l1⟩
    | false =>
      try simp only [q_bind_some, Option.bind_assoc, castInt_int, q_castBool, q_castStr, q_castPtr, q_castFn, q_castAgg, q_castTuple, q_uncons, q_isNil, q_sl, q_nils, q_emp, q_ptr, q_nilp, q_fn, q_cond_true, q_cond_false, Bool.not_true, Bool.not_false, decide_true, decide_false, castInt_bind, castBool_bind, castStr_bind, castPtr_bind, castFn_bind, castAgg_bind, castTuple_bind, uncons_bind, isNil_bind, one_bind, cond_bind, ite_bind_, List.cons_append, List.nil_append, wrap_next (show i < l.length by omega) (by omega)]
      refine W.again (i + 1, σ1) ⟨by show i + 1 ≤ l.length; omega, hle.trans l1, fun j y hj hy => ?_⟩ (by simp only; omega) rfl rfl
      simp only at hj
      by_cases hij : j = i
      · subst hij
        rw [hx'] at hy
        injection hy with hy
        rw [← hy]; exact hb
      · exact hok j y (by omega) hy
  · try simp only [q_bind_some, Option.bind_assoc, castInt_int, q_castBool, q_castStr, q_castPtr, q_castFn, q_castAgg, q_castTuple, q_uncons, q_isNil, q_sl, q_nils, q_emp, q_ptr, q_nilp, q_fn, q_cond_true, q_cond_false, Bool.not_true, Bool.not_false, decide_true, decide_false, castInt_bind, castBool_bind, castStr_bind, castPtr_bind, castFn_bind, castAgg_bind, castTuple_bind, uncons_bind, isNil_bind, one_bind, cond_bind, ite_bind_, List.cons_append, List.nil_append, slices_IndexFunc_impl_LinkPart_impl_LinkPart.A0_x0]
    exact W.ret ⟨by rw [fidx_none fun j y hy => hok j y (by have := lt_of_get hy; omega) hy], hle⟩

theorem slices_IndexFunc_impl_CodeFun_impl_CodeFun_gives {σ : Heap} {v : V} {l : List CodeFun} (hf : l.length ≤ 1073741824) (h : RepS 6 (CodeFun.Rep σ) σ v l) (f : FuncId) (cap : List V) (p : CodeFun → Bool)
    (hx : ∀ x, x ∈ l → ∀ σ' cs, Lh σ σ' → CodeFun.Rep σ' cs x → Gives G f ([.agg cs] ++ cap) σ' (.bool (p x))) : Gives G n_slices_IndexFunc_impl_CodeFun_impl_CodeFun [v, .fn f cap] σ (.int .i64 (fidx p l)) := by
  refine Gives.of (W.to (fun k _ => slices_IndexFunc_impl_CodeFun_impl_CodeFun.eq k _ _ _) ?_)
  refine W.len h ?_
  refine W.loop (S := Nat × Heap) (fun s => s.1 ≤ l.length ∧ Lh σ s.2 ∧ ∀ (j : Nat) y, j < s.1 → l[j]? = some y → p y = false) (fun s => [.v v, .v (.fn f cap), .v (.int .i64 (l.length : Int)), .v (.int .i64 (s.1 : Int))]) (fun s => s.2) (fun s => l.length - s.1) (fun ⟨i, σi⟩ ⟨hi, hle, hok⟩ => ?_)
    (0, σ) ⟨Nat.zero_le _, Lh.refl _, fun j y hj => absurd hj (Nat.not_lt_zero _)⟩
  simp only at hi hle hok ⊢
  refine W.to (fun k _ => by rw [slices_IndexFunc_impl_CodeFun_impl_CodeFun.L0_step]) ?_
  try simp only [q_bind_some, Option.bind_assoc, castInt_int, q_castBool, q_castStr, q_castPtr, q_castFn, q_castAgg, q_castTuple, q_uncons, q_isNil, q_sl, q_nils, q_emp, q_ptr, q_nilp, q_fn, q_cond_true, q_cond_false, Bool.not_true, Bool.not_false, decide_true, decide_false, castInt_bind, castBool_bind, castStr_bind, castPtr_bind, castFn_bind, castAgg_bind, castTuple_bind, uncons_bind, isNil_bind, one_bind, cond_bind, ite_bind_, List.cons_append, List.nil_append]
  refine W.ite (fun hlt => ?_) fun hlt => ?_
  · refine W.at h hle (by omega) fun r o cs x hx' hr hP => ?_
    have hm := List.mem_of_getElem? hx'
    have hc := hx x hm σi cs hle (CodeFun.Rep.le hle hP)
    cases hP with
    | mk =>
    try simp only [q_bind_some, Option.bind_assoc, castInt_int, q_castBool, q_castStr, q_castPtr, q_castFn, q_castAgg, q_castTuple, q_uncons, q_isNil, q_sl, q_nils, q_emp, q_ptr, q_nilp, q_fn, q_cond_true, q_cond_false, Bool.not_true, Bool.not_false, decide_true, decide_false, castInt_bind, castBool_bind, castStr_bind, castPtr_bind, castFn_bind, castAgg_bind, castTuple_bind, uncons_bind, isNil_bind, one_bind, cond_bind, ite_bind_, List.cons_append, List.nil_append, hr]
    refine W.give hc fun σ1 l1 => ?_
    try simp only [q_bind_some, Option.bind_assoc, castInt_int, q_castBool, q_castStr, q_castPtr, q_castFn, q_castAgg, q_castTuple, q_uncons, q_isNil, q_sl, q_nils, q_emp, q_ptr, q_nilp, q_fn, q_cond_true, q_cond_false, Bool.not_true, Bool.not_false, decide_true, decide_false, castInt_bind, castBool_bind, castStr_bind, castPtr_bind, castFn_bind, castAgg_bind, castTuple_bind, uncons_bind, isNil_bind, one_bind, cond_bind, ite_bind_, List.cons_append, List.nil_append]
    cases hb : p x with
    | true =>
      try simp only [q_bind_some, Option.bind_assoc, castInt_int, q_castBool, q_castStr, q_castPtr, q_castFn, q_castAgg, q_castTuple, q_uncons, q_isNil, q_sl, q_nils, q_emp, q_ptr, q_nilp, q_fn, q_cond_true, q_cond_false, Bool.not_true, Bool.not_false, decide_true, decide_false, castInt_bind, castBool_bind, castStr_bind, castPtr_bind, castFn_bind, castAgg_bind, castTuple_bind, uncons_bind, isNil_bind, one_bind, cond_bind, ite_bind_, List.cons_append, List.nil_append, slices_IndexFunc_impl_CodeFun_impl_CodeFun.A0_ret]
      exact W.ret ⟨by rw [fidx_at hx' hb hok], hle.trans l1⟩
    | false =>
      try simp only [q_bind_some, Option.bind_assoc, castInt_int, q_castBool, q_castStr, q_castPtr, q_castFn, q_castAgg, q_castTuple, q_uncons, q_isNil, q_sl, q_nils, q_emp, q_ptr, q_nilp, q_fn, q_cond_true, q_cond_false, Bool.not_true, Bool.not_false, decide_true, decide_false, castInt_bind, castBool_bind, castStr_bind, castPtr_bind, castFn_bind, castAgg_bind, castTuple_bind, uncons_bind, isNil_bind, one_bind, cond_bind, ite_bind_, List.cons_append, List.nil_append, wrap_next (show i < l.length by omega) (by omega)]
      refine W.again (i + 1, σ1) ⟨by show i + 1 ≤ l.length; omega, hle.trans l1, fun j y hj hy => ?_⟩ (by simp only; omega) rfl rfl
      simp only at hj
      by_cases hij : j = i
      · subst hij
        rw [hx'] at hy
        injection hy with hy
        rw [← hy]; exact hb
      · exact hok j y (by omega) hy
  · try simp only [q_bind_some, Option.bind_assoc, castInt_int, q_castBool, q_castStr, q_castPtr, q_castFn, q_castAgg, q_castTuple, q_uncons, q_isNil, q_sl, q_nils, q_emp, q_ptr, q_nilp, q_fn, q_cond_true, q_cond_false, Bool.not_true, Bool.not_false, decide_true, decide_false, castInt_bind, castBool_bind, castStr_bind, castPtr_bind, castFn_bind, castAgg_bind, castTuple_bind, uncons_bind, isNil_bind, one_bind, cond_bind, ite_bind_, List.cons_append, List.nil_append, slices_IndexFunc_impl_CodeFun_impl_CodeFun.A0_x0]
    exact W.ret ⟨by rw [fidx_none fun j y hy => hok j y (by have := lt_of_get hy; omega) hy], hle⟩

theorem cap_rdc {σ σ' : Heap} {x : V} (h : Lh (hnew σ 1 [x]) σ') : rdc σ' σ.length 0 1 = some [x] := by
  refine h.rdc ?_
  simp [rdc, hnew]
theorem partAt_gives {σ : Heap} {v : V} {l : List LinkPart} (hf : l.length ≤ 1073741824) (h : RepS 3 (LinkPart.Rep σ) σ v l) (s : ByteArray) : Gives G n_impl_partAt [v, .str s] σ (.int .i64 (partIdx l s)) := by
  refine Gives.of (W.to (fun k _ => impl_partAt.eq k _ _ _) ?_)
  refine W.give (slices_IndexFunc_impl_LinkPart_impl_LinkPart_gives hf (h.mono (Lh.new _ _ _) fun cs x _ hc => LinkPart.Rep.le (Lh.new _ _ _) hc) n_impl_partAt_1 [.ptr σ.length 0] (fun p => decide (p.name = s)) fun x hx σ' cs hle hP => ?_) fun σ1 l1 => ?_
  · cases hP with
    | mk =>
    refine Gives.of (W.to (fun k _ => impl_partAt_1.eq k _ _ _ _ _) ?_)
    try simp only [q_bind_some, Option.bind_assoc, castInt_int, q_castBool, q_castStr, q_castPtr, q_castFn, q_castAgg, q_castTuple, q_uncons, q_isNil, q_sl, q_nils, q_emp, q_ptr, q_nilp, q_fn, q_cond_true, q_cond_false, Bool.not_true, Bool.not_false, decide_true, decide_false, castInt_bind, castBool_bind, castStr_bind, castPtr_bind, castFn_bind, castAgg_bind, castTuple_bind, uncons_bind, isNil_bind, one_bind, cond_bind, ite_bind_, List.cons_append, List.nil_append, cap_rdc hle]
    exact W.ret ⟨rfl, Lh.refl _⟩
  · try simp only [q_bind_some, Option.bind_assoc, castInt_int, q_castBool, q_castStr, q_castPtr, q_castFn, q_castAgg, q_castTuple, q_uncons, q_isNil, q_sl, q_nils, q_emp, q_ptr, q_nilp, q_fn, q_cond_true, q_cond_false, Bool.not_true, Bool.not_false, decide_true, decide_false, castInt_bind, castBool_bind, castStr_bind, castPtr_bind, castFn_bind, castAgg_bind, castTuple_bind, uncons_bind, isNil_bind, one_bind, cond_bind, ite_bind_, List.cons_append, List.nil_append]
    exact W.ret ⟨rfl, (Lh.new _ _ _).trans l1⟩
theorem funIn_gives {σ : Heap} {o : CodeObj} (hf : o.funs.length ≤ 1073741824) {cs : List V} (h : CodeObj.Rep σ cs o) (s : ByteArray) : Gives G n_impl_funIn [.agg cs, .str s] σ (.int .i64 (funIdx o s)) := by
  cases h with
  | mk h0 h1 =>
  refine Gives.of (W.to (fun k _ => impl_funIn.eq k _ _ _ _) ?_)
  refine W.give (slices_IndexFunc_impl_CodeFun_impl_CodeFun_gives hf (h1.mono (Lh.new _ _ _) fun cs x _ hc => CodeFun.Rep.le (Lh.new _ _ _) hc) n_impl_funIn_1 [.ptr σ.length 0] (fun p => decide (p.name = s)) fun x hx σ' cs hle hP => ?_) fun σ1 l1 => ?_
  · cases hP with
    | mk =>
    refine Gives.of (W.to (fun k _ => impl_funIn_1.eq k _ _ _ _ _ _ _ _) ?_)
    try simp only [q_bind_some, Option.bind_assoc, castInt_int, q_castBool, q_castStr, q_castPtr, q_castFn, q_castAgg, q_castTuple, q_uncons, q_isNil, q_sl, q_nils, q_emp, q_ptr, q_nilp, q_fn, q_cond_true, q_cond_false, Bool.not_true, Bool.not_false, decide_true, decide_false, castInt_bind, castBool_bind, castStr_bind, castPtr_bind, castFn_bind, castAgg_bind, castTuple_bind, uncons_bind, isNil_bind, one_bind, cond_bind, ite_bind_, List.cons_append, List.nil_append, cap_rdc hle]
    exact W.ret ⟨rfl, Lh.refl _⟩
  · try simp only [q_bind_some, Option.bind_assoc, castInt_int, q_castBool, q_castStr, q_castPtr, q_castFn, q_castAgg, q_castTuple, q_uncons, q_isNil, q_sl, q_nils, q_emp, q_ptr, q_nilp, q_fn, q_cond_true, q_cond_false, Bool.not_true, Bool.not_false, decide_true, decide_false, castInt_bind, castBool_bind, castStr_bind, castPtr_bind, castFn_bind, castAgg_bind, castTuple_bind, uncons_bind, isNil_bind, one_bind, cond_bind, ite_bind_, List.cons_append, List.nil_append]
    exact W.ret ⟨rfl, (Lh.new _ _ _).trans l1⟩
theorem base_next {l : List LinkPart} {i : Nat} {x : LinkPart} (h : l[i]? = some x) : baseOf l (i + 1) = baseOf l i + x.obj.funs.length := by
  rw [baseOf, take_next' h, totS_append, totS, totS]
  rfl
theorem base_le (l : List LinkPart) (i : Nat) : baseOf l i ≤ totS LinkPart.total l := by
  have h1 : ∀ (l : List LinkPart), totS (fun p => p.obj.funs.length) l ≤ totS LinkPart.total l := by
    intro l
    induction l with
    | nil => exact Nat.le_refl _
    | cons x l ih =>
      rw [totS, totS, LinkPart.total_eq, CodeObj.total_eq]
      omega
  exact Nat.le_trans (totS_take_le _ l i) (h1 l)
theorem firstFun_gives {σ : Heap} {v : V} {l : List LinkPart} (ht : l.length + totS LinkPart.total l ≤ 1048576) (h : RepS 3 (LinkPart.Rep σ) σ v l) {i : Nat} (hi : i < l.length) : Gives G n_impl_firstFun [v, .int .i64 (i : Int)] σ (.int .i64 (baseOf l i : Nat)) := by
  refine Gives.of (W.to (fun k _ => impl_firstFun.eq k _ _ _) ?_)
  refine W.first h (by omega) fun u hu => ?_
  have e : ((i : Int)).toNat = i := by omega
  rw [e] at hu
  refine W.len hu ?_
  have hlen : (l.take i).length = i := by rw [List.length_take]; omega
  refine W.loop (S := Nat) (fun j => j ≤ i) (fun j => [.v (.int .i64 (baseOf l j : Nat)), .v u, .v (.int .i64 ((l.take i).length : Int)), .v (.int .i64 (j : Int))]) (fun _ => σ) (fun j => i - j) (fun j hj => ?_) 0 (Nat.zero_le _)
  refine W.to (fun k _ => by rw [impl_firstFun.L0_step]) ?_
  try simp only [q_bind_some, Option.bind_assoc, castInt_int, q_castBool, q_castStr, q_castPtr, q_castFn, q_castAgg, q_castTuple, q_uncons, q_isNil, q_sl, q_nils, q_emp, q_ptr, q_nilp, q_fn, q_cond_true, q_cond_false, Bool.not_true, Bool.not_false, decide_true, decide_false, castInt_bind, castBool_bind, castStr_bind, castPtr_bind, castFn_bind, castAgg_bind, castTuple_bind, uncons_bind, isNil_bind, one_bind, cond_bind, ite_bind_, List.cons_append, List.nil_append]
  refine W.ite (fun hlt => ?_) fun hlt => ?_
  · refine W.at hu (Lh.refl _) (by omega) fun r o cs x hx hr hP => ?_
    have hx' : l[j]? = some x := by
      rw [List.getElem?_take] at hx
      split at hx
      · exact hx
      · cases hx
    have hb := base_next hx'
    have hb2 := base_le l (j + 1)
    cases hP with
    | mk q0 q1 =>
    try simp only [q_bind_some, Option.bind_assoc, castInt_int, q_castBool, q_castStr, q_castPtr, q_castFn, q_castAgg, q_castTuple, q_uncons, q_isNil, q_sl, q_nils, q_emp, q_ptr, q_nilp, q_fn, q_cond_true, q_cond_false, Bool.not_true, Bool.not_false, decide_true, decide_false, castInt_bind, castBool_bind, castStr_bind, castPtr_bind, castFn_bind, castAgg_bind, castTuple_bind, uncons_bind, isNil_bind, one_bind, cond_bind, ite_bind_, List.cons_append, List.nil_append, hr]
    refine W.len q1 ?_
    have hw : IntKind.wrap .i64 (((baseOf l j : Nat) : Int) + (x.obj.funs.length : Int)) = ((baseOf l (j + 1) : Nat) : Int) := by
      rw [hb, wrap_id (by omega) (by omega)]; omega
    have hw2 : IntKind.wrap .i64 ((j : Int) + 1) = ((j + 1 : Nat) : Int) := wrap_next (show j < i by omega) (by omega)
    exact W.again (j + 1) (show j + 1 ≤ i by omega) (by omega) (by rw [hw, hw2]) rfl
  · have hji : j = i := by omega
    subst hji
    try simp only [q_bind_some, Option.bind_assoc, castInt_int, q_castBool, q_castStr, q_castPtr, q_castFn, q_castAgg, q_castTuple, q_uncons, q_isNil, q_sl, q_nils, q_emp, q_ptr, q_nilp, q_fn, q_cond_true, q_cond_false, Bool.not_true, Bool.not_false, decide_true, decide_false, castInt_bind, castBool_bind, castStr_bind, castPtr_bind, castFn_bind, castAgg_bind, castTuple_bind, uncons_bind, isNil_bind, one_bind, cond_bind, ite_bind_, List.cons_append, List.nil_append, impl_firstFun.A0_x0]
    exact W.ret ⟨rfl, Lh.refl _⟩
theorem implLinkFind_gives {σ : Heap} {v : V} {l : List LinkPart} (ht : l.length + totS LinkPart.total l ≤ 1048576) (h : RepS 3 (LinkPart.Rep σ) σ v l) (mod name : ByteArray) :
    Gives G n_impl_LinkFind [v, .str mod, .str name] σ (.tuple [.int .i64 (linkFind l mod name).1, .bool (linkFind l mod name).2]) := by
  refine Gives.of (W.to (fun k _ => impl_LinkFind.eq k _ _ _ _) ?_)
  refine W.give (partAt_gives (by omega) h mod) fun σ1 l1 => ?_
  try simp only [q_bind_some, Option.bind_assoc, castInt_int, q_castBool, q_castStr, q_castPtr, q_castFn, q_castAgg, q_castTuple, q_uncons, q_isNil, q_sl, q_nils, q_emp, q_ptr, q_nilp, q_fn, q_cond_true, q_cond_false, Bool.not_true, Bool.not_false, decide_true, decide_false, castInt_bind, castBool_bind, castStr_bind, castPtr_bind, castFn_bind, castAgg_bind, castTuple_bind, uncons_bind, isNil_bind, one_bind, cond_bind, ite_bind_, List.cons_append, List.nil_append]
  refine W.len h (W.ite (fun k1 => ?_) fun k1 => ?_)
  · refine W.ret ⟨?_, l1⟩
    rw [linkFind, if_pos (by omega)]
  refine W.ite (fun k2 => ?_) fun k2 => ?_
  · refine W.ret ⟨?_, l1⟩
    rw [linkFind, if_neg (by omega), if_pos k2]
  have hlt := fidx_lt (p := fun p : LinkPart => decide (p.name = mod)) l
  obtain ⟨i, hi⟩ : ∃ i : Nat, partIdx l mod = (i : Int) := ⟨(partIdx l mod).toNat, by omega⟩
  have hil : i < l.length := by
    have : partIdx l mod < (l.length : Int) := hlt
    omega
  rw [hi]
  refine W.at h l1 hil fun r o cs x hx hr hP => ?_
  have hm := List.mem_of_getElem? hx
  have hxt := totS_mem LinkPart.total hm
  rw [LinkPart.total_eq x, CodeObj.total_eq] at hxt
  cases hP with
  | mk q0 q1 =>
  rename_i b0 b1
  have hr2 : rdc σ1 r (o + 1) 2 = some [b0, b1] := rdc_sub hr 1 2 (by omega)
  try simp only [q_bind_some, Option.bind_assoc, castInt_int, q_castBool, q_castStr, q_castPtr, q_castFn, q_castAgg, q_castTuple, q_uncons, q_isNil, q_sl, q_nils, q_emp, q_ptr, q_nilp, q_fn, q_cond_true, q_cond_false, Bool.not_true, Bool.not_false, decide_true, decide_false, castInt_bind, castBool_bind, castStr_bind, castPtr_bind, castFn_bind, castAgg_bind, castTuple_bind, uncons_bind, isNil_bind, one_bind, cond_bind, ite_bind_, List.cons_append, List.nil_append, hr2]
  have hO : CodeObj.Rep σ1 [b0, b1] x.obj := .mk (q0.mono l1 fun cs x _ hc => CodeRef.Rep.le l1 hc) (q1.mono l1 fun cs x _ hc => CodeFun.Rep.le l1 hc)
  refine W.give (funIn_gives (by omega) hO name) fun σ2 l2 => ?_
  try simp only [q_bind_some, Option.bind_assoc, castInt_int, q_castBool, q_castStr, q_castPtr, q_castFn, q_castAgg, q_castTuple, q_uncons, q_isNil, q_sl, q_nils, q_emp, q_ptr, q_nilp, q_fn, q_cond_true, q_cond_false, Bool.not_true, Bool.not_false, decide_true, decide_false, castInt_bind, castBool_bind, castStr_bind, castPtr_bind, castFn_bind, castAgg_bind, castTuple_bind, uncons_bind, isNil_bind, one_bind, cond_bind, ite_bind_, List.cons_append, List.nil_append]
  have l12 := l1.trans l2
  have hlf : linkFind l mod name = if funIdx x.obj name < 0 then (0, false) else ((baseOf l i : Nat) + funIdx x.obj name, true) := by
    rw [linkFind, if_neg (by omega), if_neg (by omega), hi]
    have e : ((i : Int)).toNat = i := by omega
    rw [e, hx]
  refine W.ite (fun k3 => ?_) fun k3 => ?_
  · rw [hlf, if_pos k3]
    exact W.ret ⟨rfl, l12⟩
  refine W.give (firstFun_gives ht (h.mono l12 fun cs x _ hc => LinkPart.Rep.le l12 hc) hil) fun σ3 l3 => ?_
  try simp only [q_bind_some, Option.bind_assoc, castInt_int, q_castBool, q_castStr, q_castPtr, q_castFn, q_castAgg, q_castTuple, q_uncons, q_isNil, q_sl, q_nils, q_emp, q_ptr, q_nilp, q_fn, q_cond_true, q_cond_false, Bool.not_true, Bool.not_false, decide_true, decide_false, castInt_bind, castBool_bind, castStr_bind, castPtr_bind, castFn_bind, castAgg_bind, castTuple_bind, uncons_bind, isNil_bind, one_bind, cond_bind, ite_bind_, List.cons_append, List.nil_append]
  rw [hlf, if_neg k3]
  have hb := base_le l i
  have hfl : funIdx x.obj name < (x.obj.funs.length : Int) := fidx_lt _
  exact W.ret ⟨by rw [wrap_id (by omega) (by omega)], l12.trans l3⟩
theorem l9Part_runs {σ : Heap} {v : V} {l : List LinkPart} (hf : l.length ≤ 1073741824) (h : RepS 3 (LinkPart.Rep σ) σ v l) (s : ByteArray) : Runs G n_spec_l9Part [v, .str s] σ (.int .i64 (partIdx l s)) σ := by
  refine Runs.of (W.to (fun k _ => spec_l9Part.eq k _ _ _) ?_)
  refine W.loop (S := Nat) (fun i => i ≤ l.length ∧ ∀ (j : Nat) y, j < i → l[j]? = some y → decide (y.name = s) = false) (fun i => [.v v, .v (.str s), .v (.int .i64 (i : Int))]) (fun _ => σ) (fun i => l.length - i) (fun i ⟨hi, hok⟩ => ?_) 0 ⟨Nat.zero_le _, fun j y hj => absurd hj (Nat.not_lt_zero _)⟩
  refine W.to (fun k _ => by rw [spec_l9Part.L0_step]) ?_
  try simp only [q_bind_some, Option.bind_assoc, castInt_int, q_castBool, q_castStr, q_castPtr, q_castFn, q_castAgg, q_castTuple, q_uncons, q_isNil, q_sl, q_nils, q_emp, q_ptr, q_nilp, q_fn, q_cond_true, q_cond_false, Bool.not_true, Bool.not_false, decide_true, decide_false, castInt_bind, castBool_bind, castStr_bind, castPtr_bind, castFn_bind, castAgg_bind, castTuple_bind, uncons_bind, isNil_bind, one_bind, cond_bind, ite_bind_, List.cons_append, List.nil_append]
  refine W.len h (W.ite (fun hlt => ?_) fun hlt => ?_)
  · refine W.at h (Lh.refl _) (by omega) fun r o cs x hx' hr hP => ?_
    cases hP with
    | mk =>
    have hr2 : rdc σ r (o + 0) 1 = some [.str x.name] := rdc_sub hr 0 1 (by omega)
    try simp only [q_bind_some, Option.bind_assoc, castInt_int, q_castBool, q_castStr, q_castPtr, q_castFn, q_castAgg, q_castTuple, q_uncons, q_isNil, q_sl, q_nils, q_emp, q_ptr, q_nilp, q_fn, q_cond_true, q_cond_false, Bool.not_true, Bool.not_false, decide_true, decide_false, castInt_bind, castBool_bind, castStr_bind, castPtr_bind, castFn_bind, castAgg_bind, castTuple_bind, uncons_bind, isNil_bind, one_bind, cond_bind, ite_bind_, List.cons_append, List.nil_append, hr2]
    refine W.ite (fun hs => ?_) fun hs => ?_
    · try simp only [q_bind_some, Option.bind_assoc, castInt_int, q_castBool, q_castStr, q_castPtr, q_castFn, q_castAgg, q_castTuple, q_uncons, q_isNil, q_sl, q_nils, q_emp, q_ptr, q_nilp, q_fn, q_cond_true, q_cond_false, Bool.not_true, Bool.not_false, decide_true, decide_false, castInt_bind, castBool_bind, castStr_bind, castPtr_bind, castFn_bind, castAgg_bind, castTuple_bind, uncons_bind, isNil_bind, one_bind, cond_bind, ite_bind_, List.cons_append, List.nil_append, spec_l9Part.A0_ret]
      exact W.ret ⟨by rw [partIdx, fidx_at hx' (by simp [hs]) hok], rfl⟩
    · try simp only [q_bind_some, Option.bind_assoc, castInt_int, q_castBool, q_castStr, q_castPtr, q_castFn, q_castAgg, q_castTuple, q_uncons, q_isNil, q_sl, q_nils, q_emp, q_ptr, q_nilp, q_fn, q_cond_true, q_cond_false, Bool.not_true, Bool.not_false, decide_true, decide_false, castInt_bind, castBool_bind, castStr_bind, castPtr_bind, castFn_bind, castAgg_bind, castTuple_bind, uncons_bind, isNil_bind, one_bind, cond_bind, ite_bind_, List.cons_append, List.nil_append, wrap_next (show i < l.length by omega) (by omega)]
      refine W.again (i + 1) ⟨by omega, fun j y hj hy => ?_⟩ (by omega) rfl rfl
      by_cases hij : j = i
      · subst hij
        rw [hx'] at hy
        injection hy with hy
        rw [← hy]; simp [hs]
      · exact hok j y (by omega) hy
  · try simp only [q_bind_some, Option.bind_assoc, castInt_int, q_castBool, q_castStr, q_castPtr, q_castFn, q_castAgg, q_castTuple, q_uncons, q_isNil, q_sl, q_nils, q_emp, q_ptr, q_nilp, q_fn, q_cond_true, q_cond_false, Bool.not_true, Bool.not_false, decide_true, decide_false, castInt_bind, castBool_bind, castStr_bind, castPtr_bind, castFn_bind, castAgg_bind, castTuple_bind, uncons_bind, isNil_bind, one_bind, cond_bind, ite_bind_, List.cons_append, List.nil_append, spec_l9Part.A0_x0]
    exact W.ret ⟨by rw [partIdx, fidx_none fun j y hy => hok j y (by have := lt_of_get hy; omega) hy], rfl⟩
theorem l9Fun_runs {σ : Heap} {o : CodeObj} (hf : o.funs.length ≤ 1073741824) {cs : List V} (h : CodeObj.Rep σ cs o) (s : ByteArray) : Runs G n_spec_l9Fun [.agg cs, .str s] σ (.int .i64 (funIdx o s)) σ := by
  cases h with
  | mk h0 h =>
  rename_i b0 b1
  refine Runs.of (W.to (fun k _ => spec_l9Fun.eq k _ _ _ _) ?_)
  refine W.loop (S := Nat) (fun i => i ≤ o.funs.length ∧ ∀ (j : Nat) y, j < i → o.funs[j]? = some y → decide (y.name = s) = false) (fun i => [.v (.str s), .box [b0, b1], .v (.int .i64 (i : Int))]) (fun _ => σ) (fun i => o.funs.length - i) (fun i ⟨hi, hok⟩ => ?_) 0 ⟨Nat.zero_le _, fun j y hj => absurd hj (Nat.not_lt_zero _)⟩
  refine W.to (fun k _ => by rw [spec_l9Fun.L0_step]) ?_
  try simp only [q_bind_some, Option.bind_assoc, castInt_int, q_castBool, q_castStr, q_castPtr, q_castFn, q_castAgg, q_castTuple, q_uncons, q_isNil, q_sl, q_nils, q_emp, q_ptr, q_nilp, q_fn, q_cond_true, q_cond_false, Bool.not_true, Bool.not_false, decide_true, decide_false, castInt_bind, castBool_bind, castStr_bind, castPtr_bind, castFn_bind, castAgg_bind, castTuple_bind, uncons_bind, isNil_bind, one_bind, cond_bind, ite_bind_, List.cons_append, List.nil_append]
  refine W.len h (W.ite (fun hlt => ?_) fun hlt => ?_)
  · refine W.at h (Lh.refl _) (by omega) fun r o' cs x hx' hr hP => ?_
    cases hP with
    | mk =>
    have hr2 : rdc σ r (o' + 0) 1 = some [.str x.name] := rdc_sub hr 0 1 (by omega)
    try simp only [q_bind_some, Option.bind_assoc, castInt_int, q_castBool, q_castStr, q_castPtr, q_castFn, q_castAgg, q_castTuple, q_uncons, q_isNil, q_sl, q_nils, q_emp, q_ptr, q_nilp, q_fn, q_cond_true, q_cond_false, Bool.not_true, Bool.not_false, decide_true, decide_false, castInt_bind, castBool_bind, castStr_bind, castPtr_bind, castFn_bind, castAgg_bind, castTuple_bind, uncons_bind, isNil_bind, one_bind, cond_bind, ite_bind_, List.cons_append, List.nil_append, hr2]
    refine W.ite (fun hs => ?_) fun hs => ?_
    · try simp only [q_bind_some, Option.bind_assoc, castInt_int, q_castBool, q_castStr, q_castPtr, q_castFn, q_castAgg, q_castTuple, q_uncons, q_isNil, q_sl, q_nils, q_emp, q_ptr, q_nilp, q_fn, q_cond_true, q_cond_false, Bool.not_true, Bool.not_false, decide_true, decide_false, castInt_bind, castBool_bind, castStr_bind, castPtr_bind, castFn_bind, castAgg_bind, castTuple_bind, uncons_bind, isNil_bind, one_bind, cond_bind, ite_bind_, List.cons_append, List.nil_append, spec_l9Fun.A0_ret]
      exact W.ret ⟨by rw [funIdx, fidx_at hx' (by simp [hs]) hok], rfl⟩
    · try simp only [q_bind_some, Option.bind_assoc, castInt_int, q_castBool, q_castStr, q_castPtr, q_castFn, q_castAgg, q_castTuple, q_uncons, q_isNil, q_sl, q_nils, q_emp, q_ptr, q_nilp, q_fn, q_cond_true, q_cond_false, Bool.not_true, Bool.not_false, decide_true, decide_false, castInt_bind, castBool_bind, castStr_bind, castPtr_bind, castFn_bind, castAgg_bind, castTuple_bind, uncons_bind, isNil_bind, one_bind, cond_bind, ite_bind_, List.cons_append, List.nil_append, wrap_next (show i < o.funs.length by omega) (by omega)]
      refine W.again (i + 1) ⟨by omega, fun j y hj hy => ?_⟩ (by omega) rfl rfl
      by_cases hij : j = i
      · subst hij
        rw [hx'] at hy
        injection hy with hy
        rw [← hy]; simp [hs]
      · exact hok j y (by omega) hy
  · try simp only [q_bind_some, Option.bind_assoc, castInt_int, q_castBool, q_castStr, q_castPtr, q_castFn, q_castAgg, q_castTuple, q_uncons, q_isNil, q_sl, q_nils, q_emp, q_ptr, q_nilp, q_fn, q_cond_true, q_cond_false, Bool.not_true, Bool.not_false, decide_true, decide_false, castInt_bind, castBool_bind, castStr_bind, castPtr_bind, castFn_bind, castAgg_bind, castTuple_bind, uncons_bind, isNil_bind, one_bind, cond_bind, ite_bind_, List.cons_append, List.nil_append, spec_l9Fun.A0_x0]
    exact W.ret ⟨by rw [funIdx, fidx_none fun j y hy => hok j y (by have := lt_of_get hy; omega) hy], rfl⟩
theorem l9Base_runs {σ : Heap} {v : V} {l : List LinkPart} (ht : l.length + totS LinkPart.total l ≤ 1048576) (h : RepS 3 (LinkPart.Rep σ) σ v l) {i : Nat} (hi : i ≤ l.length) : Runs G n_spec_l9Base [v, .int .i64 (i : Int)] σ (.int .i64 (baseOf l i : Nat)) σ := by
  refine Runs.of (W.to (fun k _ => spec_l9Base.eq k _ _ _) ?_)
  refine W.loop (S := Nat) (fun j => j ≤ i) (fun j => [.v v, .v (.int .i64 (i : Int)), .v (.int .i64 (baseOf l j : Nat)), .v (.int .i64 (j : Int))]) (fun _ => σ) (fun j => i - j) (fun j hj => ?_) 0 (Nat.zero_le _)
  refine W.to (fun k _ => by rw [spec_l9Base.L0_step]) ?_
  try simp only [q_bind_some, Option.bind_assoc, castInt_int, q_castBool, q_castStr, q_castPtr, q_castFn, q_castAgg, q_castTuple, q_uncons, q_isNil, q_sl, q_nils, q_emp, q_ptr, q_nilp, q_fn, q_cond_true, q_cond_false, Bool.not_true, Bool.not_false, decide_true, decide_false, castInt_bind, castBool_bind, castStr_bind, castPtr_bind, castFn_bind, castAgg_bind, castTuple_bind, uncons_bind, isNil_bind, one_bind, cond_bind, ite_bind_, List.cons_append, List.nil_append]
  refine W.ite (fun hlt => ?_) fun hlt => ?_
  · refine W.at h (Lh.refl _) (by omega) fun r o cs x hx hr hP => ?_
    have hb := base_next hx
    have hb2 := base_le l (j + 1)
    cases hP with
    | mk q0 q1 =>
    rename_i b0 b1
    have hr2 : rdc σ r (o + 1 + 1) 1 = some [b1] := rdc_sub hr 2 1 (by omega)
    try simp only [q_bind_some, Option.bind_assoc, castInt_int, q_castBool, q_castStr, q_castPtr, q_castFn, q_castAgg, q_castTuple, q_uncons, q_isNil, q_sl, q_nils, q_emp, q_ptr, q_nilp, q_fn, q_cond_true, q_cond_false, Bool.not_true, Bool.not_false, decide_true, decide_false, castInt_bind, castBool_bind, castStr_bind, castPtr_bind, castFn_bind, castAgg_bind, castTuple_bind, uncons_bind, isNil_bind, one_bind, cond_bind, ite_bind_, List.cons_append, List.nil_append, hr2]
    refine W.len q1 ?_
    have hw : IntKind.wrap .i64 (((baseOf l j : Nat) : Int) + (x.obj.funs.length : Int)) = ((baseOf l (j + 1) : Nat) : Int) := by
      rw [hb, wrap_id (by omega) (by omega)]; omega
    have hw2 : IntKind.wrap .i64 ((j : Int) + 1) = ((j + 1 : Nat) : Int) := wrap_next (show j < i by omega) (by omega)
    exact W.again (j + 1) (show j + 1 ≤ i by omega) (by omega) (by rw [hw, hw2]) rfl
  · have hji : j = i := by omega
    subst hji
    try simp only [q_bind_some, Option.bind_assoc, castInt_int, q_castBool, q_castStr, q_castPtr, q_castFn, q_castAgg, q_castTuple, q_uncons, q_isNil, q_sl, q_nils, q_emp, q_ptr, q_nilp, q_fn, q_cond_true, q_cond_false, Bool.not_true, Bool.not_false, decide_true, decide_false, castInt_bind, castBool_bind, castStr_bind, castPtr_bind, castFn_bind, castAgg_bind, castTuple_bind, uncons_bind, isNil_bind, one_bind, cond_bind, ite_bind_, List.cons_append, List.nil_append, spec_l9Base.A0_x0]
    exact W.ret ⟨rfl, rfl⟩
theorem specLinkFind_runs {σ : Heap} {v : V} {l : List LinkPart} (ht : l.length + totS LinkPart.total l ≤ 1048576) (h : RepS 3 (LinkPart.Rep σ) σ v l) (mod name : ByteArray) :
    Runs G n_spec_LinkFind [v, .str mod, .str name] σ (.tuple [.int .i64 (linkFind l mod name).1, .bool (linkFind l mod name).2]) σ := by
  refine Runs.of (W.to (fun k _ => spec_LinkFind.eq k _ _ _ _) ?_)
  refine W.len h (W.ite (fun k1 => ?_) fun k1 => ?_)
  · refine W.ret ⟨?_, rfl⟩
    rw [linkFind, if_pos (by omega)]
  refine W.run (l9Part_runs (by omega) h mod) ?_
  try simp only [q_bind_some, Option.bind_assoc, castInt_int, q_castBool, q_castStr, q_castPtr, q_castFn, q_castAgg, q_castTuple, q_uncons, q_isNil, q_sl, q_nils, q_emp, q_ptr, q_nilp, q_fn, q_cond_true, q_cond_false, Bool.not_true, Bool.not_false, decide_true, decide_false, castInt_bind, castBool_bind, castStr_bind, castPtr_bind, castFn_bind, castAgg_bind, castTuple_bind, uncons_bind, isNil_bind, one_bind, cond_bind, ite_bind_, List.cons_append, List.nil_append]
  refine W.ite (fun k2 => ?_) fun k2 => ?_
  · refine W.ret ⟨?_, rfl⟩
    rw [linkFind, if_neg (by omega), if_pos k2]
  have hlt := fidx_lt (p := fun p : LinkPart => decide (p.name = mod)) l
  obtain ⟨i, hi⟩ : ∃ i : Nat, partIdx l mod = (i : Int) := ⟨(partIdx l mod).toNat, by omega⟩
  have hil : i < l.length := by
    have : partIdx l mod < (l.length : Int) := hlt
    omega
  rw [hi]
  refine W.at h (Lh.refl _) hil fun r o cs x hx hr hP => ?_
  have hm := List.mem_of_getElem? hx
  have hxt := totS_mem LinkPart.total hm
  rw [LinkPart.total_eq x, CodeObj.total_eq] at hxt
  cases hP with
  | mk q0 q1 =>
  rename_i b0 b1
  have hr2 : rdc σ r (o + 1) 2 = some [b0, b1] := rdc_sub hr 1 2 (by omega)
  try simp only [q_bind_some, Option.bind_assoc, castInt_int, q_castBool, q_castStr, q_castPtr, q_castFn, q_castAgg, q_castTuple, q_uncons, q_isNil, q_sl, q_nils, q_emp, q_ptr, q_nilp, q_fn, q_cond_true, q_cond_false, Bool.not_true, Bool.not_false, decide_true, decide_false, castInt_bind, castBool_bind, castStr_bind, castPtr_bind, castFn_bind, castAgg_bind, castTuple_bind, uncons_bind, isNil_bind, one_bind, cond_bind, ite_bind_, List.cons_append, List.nil_append, hr2]
  have hO : CodeObj.Rep σ [b0, b1] x.obj := .mk q0 q1
  refine W.run (l9Fun_runs (by omega) hO name) ?_
  try simp only [q_bind_some, Option.bind_assoc, castInt_int, q_castBool, q_castStr, q_castPtr, q_castFn, q_castAgg, q_castTuple, q_uncons, q_isNil, q_sl, q_nils, q_emp, q_ptr, q_nilp, q_fn, q_cond_true, q_cond_false, Bool.not_true, Bool.not_false, decide_true, decide_false, castInt_bind, castBool_bind, castStr_bind, castPtr_bind, castFn_bind, castAgg_bind, castTuple_bind, uncons_bind, isNil_bind, one_bind, cond_bind, ite_bind_, List.cons_append, List.nil_append]
  have hlf : linkFind l mod name = if funIdx x.obj name < 0 then (0, false) else ((baseOf l i : Nat) + funIdx x.obj name, true) := by
    rw [linkFind, if_neg (by omega), if_neg (by omega), hi]
    have e : ((i : Int)).toNat = i := by omega
    rw [e, hx]
  refine W.ite (fun k3 => ?_) fun k3 => ?_
  · rw [hlf, if_pos k3]
    exact W.ret ⟨rfl, rfl⟩
  refine W.run (l9Base_runs ht h (by omega)) ?_
  try simp only [q_bind_some, Option.bind_assoc, castInt_int, q_castBool, q_castStr, q_castPtr, q_castFn, q_castAgg, q_castTuple, q_uncons, q_isNil, q_sl, q_nils, q_emp, q_ptr, q_nilp, q_fn, q_cond_true, q_cond_false, Bool.not_true, Bool.not_false, decide_true, decide_false, castInt_bind, castBool_bind, castStr_bind, castPtr_bind, castFn_bind, castAgg_bind, castTuple_bind, uncons_bind, isNil_bind, one_bind, cond_bind, ite_bind_, List.cons_append, List.nil_append]
  rw [hlf, if_neg k3]
  have hb := base_le l i
  have hfl : funIdx x.obj name < (x.obj.funs.length : Int) := fidx_lt _
  exact W.ret ⟨by rw [wrap_id (by omega) (by omega)], rfl⟩
end Go.B
