/- What LinkMake makes: the program's. -/
import Derived.Test.YtghkdjfgbaoplaaRwA
import Derived.Test.YtghkdjfgbaoplaaLink3
set_option linter.unusedVariables false
set_option linter.unusedSimpArgs false
namespace Go.B
open Go.HM Go.Proofs
theorem scan_no {α : Type} {g : Nat → α → Flt} : ∀ {l : List α} {n : Nat}, scan g n l = noF → ∀ (j : Nat) y, l[j]? = some y → g (n + j) y = noF
  | [], _, _, j, y, hy => by simp at hy
  | x :: l, n, h, j, y, hy => by
    rw [scan] at h
    split at h
    · rename_i h0
      cases j with
      | zero => simp at hy; subst hy; exact h0
      | succ j =>
        have := scan_no h j y (by simpa using hy)
        rwa [show n + 1 + j = n + (j + 1) by omega] at this
    · rename_i h0; exact absurd h h0
theorem link_fine {l : List LinkPart} (h : linkFault l = noF) {i : Nat} {p : LinkPart} (hp : l[i]? = some p) : ∀ f, f ∈ p.obj.funs → ∀ x, x ∈ f.code → x.op = 8 → 0 ≤ x.a ∧ x.a < (p.obj.refs.length : Int) := by
  unfold linkFault at h
  split at h
  · cases h
  · split at h
    · rename_i h8 hf
      intro f hf' x hx hop
      have h1 := scan_no hf i p hp
      have h2 := scan_no h i p hp
      rw [Nat.zero_add] at h1 h2
      have hO : ObjIs p.obj := by
        unfold formFault at h1
        split at h1
        · cases h1
        · rename_i hn
          exact Classical.byContradiction fun hc => hn (.inl hc)
      have hI := (hO.2.2.2.2 f hf').2 x hx
      have ha : 0 ≤ x.a := by
        rcases hI with hI | hI | hI | hI <;> omega
      refine ⟨ha, ?_⟩
      unfold refsFault at h2
      split at h2
      · obtain ⟨j, hj⟩ := List.getElem?_of_mem hf'
        have h3 := scan_no h2 j f hj
        unfold callFault at h3
        split at h3
        · cases h3
        · rename_i hb
          by_cases hlt : x.a < (p.obj.refs.length : Int)
          · exact hlt
          · refine absurd (List.any_eq_true.2 ⟨x, hx, ?_⟩) hb
            simp [badCall, hop]
            omega
      · rename_i hne; exact absurd h2 hne
    · rename_i hne; exact absurd h hne
/-- An instruction in an image. -/
def moveIns (l : List LinkPart) (p : LinkPart) (x : CodeIns) : CodeIns := if x.op = 8 then (match p.obj.refs[x.a.toNat]? with
  | some r => ⟨x.op, (linkFind l (if r.mod = ⟨#[]⟩ then p.name else r.mod) r.name).1⟩
  | none => x) else x
def moveFun (l : List LinkPart) (p : LinkPart) (f : CodeFun) : LinkFun := ⟨p.name, f.name, f.args, f.type, f.slots, f.code.map (moveIns l p)⟩
def dn (l : List LinkPart) (i : Nat) : List LinkFun := (l.take i).flatMap fun p => p.obj.funs.map (moveFun l p)
def mIdx : Nat → List LinkFun → List Int
  | _, [] => []
  | n, f :: fs => (if f.name = mainW then [(n : Int)] else []) ++ mIdx (n + 1) fs
theorem mIdx_app : ∀ (a b : List LinkFun) (n : Nat), mIdx n (a ++ b) = mIdx n a ++ mIdx (n + a.length) b
  | [], b, n => rfl
  | f :: a, b, n => by
    rw [List.cons_append, mIdx, mIdx, mIdx_app a b, List.append_assoc, List.length_cons]
    congr 3
    omega
theorem mIdx_len : ∀ (a : List LinkFun) (n : Nat), (mIdx n a).length ≤ a.length
  | [], _ => Nat.le_refl _
  | f :: a, n => by
    have := mIdx_len a (n + 1)
    rw [mIdx, List.length_append, List.length_cons]
    split <;> simp <;> omega
theorem dn_next {l : List LinkPart} {i : Nat} {p : LinkPart} (h : l[i]? = some p) : dn l (i + 1) = dn l i ++ p.obj.funs.map (moveFun l p) := by
  unfold dn
  rw [take_next' h, List.flatMap_append]
  simp
theorem dn_len {l : List LinkPart} : ∀ {i : Nat}, i ≤ l.length → (dn l i).length = baseOf l i
  | 0, _ => by simp [dn, baseOf, totS]
  | i + 1, h => by
    have hx : l[i]? = some (l[i]'(by omega)) := List.getElem?_eq_getElem (by omega)
    rw [dn_next hx, base_next hx, List.length_append, dn_len (by omega), List.length_map]
theorem dn_all (l : List LinkPart) : dn l l.length = l.flatMap fun p => p.obj.funs.map (moveFun l p) := by rw [dn, List.take_length]
theorem nil_of {α : Type} {esz : Nat} {P : List V → α → Prop} {σ : Heap} {v : V} {l : List α} (h : RepS esz P σ v l) : (v = .nils ∧ l = [] ∧ nilS v = some true) ∨ nilS v = some false := by
  cases h with
  | nils => exact .inl ⟨rfl, rfl, rfl⟩
  | emp => exact .inr rfl
  | sl => exact .inr rfl
theorem cloneInt_ends {σ : Heap} {v : V} {l : List Int} (h : RepS 1 IntRep σ v l) (hl : l.length ≤ 1048576) :
    ∃ v' σ' R, Runs G n_slices_Clone_int_int [v] σ v' σ' ∧ Lh σ σ' ∧ RepR 1 (RInt σ') σ' v' l R ∧ R.Nodup ∧ ∀ j, j ∈ R → σ.length ≤ j := by
  have e46 : (2 : Nat) ^ 46 = 70368744177664 := by decide
  suffices hE : HM.Ends G n_slices_Clone_int_int [v] σ (fun v' σ' => ∃ R, Lh σ σ' ∧ RepR 1 (RInt σ') σ' v' l R ∧ R.Nodup ∧ ∀ j, j ∈ R → σ.length ≤ j) by
    obtain ⟨v', σ', ⟨R, hp⟩, hr⟩ := hE
    exact ⟨v', σ', R, hr, hp⟩
  refine HM.Ends.mk (W.to (fun k _ => slices_Clone_int_int.eq k _ _) ?_)
  rcases nil_of h with ⟨rfl, rfl, hn⟩ | hn
  · refine W.bind hn ?_
    try simp only [q_bind_some, castInt_int, q_castBool, q_castStr, q_castPtr, q_castFn, q_castAgg, q_castTuple, q_uncons, q_isNil, q_sl, q_nils, q_emp, q_ptr, q_nilp, q_fn, q_cond_true, q_cond_false, Bool.not_true, Bool.not_false, decide_true, decide_false, List.cons_append, List.nil_append]
    exact W.ret ⟨[], Lh.refl _, .nils, List.nodup_nil, fun j hj => by cases hj⟩
  · refine W.bind hn ?_
    try simp only [q_bind_some, castInt_int, q_castBool, q_castStr, q_castPtr, q_castFn, q_castAgg, q_castTuple, q_uncons, q_isNil, q_sl, q_nils, q_emp, q_ptr, q_nilp, q_fn, q_cond_true, q_cond_false, Bool.not_true, Bool.not_false, decide_true, decide_false, List.cons_append, List.nil_append]
    obtain ⟨cs, v', σ', R, c1, c2, c3, c4, _, c6, c7, _⟩ := clone_ok (bytes := 8) h (by omega) (by omega)
    refine W.bind c1 (W.bind c2 ?_)
    exact W.ret ⟨R, c3, c4.keep (fun _ _ => rfl) fun cs x R h _ => h, c6, c7⟩
theorem cloneIns_ends {σ : Heap} {v : V} {l : List CodeIns} (h : RepS 2 (CodeIns.Rep σ) σ v l) (hl : l.length ≤ 1048576) :
    ∃ v' σ' R, Runs G n_slices_Clone_impl_CodeIns_impl_CodeIns [v] σ v' σ' ∧ Lh σ σ' ∧ RepR 2 (RCodeIns σ') σ' v' l R ∧ R.Nodup ∧ ∀ j, j ∈ R → σ.length ≤ j := by
  have e46 : (2 : Nat) ^ 46 = 70368744177664 := by decide
  suffices hE : HM.Ends G n_slices_Clone_impl_CodeIns_impl_CodeIns [v] σ (fun v' σ' => ∃ R, Lh σ σ' ∧ RepR 2 (RCodeIns σ') σ' v' l R ∧ R.Nodup ∧ ∀ j, j ∈ R → σ.length ≤ j) by
    obtain ⟨v', σ', ⟨R, hp⟩, hr⟩ := hE
    exact ⟨v', σ', R, hr, hp⟩
  refine HM.Ends.mk (W.to (fun k _ => slices_Clone_impl_CodeIns_impl_CodeIns.eq k _ _) ?_)
  rcases nil_of h with ⟨rfl, rfl, hn⟩ | hn
  · refine W.bind hn ?_
    try simp only [q_bind_some, castInt_int, q_castBool, q_castStr, q_castPtr, q_castFn, q_castAgg, q_castTuple, q_uncons, q_isNil, q_sl, q_nils, q_emp, q_ptr, q_nilp, q_fn, q_cond_true, q_cond_false, Bool.not_true, Bool.not_false, decide_true, decide_false, List.cons_append, List.nil_append]
    exact W.ret ⟨[], Lh.refl _, .nils, List.nodup_nil, fun j hj => by cases hj⟩
  · refine W.bind hn ?_
    try simp only [q_bind_some, castInt_int, q_castBool, q_castStr, q_castPtr, q_castFn, q_castAgg, q_castTuple, q_uncons, q_isNil, q_sl, q_nils, q_emp, q_ptr, q_nilp, q_fn, q_cond_true, q_cond_false, Bool.not_true, Bool.not_false, decide_true, decide_false, List.cons_append, List.nil_append]
    obtain ⟨cs, v', σ', R, c1, c2, c3, c4, _, c6, c7, _⟩ := clone_ok (bytes := 16) h (by omega) (by omega)
    refine W.bind c1 (W.bind c2 ?_)
    exact W.ret ⟨R, c3, c4.keep (fun _ _ => rfl) fun cs x R h _ => by
      obtain ⟨h1, h2⟩ := h
      cases h1
      exact ⟨rfl, h2⟩, c6, c7⟩
def mvTo (l : List LinkPart) (p : LinkPart) (code : List CodeIns) (i : Nat) : List CodeIns := code.mapIdx fun j x => if j < i then moveIns l p x else x
theorem mvTo_at {l : List LinkPart} {p : LinkPart} {code : List CodeIns} {i : Nat} {x : CodeIns} (h : code[i]? = some x) : (mvTo l p code i)[i]? = some x := by
  rw [mvTo, List.getElem?_mapIdx, h]
  simp
theorem mvTo_next {l : List LinkPart} {p : LinkPart} {code : List CodeIns} {i : Nat} {x : CodeIns} (h : code[i]? = some x) : mvTo l p code (i + 1) = (mvTo l p code i).set i (moveIns l p x) := by
  apply List.ext_getElem?
  intro j
  rw [List.getElem?_set, mvTo, mvTo, List.getElem?_mapIdx, List.getElem?_mapIdx]
  by_cases hij : i = j
  · subst hij
    rw [if_pos rfl, if_pos (by simpa using lt_of_get h), h]
    simp
  · rw [if_neg hij]
    congr 1
    funext y
    by_cases h1 : j < i
    · rw [if_pos h1, if_pos (by omega)]
    · rw [if_neg h1, if_neg (by omega)]
theorem mvTo_zero (l : List LinkPart) (p : LinkPart) (code : List CodeIns) : mvTo l p code 0 = code := by
  apply List.ext_getElem?
  intro j
  rw [mvTo, List.getElem?_mapIdx]
  simp
theorem mvTo_all (l : List LinkPart) (p : LinkPart) (code : List CodeIns) : mvTo l p code code.length = code.map (moveIns l p) := by
  apply List.ext_getElem?
  intro j
  rw [mvTo, List.getElem?_mapIdx, List.getElem?_map]
  cases h : code[j]? with
  | none => rfl
  | some x => simp [lt_of_get h]
theorem set_same {α : Type} {l : List α} {i : Nat} {x : α} (h : l[i]? = some x) : l.set i x = l := by
  apply List.ext_getElem?
  intro j
  rw [List.getElem?_set]
  split
  · rename_i hij
    subst hij
    rw [if_pos (lt_of_get h), h]
  · rfl
theorem linked_ends {σ : Heap} {v : V} {l : List LinkPart} (ht : l.length + totS LinkPart.total l ≤ 1048576) (h : RepS 3 (LinkPart.Rep σ) σ v l) {p : LinkPart} {b0 b1 : V} (hr0 : RepS 2 (CodeRef.Rep σ) σ b0 p.obj.refs)
    {c : V} {code : List CodeIns} (hc : RepS 2 (CodeIns.Rep σ) σ c code) (hok : ∀ x, x ∈ code → x.op = 8 → 0 ≤ x.a ∧ x.a < (p.obj.refs.length : Int)) (hlen : code.length ≤ 1048576) :
    ∃ v' σ' R, Runs G n_impl_linked [v, .agg [.str p.name, b0, b1], c] σ v' σ' ∧ Lh σ σ' ∧ RepR 2 (RCodeIns σ') σ' v' (code.map (moveIns l p)) R ∧ R.Nodup ∧ ∀ j, j ∈ R → σ.length ≤ j := by
  obtain ⟨v', σ1, R, c1, l1, hR, hn, hb⟩ := cloneIns_ends hc hlen
  suffices hE : HM.Ends G n_impl_linked [v, .agg [.str p.name, b0, b1], c] σ (fun w σ' => w = v' ∧ Lh σ σ' ∧ RepR 2 (RCodeIns σ') σ' v' (code.map (moveIns l p)) R) by
    obtain ⟨w, σ', ⟨rfl, hp⟩, hr⟩ := hE
    exact ⟨w, σ', R, hr, hp.1, hp.2, hn, hb⟩
  refine HM.Ends.mk (W.to (fun k _ => impl_linked.eq k _ _ _ _ _ _) ?_)
  refine W.run c1 ?_
  have hv1 : vlen v' = some code.length := (hR.rep fun cs x R _ h => RCodeIns.rep cs x R h).vlen
  refine W.bind hv1 ?_
  refine W.loop (S := Nat × Heap) (fun s => s.1 ≤ code.length ∧ Lh σ s.2 ∧ RepR 2 (RCodeIns s.2) s.2 v' (mvTo l p code s.1) R)
    (fun s => [.v v, .box [.str p.name, b0, b1], .v v', .v v', .v (.int .i64 (code.length : Int)), .v (.int .i64 (s.1 : Int))]) (fun s => s.2) (fun s => code.length - s.1) (fun ⟨i, σi⟩ ⟨hi, hle, hRi⟩ => ?_)
    (0, σ1) ⟨Nat.zero_le _, l1, by rw [mvTo_zero]; exact hR⟩
  simp only at hi hle hRi ⊢
  refine W.to (fun k _ => by rw [impl_linked.L0_step]) ?_
  refine B.ite (fun hlt => ?_) fun hlt => ?_
  rotate_left
  · obtain rfl : i = code.length := by omega
    try simp only [q_bind_some, castInt_int, q_castBool, q_castStr, q_castPtr, q_castFn, q_castAgg, q_castTuple, q_uncons, q_isNil, q_sl, q_nils, q_emp, q_ptr, q_nilp, q_fn, q_cond_true, q_cond_false, Bool.not_true, Bool.not_false, decide_true, decide_false, List.cons_append, List.nil_append, impl_linked.A0_x0]
    rw [mvTo_all] at hRi
    exact W.ret ⟨rfl, hle, hRi⟩
  have hil : i < code.length := by omega
  have hx : code[i]? = some code[i] := List.getElem?_eq_getElem hil
  have hxm : code[i] ∈ code := List.getElem_mem hil
  generalize code[i] = x at hx hxm
  have hnext := wrap_next hil (by omega)
  obtain ⟨r, o, hv, cs, hr, hP⟩ := (hRi.rep fun cs x R _ h => RCodeIns.rep (σ := σi) cs x R h).at' (mvTo_at hx)
  cases hP with
  | mk =>
  try simp only [q_bind_some, castInt_int, q_castBool, q_castStr, q_castPtr, q_castFn, q_castAgg, q_castTuple, q_uncons, q_isNil, q_sl, q_nils, q_emp, q_ptr, q_nilp, q_fn, q_cond_true, q_cond_false, Bool.not_true, Bool.not_false, decide_true, decide_false, List.cons_append, List.nil_append, hv, hr]
  by_cases hop : x.op = 8
  rotate_left
  · try simp only [q_bind_some, castInt_int, q_castBool, q_castStr, q_castPtr, q_castFn, q_castAgg, q_castTuple, q_uncons, q_isNil, q_sl, q_nils, q_emp, q_ptr, q_nilp, q_fn, q_cond_true, q_cond_false, Bool.not_true, Bool.not_false, decide_true, decide_false, List.cons_append, List.nil_append, decide_eq_false hop]
    have hm : moveIns l p x = x := by rw [moveIns, if_neg hop]
    refine W.again (i + 1, σi) ⟨by show i + 1 ≤ code.length; omega, hle, ?_⟩ (by simp only; omega) (by rw [hnext]) rfl
    show RepR 2 (RCodeIns σi) σi v' (mvTo l p code (i + 1)) R
    rw [mvTo_next hx, hm, set_same (mvTo_at hx)]
    exact hRi
  · obtain ⟨ha0, ha1⟩ := hok x hxm hop
    try simp only [q_bind_some, castInt_int, q_castBool, q_castStr, q_castPtr, q_castFn, q_castAgg, q_castTuple, q_uncons, q_isNil, q_sl, q_nils, q_emp, q_ptr, q_nilp, q_fn, q_cond_true, q_cond_false, Bool.not_true, Bool.not_false, decide_true, decide_false, List.cons_append, List.nil_append, decide_eq_true hop]
    obtain ⟨a, ha⟩ : ∃ a : Nat, x.a = (a : Int) := ⟨x.a.toNat, by omega⟩
    have hal : a < p.obj.refs.length := by omega
    have hrf : p.obj.refs[a]? = some p.obj.refs[a] := List.getElem?_eq_getElem hal
    generalize p.obj.refs[a] = rf at hrf
    obtain ⟨r2, o2, hv2, cs2, hr2, hP2⟩ := (hr0.mono hle fun cs x _ h => CodeRef.Rep.le hle h).at' hrf
    cases hP2 with
    | mk =>
    have e1 : x.a.toNat = a := by omega
    have hmv : moveIns l p x = ⟨x.op, (linkFind l (if rf.mod = ⟨#[]⟩ then p.name else rf.mod) rf.name).1⟩ := by
      rw [moveIns, if_pos hop, e1, hrf]
    rw [ha]
    try simp only [q_bind_some, castInt_int, q_castBool, q_castStr, q_castPtr, q_castFn, q_castAgg, q_castTuple, q_uncons, q_isNil, q_sl, q_nils, q_emp, q_ptr, q_nilp, q_fn, q_cond_true, q_cond_false, Bool.not_true, Bool.not_false, decide_true, decide_false, List.cons_append, List.nil_append, hv2, hr2]
    have fin : ∀ (md : ByteArray), md = (if rf.mod = ⟨#[]⟩ then p.name else rf.mod) → ∃ σ2, Lh σi σ2 ∧ Runs G n_impl_LinkFind [v, .str md, .str rf.name] σi (.tuple [.int .i64 (linkFind l md rf.name).1, .bool (linkFind l md rf.name).2]) σ2 ∧
        ∃ σ3, wrc σ2 r (o + 1) [.int .i64 (linkFind l md rf.name).1] = some σ3 ∧ Lh σ σ3 ∧ RepR 2 (RCodeIns σ3) σ3 v' (mvTo l p code (i + 1)) R := by
      intro md hmd
      obtain ⟨σ2, l2, c2⟩ := implLinkFind_gives ht (h.mono hle fun cs x _ h => LinkPart.Rep.le hle h) md rf.name
      refine ⟨σ2, l2, c2, ?_⟩
      obtain ⟨r', o', σ3, k1, k2, k3, k4, k5, k6⟩ := (hRi.flatLe l2).put (fun cs x R h => h.2) (mvTo_at hx) (off := 1) (ys := [.int .i64 (linkFind l md rf.name).1]) (y := moveIns l p x) (by simp) (fun cs h => by
        obtain ⟨rfl, _⟩ := h
        refine ⟨?_, rfl⟩
        rw [hmv, hmd]
        rfl)
      rw [hv] at k1
      injection k1 with k1
      injection k1 with q1 q2
      subst q1 q2
      refine ⟨σ3, k3, ⟨by rw [k5]; exact (hle.trans l2).len, fun j row hj => ?_⟩, by rw [mvTo_next hx]; exact k4⟩
      have := get_lt hj
      have := hb r k2
      rw [k6 j (by omega)]
      exact (hle.trans l2).row _ _ hj
    by_cases hm : rf.mod = ⟨#[]⟩
    · obtain ⟨σ2, l2, c2, σ3, k2, k3, k4⟩ := fin p.name (by rw [if_pos hm])
      try simp only [q_bind_some, castInt_int, q_castBool, q_castStr, q_castPtr, q_castFn, q_castAgg, q_castTuple, q_uncons, q_isNil, q_sl, q_nils, q_emp, q_ptr, q_nilp, q_fn, q_cond_true, q_cond_false, Bool.not_true, Bool.not_false, decide_true, decide_false, List.cons_append, List.nil_append, decide_eq_true hm]
      refine B.run c2 ?_
      try simp only [q_bind_some, castInt_int, q_castBool, q_castStr, q_castPtr, q_castFn, q_castAgg, q_castTuple, q_uncons, q_isNil, q_sl, q_nils, q_emp, q_ptr, q_nilp, q_fn, q_cond_true, q_cond_false, Bool.not_true, Bool.not_false, decide_true, decide_false, List.cons_append, List.nil_append, k2]
      exact W.again (i + 1, σ3) ⟨by show i + 1 ≤ code.length; omega, k3, k4⟩ (by simp only; omega) (by rw [hnext]) rfl
    · obtain ⟨σ2, l2, c2, σ3, k2, k3, k4⟩ := fin rf.mod (by rw [if_neg hm])
      try simp only [q_bind_some, castInt_int, q_castBool, q_castStr, q_castPtr, q_castFn, q_castAgg, q_castTuple, q_uncons, q_isNil, q_sl, q_nils, q_emp, q_ptr, q_nilp, q_fn, q_cond_true, q_cond_false, Bool.not_true, Bool.not_false, decide_true, decide_false, List.cons_append, List.nil_append, decide_eq_false hm]
      refine B.run c2 ?_
      try simp only [q_bind_some, castInt_int, q_castBool, q_castStr, q_castPtr, q_castFn, q_castAgg, q_castTuple, q_uncons, q_isNil, q_sl, q_nils, q_emp, q_ptr, q_nilp, q_fn, q_cond_true, q_cond_false, Bool.not_true, Bool.not_false, decide_true, decide_false, List.cons_append, List.nil_append, k2]
      exact W.again (i + 1, σ3) ⟨by show i + 1 ≤ code.length; omega, k3, k4⟩ (by simp only; omega) (by rw [hnext]) rfl
end Go.B
