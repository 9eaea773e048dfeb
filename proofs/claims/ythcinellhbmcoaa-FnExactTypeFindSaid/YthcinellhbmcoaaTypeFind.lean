/- TypeFind of both. -/
import Derived.Test.YthcinellhbmcoaaRwF
import Derived.Test.YthcinellhbmcoaaN
set_option linter.unusedVariables false
set_option linter.unusedSimpArgs false
namespace Go.X
open Go.HM Go.Proofs
/-- A list of numbers in a row of one's own. -/
structure Ow (σ σi : Heap) (v : V) (l : List Int) (R : List Nat) : Prop where
  r : RepR 1 (RInt σi) σi v l R
  a : At0 v
  nd : R.Nodup
  lo : ∀ j, j ∈ R → σ.length ≤ j
  le : Lh σ σi
theorem Ow.nils (σ : Heap) : Ow σ σ .nils [] [] := ⟨.nils, .inl rfl, List.nodup_nil, fun j hj => (List.not_mem_nil hj).elim, Lh.refl _⟩
theorem Ow.start (σ : Heap) : Ow σ (hnew σ 1 []) (.sl σ.length 0 0 true) [] [σ.length] :=
  ⟨.sl σ.length 0 0 true ⟨[], 1, false, 0⟩ [] [] rfl (by simp [hnew]) rfl rfl (by simp) rfl fun i x R hx => by simp at hx, .inr ⟨_, _, _, rfl⟩, by simp, fun j hj => by simp at hj; omega, Lh.new _ _ _⟩
theorem Ow.up {σ σi σ' : Heap} {v : V} {l : List Int} {R : List Nat} (h : Ow σ σi v l R) (hl : Lh σi σ') : Ow σ σ' v l R := ⟨h.r.le hl fun cs x R hq => hq, h.a, h.nd, h.lo, h.le.trans hl⟩
theorem Ow.down {σ0 σ σi : Heap} {v : V} {l : List Int} {R : List Nat} (h : Ow σ σi v l R) (h0 : Lh σ0 σ) : Ow σ0 σi v l R := ⟨h.r, h.a, h.nd, fun j hj => by have := h.lo j hj; have := h0.len; omega, h0.trans h.le⟩
theorem Ow.rep {σ σi : Heap} {v : V} {l : List Int} {R : List Nat} (h : Ow σ σi v l R) : RepS 1 IntRep σi v l := h.r.rep fun cs x R _ hq => RInt.rep cs x R hq
theorem Ow.add {σ σi : Heap} {v : V} {l : List Int} {R : List Nat} (h : Ow σ σi v l R) (n : Int) (hl : l.length ≤ 1048576) :
    ∃ v' σ' R', vappend 1 8 σi v 1 [.int .i64 n] = some (v', σ') ∧ Ow σ σ' v' (l ++ [n]) R' := by
  obtain ⟨v', σ', R', g1, g2, g3, g4, g5, g6, g7⟩ := h.r.app (bytes := 8) h.a (cs := [.int .i64 n]) (x := n) (Rx := []) ⟨rfl, rfl⟩ rfl (fun cs x R hq hk => RInt.keep cs x R hq hk) (fun cs x R hq => RInt.lt cs x R hq) (by simpa using h.nd) (by omega) (by omega)
  have hlen := h.le.len
  refine ⟨v', σ', R', g1, g2, g3, g4, fun j hj => ?_, ⟨by rw [g6]; omega, fun j row hj => ?_⟩⟩
  · rcases g5 j hj with hj | hj | hj
    · omega
    · exact h.lo j hj
    · cases hj
  · have hjl := get_lt hj
    rw [g7 j (by omega) fun hc => by have := h.lo j hc; omega]
    exact h.le.row _ _ hj
def sigOf (f : TreeFun) : FaceSig := ⟨f.name, f.args.map (·.type), f.type⟩
def noSig : FaceSig := ⟨⟨#[]⟩, [], 0⟩
noncomputable def findSig (m : TreeMod) (l : List TypeFace) (mod name : ByteArray) : FaceSig × Bool :=
  if mod = (⟨#[]⟩ : ByteArray) then (match m.funs.find? (fun f => decide (f.name = name)) with
    | some f => (sigOf f, true)
    | none => (noSig, false))
  else if mod ∈ m.uses then (match l.find? (fun f => decide (f.mod = mod)) with
    | some f => (match f.sigs.find? (fun s => decide (s.name = name)) with
      | some s => (s, true)
      | none => (noSig, false))
    | none => (noSig, false))
  else (noSig, false)
section
variable {m : TreeMod} {l : List TypeFace} {mod name : ByteArray}
theorem fs_own_some (h : mod = (⟨#[]⟩ : ByteArray)) {f : TreeFun} (hf : m.funs.find? (fun f => decide (f.name = name)) = some f) : findSig m l mod name = (sigOf f, true) := by unfold findSig; rw [if_pos h, hf]
theorem fs_own_none (h : mod = (⟨#[]⟩ : ByteArray)) (hf : m.funs.find? (fun f => decide (f.name = name)) = none) : findSig m l mod name = (noSig, false) := by unfold findSig; rw [if_pos h, hf]
theorem fs_no_use (h : ¬ mod = (⟨#[]⟩ : ByteArray)) (hu : mod ∉ m.uses) : findSig m l mod name = (noSig, false) := by unfold findSig; rw [if_neg h, if_neg hu]
theorem fs_no_face (h : ¬ mod = (⟨#[]⟩ : ByteArray)) (hf : l.find? (fun f => decide (f.mod = mod)) = none) : findSig m l mod name = (noSig, false) := by unfold findSig; rw [if_neg h, hf]; split <;> rfl
theorem fs_no_sig (h : ¬ mod = (⟨#[]⟩ : ByteArray)) {x : TypeFace} (hf : l.find? (fun f => decide (f.mod = mod)) = some x) (hs : x.sigs.find? (fun s => decide (s.name = name)) = none) : findSig m l mod name = (noSig, false) := by unfold findSig; rw [if_neg h, hf]; simp only; rw [hs]; split <;> rfl
theorem fs_sig (h : ¬ mod = (⟨#[]⟩ : ByteArray)) (hu : mod ∈ m.uses) {x : TypeFace} (hf : l.find? (fun f => decide (f.mod = mod)) = some x) {s : FaceSig} (hs : x.sigs.find? (fun s => decide (s.name = name)) = some s) : findSig m l mod name = (s, true) := by unfold findSig; rw [if_neg h, if_pos hu, hf]; simp only; rw [hs]
end
def SigP (σ : Heap) (s : FaceSig) (w : V) (σ' : Heap) : Prop := ∃ av R, w = .agg [.str s.name, av, .int .i64 s.type] ∧ Ow σ σ' av s.args R
def FindP (σ : Heap) (p : FaceSig × Bool) (w : V) (σ' : Heap) : Prop := ∃ av R, w = .tuple [.agg [.str p.1.name, av, .int .i64 p.1.type], .bool p.2] ∧ Ow σ σ' av p.1.args R
theorem FindP.none {σ σ' : Heap} (h : Lh σ σ') : FindP σ (noSig, false) (.tuple [.agg [.str (⟨#[]⟩ : ByteArray), .nils, .int .i64 0], .bool false]) σ' := ⟨.nils, [], rfl, (Ow.nils σ').down h⟩
theorem find_at {α : Type} {p : α → Bool} : ∀ {l : List α} {i : Nat} {x : α}, l[i]? = some x → p x = true → (∀ (j : Nat) y, j < i → l[j]? = some y → p y = false) → l.find? p = some x
  | y :: l, 0, x, h, hp, _ => by simp at h; subst h; simp [hp]
  | y :: l, i + 1, x, h, hp, ho => by
    have h0 := ho 0 y (by omega) rfl
    rw [List.find?_cons, h0]
    exact find_at (by simpa using h) hp fun j z hj hz => ho (j + 1) z (by omega) (by simpa using hz)
theorem find_no {α : Type} {p : α → Bool} {l : List α} (h : ∀ (j : Nat) y, l[j]? = some y → p y = false) : l.find? p = none := by
  rw [List.find?_eq_none]
  intro x hx
  obtain ⟨i, hi⟩ := List.getElem?_of_mem hx
  simp [h i x hi]
theorem argTypes_ends {σ : Heap} {v : V} {l : List TreeArg} (hf : l.length ≤ 1048576) (h : RepS 2 (TreeArg.Rep σ) σ v l) : HM.Ends G n_impl_argTypes [v] σ (fun w σ' => ∃ R, Ow σ σ' w (l.map (·.type)) R) := by
  refine HM.Ends.mk (W.to (fun k _ => impl_argTypes.eq k _ _) ?_)
  refine W.len h ?_
  refine W.loop (S := Nat × V × Heap × List Nat) (fun s => s.1 ≤ l.length ∧ Ow σ s.2.2.1 s.2.1 ((l.take s.1).map (·.type)) s.2.2.2) (fun s => [.v s.2.1, .v v, .v (.int .i64 (l.length : Int)), .v (.int .i64 (s.1 : Int))]) (fun s => s.2.2.1) (fun s => l.length - s.1)
    (fun ⟨i, vi, σi, Ri⟩ ⟨hi, hO⟩ => ?_) (0, .sl σ.length 0 0 true, hnew σ 1 [], [σ.length]) ⟨Nat.zero_le _, Ow.start σ⟩
  simp only at hi hO ⊢
  refine W.to (fun k _ => by rw [impl_argTypes.L0_step]) ?_
  refine B.ite (fun hlt => ?_) fun hlt => ?_
  · have hil : i < l.length := by omega
    have hx : l[i]? = some l[i] := List.getElem?_eq_getElem hil
    generalize l[i] = x at hx
    obtain ⟨r, o, hv, cs, hr, hP⟩ := h.at' hx
    have hr' := hO.le.rdc hr
    cases hP with
    | mk =>
    obtain ⟨v', σ', R', c1, c2⟩ := hO.add x.type (by rw [List.length_map, List.length_take]; omega)
    try simp only [q_bind_some, castInt_int, q_castBool, q_castStr, q_castPtr, q_castFn, q_castAgg, q_castTuple, q_uncons, q_isNil, q_sl, q_nils, q_emp, q_ptr, q_nilp, q_fn, q_cond_true, q_cond_false, Bool.not_true, Bool.not_false, decide_true, decide_false, List.cons_append, List.nil_append, hv, hr', c1, wrap_next hil (by omega)]
    exact W.again (i + 1, v', σ', R') ⟨by show i + 1 ≤ l.length; omega, by rw [take_next' hx, List.map_append]; exact c2⟩ (by simp only; omega) rfl rfl
  · obtain rfl : i = l.length := by omega
    rw [List.take_length] at hO
    try simp only [q_bind_some, castInt_int, q_castBool, q_castStr, q_castPtr, q_castFn, q_castAgg, q_castTuple, q_uncons, q_isNil, q_sl, q_nils, q_emp, q_ptr, q_nilp, q_fn, q_cond_true, q_cond_false, Bool.not_true, Bool.not_false, decide_true, decide_false, List.cons_append, List.nil_append, impl_argTypes.A0_x0]
    exact W.ret ⟨Ri, hO⟩
theorem implSig_ends {σ : Heap} {f : TreeFun} (hf : f.args.length ≤ 1048576) {cs : List V} (h : TreeFun.Rep σ cs f) : HM.Ends G n_impl_TreeFun_sig [.agg cs] σ (SigP σ (sigOf f)) := by
  cases h with
  | mk h1 h2 =>
  refine HM.Ends.mk (W.to (fun k _ => impl_TreeFun_sig.eq k _ _ _ _ _ _ _ _ _ _) ?_)
  refine W.call (argTypes_ends hf h1) ?_
  rintro w σ' ⟨R, hO⟩
  try simp only [q_bind_some, castInt_int, q_castBool, q_castStr, q_castPtr, q_castFn, q_castAgg, q_castTuple, q_uncons, q_isNil, q_sl, q_nils, q_emp, q_ptr, q_nilp, q_fn, q_cond_true, q_cond_false, Bool.not_true, Bool.not_false, decide_true, decide_false, List.cons_append, List.nil_append, one_sl' hO.r.isSl]
  exact W.ret ⟨w, R, rfl, hO⟩
theorem specSig_ends {σ : Heap} {f : TreeFun} (hf : f.args.length ≤ 1048576) {cs : List V} (h : TreeFun.Rep σ cs f) : HM.Ends G n_spec_l3Of [.agg cs] σ (SigP σ (sigOf f)) := by
  cases h with
  | mk h1 h2 =>
  rename_i a0 a1
  refine HM.Ends.mk (W.to (fun k _ => spec_l3Of.eq k _ _ _ _ _ _ _ _ _ _) ?_)
  refine W.loop (S := Nat × V × Heap × List Nat) (fun s => s.1 ≤ f.args.length ∧ Ow σ s.2.2.1 s.2.1 ((f.args.take s.1).map (·.type)) s.2.2.2)
    (fun s => [.box [.str f.name, .bool f.pub, a0, .int .i64 f.type, .int .i64 f.body.kind, .int .i64 f.body.num, .str f.body.name, .str f.body.mod, a1], .box [.str (⟨#[]⟩ : ByteArray), .nils, .int .i64 0], .box [.str f.name, s.2.1, .int .i64 f.type], .v (.int .i64 (s.1 : Int))]) (fun s => s.2.2.1) (fun s => f.args.length - s.1)
    (fun ⟨i, vi, σi, Ri⟩ ⟨hi, hO⟩ => ?_) (0, .nils, σ, []) ⟨Nat.zero_le _, Ow.nils σ⟩
  simp only at hi hO ⊢
  refine W.to (fun k _ => by rw [spec_l3Of.L0_step]) ?_
  refine B.len h1 (B.ite (fun hlt => ?_) fun hlt => ?_)
  · have hil : i < f.args.length := by omega
    have hx : f.args[i]? = some f.args[i] := List.getElem?_eq_getElem hil
    generalize f.args[i] = x at hx
    obtain ⟨r, o, hv, cs, hr, hP⟩ := h1.at' hx
    have hr' := hO.le.rdc hr
    cases hP with
    | mk =>
    have e1 : rdc σi r (o + 1) 1 = some [.int .i64 x.type] := rdc_sub hr' 1 1 (by omega)
    obtain ⟨v', σ', R', c1, c2⟩ := hO.add x.type (by rw [List.length_map, List.length_take]; omega)
    try simp only [q_bind_some, castInt_int, q_castBool, q_castStr, q_castPtr, q_castFn, q_castAgg, q_castTuple, q_uncons, q_isNil, q_sl, q_nils, q_emp, q_ptr, q_nilp, q_fn, q_cond_true, q_cond_false, Bool.not_true, Bool.not_false, decide_true, decide_false, List.cons_append, List.nil_append, hv, e1, c1, one_sl' c2.r.isSl, wrap_next hil (by omega)]
    exact W.again (i + 1, v', σ', R') ⟨by show i + 1 ≤ f.args.length; omega, by rw [take_next' hx, List.map_append]; exact c2⟩ (by simp only; omega) rfl rfl
  · obtain rfl : i = f.args.length := by omega
    rw [List.take_length] at hO
    try simp only [q_bind_some, castInt_int, q_castBool, q_castStr, q_castPtr, q_castFn, q_castAgg, q_castTuple, q_uncons, q_isNil, q_sl, q_nils, q_emp, q_ptr, q_nilp, q_fn, q_cond_true, q_cond_false, Bool.not_true, Bool.not_false, decide_true, decide_false, List.cons_append, List.nil_append, spec_l3Of.A0_x0]
    exact W.ret ⟨vi, Ri, rfl, hO⟩
theorem nil_of {α : Type} {esz : Nat} {P : List V → α → Prop} {σ : Heap} {v : V} {l : List α} (h : RepS esz P σ v l) : (v = .nils ∧ l = [] ∧ nilS v = some true) ∨ nilS v = some false := by
  cases h with
  | nils => exact .inl ⟨rfl, rfl, rfl⟩
  | emp => exact .inr rfl
  | sl => exact .inr rfl
theorem cloneI_ends {σ : Heap} {v : V} {l : List Int} (h : RepS 1 IntRep σ v l) (hl : l.length ≤ 1048576) : HM.Ends G n_slices_Clone_int_int [v] σ (fun w σ' => ∃ R, Ow σ σ' w l R) := by
  have e46 : (2 : Nat) ^ 46 = 70368744177664 := by decide
  refine HM.Ends.mk (W.to (fun k _ => slices_Clone_int_int.eq k _ _) ?_)
  rcases nil_of h with ⟨rfl, rfl, hn⟩ | hn
  · refine W.bind hn ?_
    try simp only [q_bind_some, castInt_int, q_castBool, q_castStr, q_castPtr, q_castFn, q_castAgg, q_castTuple, q_uncons, q_isNil, q_sl, q_nils, q_emp, q_ptr, q_nilp, q_fn, q_cond_true, q_cond_false, Bool.not_true, Bool.not_false, decide_true, decide_false, List.cons_append, List.nil_append]
    exact W.ret ⟨[], Ow.nils σ⟩
  · refine W.bind hn ?_
    try simp only [q_bind_some, castInt_int, q_castBool, q_castStr, q_castPtr, q_castFn, q_castAgg, q_castTuple, q_uncons, q_isNil, q_sl, q_nils, q_emp, q_ptr, q_nilp, q_fn, q_cond_true, q_cond_false, Bool.not_true, Bool.not_false, decide_true, decide_false, List.cons_append, List.nil_append]
    obtain ⟨cs, v', σ', R, c1, c2, c3, c4, c5, c6, c7, _⟩ := clone_ok (bytes := 8) h (by omega) (by omega)
    refine W.bind c1 (W.bind c2 ?_)
    exact W.ret ⟨R, c4.keep (fun _ _ => rfl) fun cs x R h _ => h, c5, c6, c7, c3⟩
theorem cloneSig_ends {σ : Heap} {s : FaceSig} (hl : s.args.length ≤ 1048576) {cs : List V} (h : FaceSig.Rep σ cs s) : HM.Ends G n_impl_cloneSig [.agg cs] σ (SigP σ s) := by
  cases h with
  | mk h1 =>
  refine HM.Ends.mk (W.to (fun k _ => impl_cloneSig.eq k _ _ _ _) ?_)
  refine W.call (cloneI_ends h1 hl) ?_
  rintro w σ' ⟨R, hO⟩
  try simp only [q_bind_some, castInt_int, q_castBool, q_castStr, q_castPtr, q_castFn, q_castAgg, q_castTuple, q_uncons, q_isNil, q_sl, q_nils, q_emp, q_ptr, q_nilp, q_fn, q_cond_true, q_cond_false, Bool.not_true, Bool.not_false, decide_true, decide_false, List.cons_append, List.nil_append, one_sl' hO.r.isSl]
  exact W.ret ⟨w, R, rfl, hO⟩
theorem l4Sig_ends {σ : Heap} {s : FaceSig} (hl : s.args.length ≤ 1048576) {cs : List V} (h : FaceSig.Rep σ cs s) : HM.Ends G n_spec_l4Sig [.agg cs] σ (SigP σ s) := by
  have e46 : (2 : Nat) ^ 46 = 70368744177664 := by decide
  cases h with
  | mk h1 =>
  refine HM.Ends.mk (W.to (fun k _ => spec_l4Sig.eq k _ _ _ _) ?_)
  obtain ⟨cs, v', σ', R, c1, c2, c3, c4, c5, c6, c7, _⟩ := clone_ok (bytes := 8) h1 (by omega) (by omega)
  try simp only [q_bind_some, castInt_int, q_castBool, q_castStr, q_castPtr, q_castFn, q_castAgg, q_castTuple, q_uncons, q_isNil, q_sl, q_nils, q_emp, q_ptr, q_nilp, q_fn, q_cond_true, q_cond_false, Bool.not_true, Bool.not_false, decide_true, decide_false, List.cons_append, List.nil_append, c1, c2, one_sl' c4.isSl]
  exact W.ret ⟨v', R, rfl, c4.keep (fun _ _ => rfl) fun cs x R h _ => h, c5, c6, c7, c3⟩
theorem slices_IndexFunc_impl_TreeFun_impl_TreeFun_gives {σ : Heap} {v : V} {l : List TreeFun} (hf : l.length ≤ 1073741824) (h : RepS 9 (TreeFun.Rep σ) σ v l) (f : FuncId) (cap : List V) (p : TreeFun → Bool)
    (hx : ∀ x, x ∈ l → ∀ σ' cs, Lh σ σ' → TreeFun.Rep σ' cs x → Gives G f ([.agg cs] ++ cap) σ' (.bool (p x))) : Gives G n_slices_IndexFunc_impl_TreeFun_impl_TreeFun [v, .fn f cap] σ (.int .i64 (fidx p l)) := by
  refine Gives.of (W.to (fun k _ => slices_IndexFunc_impl_TreeFun_impl_TreeFun.eq k _ _ _) ?_)
  refine W.len h ?_
  refine W.loop (S := Nat × Heap) (fun s => s.1 ≤ l.length ∧ Lh σ s.2 ∧ ∀ (j : Nat) y, j < s.1 → l[j]? = some y → p y = false) (fun s => [.v v, .v (.fn f cap), .v (.int .i64 (l.length : Int)), .v (.int .i64 (s.1 : Int))]) (fun s => s.2) (fun s => l.length - s.1) (fun ⟨i, σi⟩ ⟨hi, hle, hok⟩ => ?_)
    (0, σ) ⟨Nat.zero_le _, Lh.refl _, fun j y hj => absurd hj (Nat.not_lt_zero _)⟩
  simp only at hi hle hok ⊢
  refine W.to (fun k _ => by rw [slices_IndexFunc_impl_TreeFun_impl_TreeFun.L0_step]) ?_
  try simp only [q_bind_some, Option.bind_assoc, castInt_int, q_castBool, q_castStr, q_castPtr, q_castFn, q_castAgg, q_castTuple, q_uncons, q_isNil, q_sl, q_nils, q_emp, q_ptr, q_nilp, q_fn, q_cond_true, q_cond_false, Bool.not_true, Bool.not_false, decide_true, decide_false, castInt_bind, castBool_bind, castStr_bind, castPtr_bind, castFn_bind, castAgg_bind, castTuple_bind, uncons_bind, isNil_bind, one_bind, cond_bind, ite_bind_, List.cons_append, List.nil_append]
  refine W.ite (fun hlt => ?_) fun hlt => ?_
  · refine W.at h hle (by omega) fun r o cs x hx' hr hP => ?_
    have hm := List.mem_of_getElem? hx'
    have hc := hx x hm σi cs hle (TreeFun.Rep.le hle hP)
    cases hP with
    | mk =>
    try simp only [q_bind_some, Option.bind_assoc, castInt_int, q_castBool, q_castStr, q_castPtr, q_castFn, q_castAgg, q_castTuple, q_uncons, q_isNil, q_sl, q_nils, q_emp, q_ptr, q_nilp, q_fn, q_cond_true, q_cond_false, Bool.not_true, Bool.not_false, decide_true, decide_false, castInt_bind, castBool_bind, castStr_bind, castPtr_bind, castFn_bind, castAgg_bind, castTuple_bind, uncons_bind, isNil_bind, one_bind, cond_bind, ite_bind_, List.cons_append, List.nil_append, hr]
    refine W.give hc fun σ1 l1 => ?_
    try simp only [q_bind_some, Option.bind_assoc, castInt_int, q_castBool, q_castStr, q_castPtr, q_castFn, q_castAgg, q_castTuple, q_uncons, q_isNil, q_sl, q_nils, q_emp, q_ptr, q_nilp, q_fn, q_cond_true, q_cond_false, Bool.not_true, Bool.not_false, decide_true, decide_false, castInt_bind, castBool_bind, castStr_bind, castPtr_bind, castFn_bind, castAgg_bind, castTuple_bind, uncons_bind, isNil_bind, one_bind, cond_bind, ite_bind_, List.cons_append, List.nil_append]
    cases hb : p x with
    | true =>
      try simp only [q_bind_some, Option.bind_assoc, castInt_int, q_castBool, q_castStr, q_castPtr, q_castFn, q_castAgg, q_castTuple, q_uncons, q_isNil, q_sl, q_nils, q_emp, q_ptr, q_nilp, q_fn, q_cond_true, q_cond_false, Bool.not_true, Bool.not_false, decide_true, decide_false, castInt_bind, castBool_bind, castStr_bind, castPtr_bind, castFn_bind, castAgg_bind, castTuple_bind, uncons_bind, isNil_bind, one_bind, cond_bind, ite_bind_, List.cons_append, List.nil_append, slices_IndexFunc_impl_TreeFun_impl_TreeFun.A0_ret]
      exact W.ret ⟨by rw [fidx_at hx' hb hok], hle.trans l1⟩
    | false =>
      try simp only [q_bind_some, Option.bind_assoc, castInt_int, q_castBool, q_castStr, q_castPtr, q_castFn, q_castAgg, q_castTuple, q_uncons, q_isNil, q_sl, q_nils, q_emp, q_ptr, q_nilp, q_fn, q_cond_true, q_cond_false, Bool.not_true, Bool.not_false, decide_true, decide_false, castInt_bind, castBool_bind, castStr_bind, castPtr_bind, castFn_bind, castAgg_bind, castTuple_bind, uncons_bind, isNil_bind, one_bind, cond_bind, ite_bind_, List.cons_append, List.nil_append, wrap_next (show i < l.length by omega) (by omega)]
      refine W.again (i + 1, σ1) ⟨by show i + 1 ≤ l.length; omega, hle.trans l1, fun j y hj hy => ?_⟩ (by simp only; omega) rfl rfl
      simp only at hj
      by_cases hij : j = i
      · subst hij
        rw [hx'] at hy
        injection hy with hy
        rw [← hy]; exact hb
      · exact hok j y (by omega) hy
  · try simp only [q_bind_some, Option.bind_assoc, castInt_int, q_castBool, q_castStr, q_castPtr, q_castFn, q_castAgg, q_castTuple, q_uncons, q_isNil, q_sl, q_nils, q_emp, q_ptr, q_nilp, q_fn, q_cond_true, q_cond_false, Bool.not_true, Bool.not_false, decide_true, decide_false, castInt_bind, castBool_bind, castStr_bind, castPtr_bind, castFn_bind, castAgg_bind, castTuple_bind, uncons_bind, isNil_bind, one_bind, cond_bind, ite_bind_, List.cons_append, List.nil_append, slices_IndexFunc_impl_TreeFun_impl_TreeFun.A0_x0]
    exact W.ret ⟨by rw [fidx_none fun j y hy => hok j y (by have := lt_of_get hy; omega) hy], hle⟩

theorem slices_IndexFunc_impl_TypeFace_impl_TypeFace_gives {σ : Heap} {v : V} {l : List TypeFace} (hf : l.length ≤ 1073741824) (h : RepS 2 (TypeFace.Rep σ) σ v l) (f : FuncId) (cap : List V) (p : TypeFace → Bool)
    (hx : ∀ x, x ∈ l → ∀ σ' cs, Lh σ σ' → TypeFace.Rep σ' cs x → Gives G f ([.agg cs] ++ cap) σ' (.bool (p x))) : Gives G n_slices_IndexFunc_impl_TypeFace_impl_TypeFace [v, .fn f cap] σ (.int .i64 (fidx p l)) := by
  refine Gives.of (W.to (fun k _ => slices_IndexFunc_impl_TypeFace_impl_TypeFace.eq k _ _ _) ?_)
  refine W.len h ?_
  refine W.loop (S := Nat × Heap) (fun s => s.1 ≤ l.length ∧ Lh σ s.2 ∧ ∀ (j : Nat) y, j < s.1 → l[j]? = some y → p y = false) (fun s => [.v v, .v (.fn f cap), .v (.int .i64 (l.length : Int)), .v (.int .i64 (s.1 : Int))]) (fun s => s.2) (fun s => l.length - s.1) (fun ⟨i, σi⟩ ⟨hi, hle, hok⟩ => ?_)
    (0, σ) ⟨Nat.zero_le _, Lh.refl _, fun j y hj => absurd hj (Nat.not_lt_zero _)⟩
  simp only at hi hle hok ⊢
  refine W.to (fun k _ => by rw [slices_IndexFunc_impl_TypeFace_impl_TypeFace.L0_step]) ?_
  try simp only [q_bind_some, Option.bind_assoc, castInt_int, q_castBool, q_castStr, q_castPtr, q_castFn, q_castAgg, q_castTuple, q_uncons, q_isNil, q_sl, q_nils, q_emp, q_ptr, q_nilp, q_fn, q_cond_true, q_cond_false, Bool.not_true, Bool.not_false, decide_true, decide_false, castInt_bind, castBool_bind, castStr_bind, castPtr_bind, castFn_bind, castAgg_bind, castTuple_bind, uncons_bind, isNil_bind, one_bind, cond_bind, ite_bind_, List.cons_append, List.nil_append]
  refine W.ite (fun hlt => ?_) fun hlt => ?_
  · refine W.at h hle (by omega) fun r o cs x hx' hr hP => ?_
    have hm := List.mem_of_getElem? hx'
    have hc := hx x hm σi cs hle (TypeFace.Rep.le hle hP)
    cases hP with
    | mk =>
    try simp only [q_bind_some, Option.bind_assoc, castInt_int, q_castBool, q_castStr, q_castPtr, q_castFn, q_castAgg, q_castTuple, q_uncons, q_isNil, q_sl, q_nils, q_emp, q_ptr, q_nilp, q_fn, q_cond_true, q_cond_false, Bool.not_true, Bool.not_false, decide_true, decide_false, castInt_bind, castBool_bind, castStr_bind, castPtr_bind, castFn_bind, castAgg_bind, castTuple_bind, uncons_bind, isNil_bind, one_bind, cond_bind, ite_bind_, List.cons_append, List.nil_append, hr]
    refine W.give hc fun σ1 l1 => ?_
    try simp only [q_bind_some, Option.bind_assoc, castInt_int, q_castBool, q_castStr, q_castPtr, q_castFn, q_castAgg, q_castTuple, q_uncons, q_isNil, q_sl, q_nils, q_emp, q_ptr, q_nilp, q_fn, q_cond_true, q_cond_false, Bool.not_true, Bool.not_false, decide_true, decide_false, castInt_bind, castBool_bind, castStr_bind, castPtr_bind, castFn_bind, castAgg_bind, castTuple_bind, uncons_bind, isNil_bind, one_bind, cond_bind, ite_bind_, List.cons_append, List.nil_append]
    cases hb : p x with
    | true =>
      try simp only [q_bind_some, Option.bind_assoc, castInt_int, q_castBool, q_castStr, q_castPtr, q_castFn, q_castAgg, q_castTuple, q_uncons, q_isNil, q_sl, q_nils, q_emp, q_ptr, q_nilp, q_fn, q_cond_true, q_cond_false, Bool.not_true, Bool.not_false, decide_true, decide_false, castInt_bind, castBool_bind, castStr_bind, castPtr_bind, castFn_bind, castAgg_bind, castTuple_bind, uncons_bind, isNil_bind, one_bind, cond_bind, ite_bind_, List.cons_append, List.nil_append, slices_IndexFunc_impl_TypeFace_impl_TypeFace.A0_ret]
      exact W.ret ⟨by rw [fidx_at hx' hb hok], hle.trans l1⟩
    | false =>
      try simp only [q_bind_some, Option.bind_assoc, castInt_int, q_castBool, q_castStr, q_castPtr, q_castFn, q_castAgg, q_castTuple, q_uncons, q_isNil, q_sl, q_nils, q_emp, q_ptr, q_nilp, q_fn, q_cond_true, q_cond_false, Bool.not_true, Bool.not_false, decide_true, decide_false, castInt_bind, castBool_bind, castStr_bind, castPtr_bind, castFn_bind, castAgg_bind, castTuple_bind, uncons_bind, isNil_bind, one_bind, cond_bind, ite_bind_, List.cons_append, List.nil_append, wrap_next (show i < l.length by omega) (by omega)]
      refine W.again (i + 1, σ1) ⟨by show i + 1 ≤ l.length; omega, hle.trans l1, fun j y hj hy => ?_⟩ (by simp only; omega) rfl rfl
      simp only at hj
      by_cases hij : j = i
      · subst hij
        rw [hx'] at hy
        injection hy with hy
        rw [← hy]; exact hb
      · exact hok j y (by omega) hy
  · try simp only [q_bind_some, Option.bind_assoc, castInt_int, q_castBool, q_castStr, q_castPtr, q_castFn, q_castAgg, q_castTuple, q_uncons, q_isNil, q_sl, q_nils, q_emp, q_ptr, q_nilp, q_fn, q_cond_true, q_cond_false, Bool.not_true, Bool.not_false, decide_true, decide_false, castInt_bind, castBool_bind, castStr_bind, castPtr_bind, castFn_bind, castAgg_bind, castTuple_bind, uncons_bind, isNil_bind, one_bind, cond_bind, ite_bind_, List.cons_append, List.nil_append, slices_IndexFunc_impl_TypeFace_impl_TypeFace.A0_x0]
    exact W.ret ⟨by rw [fidx_none fun j y hy => hok j y (by have := lt_of_get hy; omega) hy], hle⟩

theorem slices_IndexFunc_impl_FaceSig_impl_FaceSig_gives {σ : Heap} {v : V} {l : List FaceSig} (hf : l.length ≤ 1073741824) (h : RepS 3 (FaceSig.Rep σ) σ v l) (f : FuncId) (cap : List V) (p : FaceSig → Bool)
    (hx : ∀ x, x ∈ l → ∀ σ' cs, Lh σ σ' → FaceSig.Rep σ' cs x → Gives G f ([.agg cs] ++ cap) σ' (.bool (p x))) : Gives G n_slices_IndexFunc_impl_FaceSig_impl_FaceSig [v, .fn f cap] σ (.int .i64 (fidx p l)) := by
  refine Gives.of (W.to (fun k _ => slices_IndexFunc_impl_FaceSig_impl_FaceSig.eq k _ _ _) ?_)
  refine W.len h ?_
  refine W.loop (S := Nat × Heap) (fun s => s.1 ≤ l.length ∧ Lh σ s.2 ∧ ∀ (j : Nat) y, j < s.1 → l[j]? = some y → p y = false) (fun s => [.v v, .v (.fn f cap), .v (.int .i64 (l.length : Int)), .v (.int .i64 (s.1 : Int))]) (fun s => s.2) (fun s => l.length - s.1) (fun ⟨i, σi⟩ ⟨hi, hle, hok⟩ => ?_)
    (0, σ) ⟨Nat.zero_le _, Lh.refl _, fun j y hj => absurd hj (Nat.not_lt_zero _)⟩
  simp only at hi hle hok ⊢
  refine W.to (fun k _ => by rw [slices_IndexFunc_impl_FaceSig_impl_FaceSig.L0_step]) ?_
  try simp only [q_bind_some, Option.bind_assoc, castInt_int, q_castBool, q_castStr, q_castPtr, q_castFn, q_castAgg, q_castTuple, q_uncons, q_isNil, q_sl, q_nils, q_emp, q_ptr, q_nilp, q_fn, q_cond_true, q_cond_false, Bool.not_true, Bool.not_false, decide_true, decide_false, castInt_bind, castBool_bind, castStr_bind, castPtr_bind, castFn_bind, castAgg_bind, castTuple_bind, uncons_bind, isNil_bind, one_bind, cond_bind, ite_bind_, List.cons_append, List.nil_append]
  refine W.ite (fun hlt => ?_) fun hlt => ?_
  · refine W.at h hle (by omega) fun r o cs x hx' hr hP => ?_
    have hm := List.mem_of_getElem? hx'
    have hc := hx x hm σi cs hle (FaceSig.Rep.le hle hP)
    cases hP with
    | mk =>
    try simp only [q_bind_some, Option.bind_assoc, castInt_int, q_castBool, q_castStr, q_castPtr, q_castFn, q_castAgg, q_castTuple, q_uncons, q_isNil, q_sl, q_nils, q_emp, q_ptr, q_nilp, q_fn, q_cond_true, q_cond_false, Bool.not_true, Bool.not_false, decide_true, decide_false, castInt_bind, castBool_bind, castStr_bind, castPtr_bind, castFn_bind, castAgg_bind, castTuple_bind, uncons_bind, isNil_bind, one_bind, cond_bind, ite_bind_, List.cons_append, List.nil_append, hr]
    refine W.give hc fun σ1 l1 => ?_
    try simp only [q_bind_some, Option.bind_assoc, castInt_int, q_castBool, q_castStr, q_castPtr, q_castFn, q_castAgg, q_castTuple, q_uncons, q_isNil, q_sl, q_nils, q_emp, q_ptr, q_nilp, q_fn, q_cond_true, q_cond_false, Bool.not_true, Bool.not_false, decide_true, decide_false, castInt_bind, castBool_bind, castStr_bind, castPtr_bind, castFn_bind, castAgg_bind, castTuple_bind, uncons_bind, isNil_bind, one_bind, cond_bind, ite_bind_, List.cons_append, List.nil_append]
    cases hb : p x with
    | true =>
      try simp only [q_bind_some, Option.bind_assoc, castInt_int, q_castBool, q_castStr, q_castPtr, q_castFn, q_castAgg, q_castTuple, q_uncons, q_isNil, q_sl, q_nils, q_emp, q_ptr, q_nilp, q_fn, q_cond_true, q_cond_false, Bool.not_true, Bool.not_false, decide_true, decide_false, castInt_bind, castBool_bind, castStr_bind, castPtr_bind, castFn_bind, castAgg_bind, castTuple_bind, uncons_bind, isNil_bind, one_bind, cond_bind, ite_bind_, List.cons_append, List.nil_append, slices_IndexFunc_impl_FaceSig_impl_FaceSig.A0_ret]
      exact W.ret ⟨by rw [fidx_at hx' hb hok], hle.trans l1⟩
    | false =>
      try simp only [q_bind_some, Option.bind_assoc, castInt_int, q_castBool, q_castStr, q_castPtr, q_castFn, q_castAgg, q_castTuple, q_uncons, q_isNil, q_sl, q_nils, q_emp, q_ptr, q_nilp, q_fn, q_cond_true, q_cond_false, Bool.not_true, Bool.not_false, decide_true, decide_false, castInt_bind, castBool_bind, castStr_bind, castPtr_bind, castFn_bind, castAgg_bind, castTuple_bind, uncons_bind, isNil_bind, one_bind, cond_bind, ite_bind_, List.cons_append, List.nil_append, wrap_next (show i < l.length by omega) (by omega)]
      refine W.again (i + 1, σ1) ⟨by show i + 1 ≤ l.length; omega, hle.trans l1, fun j y hj hy => ?_⟩ (by simp only; omega) rfl rfl
      simp only at hj
      by_cases hij : j = i
      · subst hij
        rw [hx'] at hy
        injection hy with hy
        rw [← hy]; exact hb
      · exact hok j y (by omega) hy
  · try simp only [q_bind_some, Option.bind_assoc, castInt_int, q_castBool, q_castStr, q_castPtr, q_castFn, q_castAgg, q_castTuple, q_uncons, q_isNil, q_sl, q_nils, q_emp, q_ptr, q_nilp, q_fn, q_cond_true, q_cond_false, Bool.not_true, Bool.not_false, decide_true, decide_false, castInt_bind, castBool_bind, castStr_bind, castPtr_bind, castFn_bind, castAgg_bind, castTuple_bind, uncons_bind, isNil_bind, one_bind, cond_bind, ite_bind_, List.cons_append, List.nil_append, slices_IndexFunc_impl_FaceSig_impl_FaceSig.A0_x0]
    exact W.ret ⟨by rw [fidx_none fun j y hy => hok j y (by have := lt_of_get hy; omega) hy], hle⟩

theorem implTypeFind_ends {σ : Heap} {m : TreeMod} (hm : m.total ≤ 1048576) {l : List TypeFace} (hl : l.length + totS TypeFace.total l ≤ 1048576) {cs : List V} (h : TreeMod.Rep σ cs m) {v : V} (hv : RepS 2 (TypeFace.Rep σ) σ v l) (mod name : ByteArray) :
    HM.Ends G n_impl_TypeFind [.agg cs, v, .str mod, .str name] σ (FindP σ (findSig m l mod name)) := by
  rw [TreeMod.total_eq] at hm
  cases h with
  | mk hU hF hM =>
  rename_i a0 a1 a2
  refine HM.Ends.mk (W.to (fun k _ => impl_TypeFind.eq k _ _ _ _ _ _ _) ?_)
  have lA : Lh σ (hnew σ 1 [.str mod]) := Lh.new _ _ _
  have lB : Lh (hnew σ 1 [.str mod]) (hnew (hnew σ 1 [.str mod]) 1 [.str name]) := Lh.new _ _ _
  have r0 : rdc (hnew (hnew σ 1 [.str mod]) 1 [.str name]) σ.length 0 1 = some [.str mod] := by simp [rdc, hnew]
  have r1 : rdc (hnew (hnew σ 1 [.str mod]) 1 [.str name]) (hnew σ 1 [.str mod]).length 0 1 = some [.str name] := by simp [rdc, hnew]
  generalize (hnew σ 1 [.str mod]).length = q1 at r1
  generalize hnew σ 1 [.str mod] = σA at lA lB r0 r1
  generalize hnew σA 1 [.str name] = σ1 at lB r0 r1
  have l1 := lA.trans lB
  try simp only [q_bind_some, castInt_int, q_castBool, q_castStr, q_castPtr, q_castFn, q_castAgg, q_castTuple, q_uncons, q_isNil, q_sl, q_nils, q_emp, q_ptr, q_nilp, q_fn, q_cond_true, q_cond_false, Bool.not_true, Bool.not_false, decide_true, decide_false, List.cons_append, List.nil_append, r0]
  refine W.ite (fun hm0 => ?_) fun hm0 => ?_
  · have hfs : findSig m l mod name = (match m.funs.find? (fun f => decide (f.name = name)) with | some f => (sigOf f, true) | none => (noSig, false)) := by unfold findSig; rw [if_pos hm0]
    have hF1 := hF.mono l1 fun cs x _ h => TreeFun.Rep.le l1 h
    refine W.give (slices_IndexFunc_impl_TreeFun_impl_TreeFun_gives (by omega) hF1 n_impl_TypeFind_1 [.ptr q1 0] (fun f => decide (f.name = name)) fun x hx σ' cs hl' hr' => ?_) fun σ2 l2 => ?_
    · cases hr' with
      | mk g1 g2 =>
      refine Gives.of (W.to (fun k _ => impl_TypeFind_1.eq k _ _ _ _ _ _ _ _ _ _ _) ?_)
      try simp only [q_bind_some, castInt_int, q_castBool, q_castStr, q_castPtr, q_castFn, q_castAgg, q_castTuple, q_uncons, q_isNil, q_sl, q_nils, q_emp, q_ptr, q_nilp, q_fn, q_cond_true, q_cond_false, Bool.not_true, Bool.not_false, decide_true, decide_false, List.cons_append, List.nil_append, hl'.rdc r1]
      exact W.ret ⟨rfl, Lh.refl _⟩
    · have l02 := l1.trans l2
      rcases fidx_cases (p := fun f : TreeFun => decide (f.name = name)) m.funs with ⟨he, hno⟩ | ⟨i, x, he, hx, hp, ho⟩
      · have hf : m.funs.find? (fun f => decide (f.name = name)) = none := find_no fun j y hy => hno y (List.mem_of_getElem? hy)
        rw [hf] at hfs
        try simp only [q_bind_some, castInt_int, q_castBool, q_castStr, q_castPtr, q_castFn, q_castAgg, q_castTuple, q_uncons, q_isNil, q_sl, q_nils, q_emp, q_ptr, q_nilp, q_fn, q_cond_true, q_cond_false, Bool.not_true, Bool.not_false, decide_true, decide_false, List.cons_append, List.nil_append, he, show decide ((-1 : Int) < 0) = true from rfl]
        rw [hfs]
        exact W.ret (FindP.none l02)
      · have hf : m.funs.find? (fun f => decide (f.name = name)) = some x := find_at hx hp ho
        rw [hf] at hfs
        have hn : ¬ ((i : Int) < 0) := by omega
        obtain ⟨r, o, hv', cs, hr, hP⟩ := hF.at' hx
        have hr' := l02.rdc hr
        have hP' := TreeFun.Rep.le l02 hP
        have hxl : x.args.length ≤ 1048576 := by have := totS_mem TreeFun.total (List.mem_of_getElem? hx); have := TreeFun.total_eq x; omega
        have hc := implSig_ends hxl hP'
        cases hP with
        | mk g1 g2 =>
        try simp only [q_bind_some, castInt_int, q_castBool, q_castStr, q_castPtr, q_castFn, q_castAgg, q_castTuple, q_uncons, q_isNil, q_sl, q_nils, q_emp, q_ptr, q_nilp, q_fn, q_cond_true, q_cond_false, Bool.not_true, Bool.not_false, decide_true, decide_false, List.cons_append, List.nil_append, he, decide_eq_false hn, hv', hr']
        refine W.call hc ?_
        rintro _ σ3 ⟨av, R, rfl, hO⟩
        try simp only [q_bind_some, castInt_int, q_castBool, q_castStr, q_castPtr, q_castFn, q_castAgg, q_castTuple, q_uncons, q_isNil, q_sl, q_nils, q_emp, q_ptr, q_nilp, q_fn, q_cond_true, q_cond_false, Bool.not_true, Bool.not_false, decide_true, decide_false, List.cons_append, List.nil_append]
        rw [hfs]
        exact W.ret ⟨av, R, rfl, hO.down l02⟩
  · have hfs0 : findSig m l mod name = if mod ∈ m.uses then (match l.find? (fun f => decide (f.mod = mod)) with | some f => (match f.sigs.find? (fun s => decide (s.name = name)) with | some s => (s, true) | none => (noSig, false)) | none => (noSig, false)) else (noSig, false) := by unfold findSig; rw [if_neg hm0]
    have hv1 := hv.mono l1 fun cs x _ h => TypeFace.Rep.le l1 h
    refine W.give (slices_IndexFunc_impl_TypeFace_impl_TypeFace_gives (by omega) hv1 n_impl_TypeFind_2 [.ptr σ.length 0] (fun f => decide (f.mod = mod)) fun x hx σ' cs hl' hr' => ?_) fun σ2 l2 => ?_
    · cases hr' with
      | mk g1 =>
      refine Gives.of (W.to (fun k _ => impl_TypeFind_2.eq k _ _ _ _) ?_)
      try simp only [q_bind_some, castInt_int, q_castBool, q_castStr, q_castPtr, q_castFn, q_castAgg, q_castTuple, q_uncons, q_isNil, q_sl, q_nils, q_emp, q_ptr, q_nilp, q_fn, q_cond_true, q_cond_false, Bool.not_true, Bool.not_false, decide_true, decide_false, List.cons_append, List.nil_append, hl'.rdc r0]
      exact W.ret ⟨rfl, Lh.refl _⟩
    · have l02 := l1.trans l2
      rcases fidx_cases (p := fun f : TypeFace => decide (f.mod = mod)) l with ⟨he, hno⟩ | ⟨i, x, he, hx, hp, ho⟩
      · have hf : l.find? (fun f => decide (f.mod = mod)) = none := find_no fun j y hy => hno y (List.mem_of_getElem? hy)
        rw [hf] at hfs0
        have hfs : findSig m l mod name = (noSig, false) := by rw [hfs0]; split <;> rfl
        try simp only [q_bind_some, castInt_int, q_castBool, q_castStr, q_castPtr, q_castFn, q_castAgg, q_castTuple, q_uncons, q_isNil, q_sl, q_nils, q_emp, q_ptr, q_nilp, q_fn, q_cond_true, q_cond_false, Bool.not_true, Bool.not_false, decide_true, decide_false, List.cons_append, List.nil_append, he, show decide ((-1 : Int) < 0) = true from rfl]
        rw [hfs]
        exact W.ret (FindP.none l02)
      have hf : l.find? (fun f => decide (f.mod = mod)) = some x := find_at hx hp ho
      rw [hf] at hfs0
      have hn : ¬ ((i : Int) < 0) := by omega
      have hxt := totS_mem TypeFace.total (List.mem_of_getElem? hx)
      have hxe := TypeFace.total_eq x
      obtain ⟨r, o, hv', cs, hr, hP⟩ := hv.at' hx
      have hr' := l02.rdc hr
      try simp only [q_bind_some, castInt_int, q_castBool, q_castStr, q_castPtr, q_castFn, q_castAgg, q_castTuple, q_uncons, q_isNil, q_sl, q_nils, q_emp, q_ptr, q_nilp, q_fn, q_cond_true, q_cond_false, Bool.not_true, Bool.not_false, decide_true, decide_false, List.cons_append, List.nil_append, he, decide_eq_false hn, l2.rdc r0]
      refine W.run (contains_string_runs (by omega) (hU.le l02) mod) ?_
      by_cases hu : mod ∈ m.uses
      rotate_left
      · try simp only [q_bind_some, castInt_int, q_castBool, q_castStr, q_castPtr, q_castFn, q_castAgg, q_castTuple, q_uncons, q_isNil, q_sl, q_nils, q_emp, q_ptr, q_nilp, q_fn, q_cond_true, q_cond_false, Bool.not_true, Bool.not_false, decide_true, decide_false, List.cons_append, List.nil_append, decide_eq_false hu]
        have hfs : findSig m l mod name = (noSig, false) := by rw [hfs0, if_neg hu]
        rw [hfs]
        exact W.ret (FindP.none l02)
      rw [if_pos hu] at hfs0
      simp only at hfs0
      cases hP with
      | mk g1 =>
      rename_i b0
      have e1 : rdc σ2 r (o + 1) 1 = some [b0] := rdc_sub hr' 1 1 (by omega)
      try simp only [q_bind_some, castInt_int, q_castBool, q_castStr, q_castPtr, q_castFn, q_castAgg, q_castTuple, q_uncons, q_isNil, q_sl, q_nils, q_emp, q_ptr, q_nilp, q_fn, q_cond_true, q_cond_false, Bool.not_true, Bool.not_false, decide_true, decide_false, List.cons_append, List.nil_append, decide_eq_true hu, hv', e1]
      have g2 := g1.mono l02 fun cs x _ h => FaceSig.Rep.le l02 h
      refine W.give (slices_IndexFunc_impl_FaceSig_impl_FaceSig_gives (by omega) g2 n_impl_TypeFind_3 [.ptr q1 0] (fun s => decide (s.name = name)) fun x hx σ' cs hl' hr' => ?_) fun σ3 l3 => ?_
      · cases hr' with
        | mk g3 =>
        refine Gives.of (W.to (fun k _ => impl_TypeFind_3.eq k _ _ _ _ _) ?_)
        try simp only [q_bind_some, castInt_int, q_castBool, q_castStr, q_castPtr, q_castFn, q_castAgg, q_castTuple, q_uncons, q_isNil, q_sl, q_nils, q_emp, q_ptr, q_nilp, q_fn, q_cond_true, q_cond_false, Bool.not_true, Bool.not_false, decide_true, decide_false, List.cons_append, List.nil_append, hl'.rdc (l2.rdc r1)]
        exact W.ret ⟨rfl, Lh.refl _⟩
      have l03 := l02.trans l3
      rcases fidx_cases (p := fun s : FaceSig => decide (s.name = name)) x.sigs with ⟨he2, hno2⟩ | ⟨k, y, he2, hy, hp2, ho2⟩
      · have hf2 : x.sigs.find? (fun s => decide (s.name = name)) = none := find_no fun j y hy => hno2 y (List.mem_of_getElem? hy)
        rw [hf2] at hfs0
        try simp only [q_bind_some, castInt_int, q_castBool, q_castStr, q_castPtr, q_castFn, q_castAgg, q_castTuple, q_uncons, q_isNil, q_sl, q_nils, q_emp, q_ptr, q_nilp, q_fn, q_cond_true, q_cond_false, Bool.not_true, Bool.not_false, decide_true, decide_false, List.cons_append, List.nil_append, he2, show decide ((-1 : Int) < 0) = true from rfl]
        rw [hfs0]
        exact W.ret (FindP.none l03)
      have hf2 : x.sigs.find? (fun s => decide (s.name = name)) = some y := find_at hy hp2 ho2
      rw [hf2] at hfs0
      have hn2 : ¬ ((k : Int) < 0) := by omega
      obtain ⟨r4, o4, hv4, cs4, hr4, hP4⟩ := g1.at' hy
      have e3 : rdc σ3 r (o + 1) 1 = some [b0] := rdc_sub (l03.rdc hr) 1 1 (by omega)
      have hr4' := l03.rdc hr4
      have hyt := totS_mem FaceSig.total (List.mem_of_getElem? hy)
      have hye := FaceSig.total_eq y
      have hc := cloneSig_ends (by omega) (FaceSig.Rep.le l03 hP4)
      cases hP4 with
      | mk g4 =>
      try simp only [q_bind_some, castInt_int, q_castBool, q_castStr, q_castPtr, q_castFn, q_castAgg, q_castTuple, q_uncons, q_isNil, q_sl, q_nils, q_emp, q_ptr, q_nilp, q_fn, q_cond_true, q_cond_false, Bool.not_true, Bool.not_false, decide_true, decide_false, List.cons_append, List.nil_append, he2, decide_eq_false hn2, hv', e3, hv4, hr4']
      refine W.call hc ?_
      rintro _ σ4 ⟨av, R, rfl, hO⟩
      try simp only [q_bind_some, castInt_int, q_castBool, q_castStr, q_castPtr, q_castFn, q_castAgg, q_castTuple, q_uncons, q_isNil, q_sl, q_nils, q_emp, q_ptr, q_nilp, q_fn, q_cond_true, q_cond_false, Bool.not_true, Bool.not_false, decide_true, decide_false, List.cons_append, List.nil_append]
      rw [hfs0]
      exact W.ret ⟨av, R, rfl, hO.down l03⟩
end Go.X
