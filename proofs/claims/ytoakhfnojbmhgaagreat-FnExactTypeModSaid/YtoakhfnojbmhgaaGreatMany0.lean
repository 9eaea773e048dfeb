/- The contracts of this claim, laid together: part 0. -/
import Derived.Test.YtoakhfnojbmhgaaGreatC
import Derived.Test.YtoakhfnojbmhgaaGreatHMOwn
import Derived.Test.YtoakhfnojbmhgaaGreatEF0
import Derived.Test.YtoakhfnojbmhgaaGreatEF1
import Derived.Test.YtoakhfnojbmhgaaGreatEF2
import Derived.Test.YtoakhfnojbmhgaaGreatEF3
import Derived.Test.YtoakhfnojbmhgaaGreatEF4
import Derived.Test.YtoakhfnojbmhgaaGreatHMLoop
/- Values with their rows, and the places of their marks. -/
set_option linter.unusedVariables false
set_option linter.unusedSimpArgs false
namespace Go.G
open Go.HM Go.Proofs
def RInt (σ : Heap) (cs : List V) (x : Int) (R : List Nat) : Prop := cs = [.int .i64 x] ∧ R = []
theorem RInt.keep {σ σ' : Heap} (cs : List V) (x : Int) (R : List Nat) (h : RInt σ cs x R) (_ : ∀ j, j ∈ R → σ'[j]? = σ[j]?) : RInt σ' cs x R := h
theorem RInt.le {σ σ' : Heap} (hl : Lh σ σ') (cs : List V) (x : Int) (R : List Nat) (h : RInt σ cs x R) : RInt σ' cs x R := h
theorem RInt.lt {σ : Heap} (cs : List V) (x : Int) (R : List Nat) (h : RInt σ cs x R) : ∀ j, j ∈ R → j < σ.length := fun j hj => by
  rw [h.2] at hj
  cases hj
theorem RInt.rep {σ : Heap} (cs : List V) (x : Int) (R : List Nat) (h : RInt σ cs x R) : IntRep cs x := h.1
end Go.G

/- Rows of one's own. -/
set_option linter.unusedVariables false
set_option linter.unusedSimpArgs false
namespace Go.G
open Go.HM Go.Proofs
/-- A list of numbers in a row of one's own. -/
structure Ow (σ σi : Heap) (v : V) (l : List Int) (R : List Nat) : Prop where
  r : RepR 1 (RInt σi) σi v l R
  a : At0 v
  nd : R.Nodup
  lo : ∀ j, j ∈ R → σ.length ≤ j
  le : Lh σ σi
theorem Ow.nils (σ : Heap) : Ow σ σ .nils [] [] := ⟨.nils, .inl rfl, List.nodup_nil, fun j hj => (List.not_mem_nil hj).elim, Lh.refl _⟩
theorem Ow.start (σ : Heap) : Ow σ (hnew σ 1 []) (.sl σ.length 0 0 true) [] [σ.length] :=
  ⟨.sl σ.length 0 0 true ⟨[], 1, false, 0⟩ [] [] rfl (by simp [hnew]) rfl rfl (by simp) rfl fun i x R hx => by simp at hx, .inr ⟨_, _, _, rfl⟩, by simp, fun j hj => by simp at hj; omega, Lh.new _ _ _⟩
theorem Ow.up {σ σi σ' : Heap} {v : V} {l : List Int} {R : List Nat} (h : Ow σ σi v l R) (hl : Lh σi σ') : Ow σ σ' v l R := ⟨h.r.le hl fun cs x R hq => hq, h.a, h.nd, h.lo, h.le.trans hl⟩
theorem Ow.down {σ0 σ σi : Heap} {v : V} {l : List Int} {R : List Nat} (h : Ow σ σi v l R) (h0 : Lh σ0 σ) : Ow σ0 σi v l R := ⟨h.r, h.a, h.nd, fun j hj => by have := h.lo j hj; have := h0.len; omega, h0.trans h.le⟩
theorem Ow.rep {σ σi : Heap} {v : V} {l : List Int} {R : List Nat} (h : Ow σ σi v l R) : RepS 1 IntRep σi v l := h.r.rep fun cs x R _ hq => RInt.rep cs x R hq
theorem Ow.add {σ σi : Heap} {v : V} {l : List Int} {R : List Nat} (h : Ow σ σi v l R) (n : Int) (hl : l.length ≤ 1048576) :
    ∃ v' σ' R', vappend 1 8 σi v 1 [.int .i64 n] = some (v', σ') ∧ Ow σ σ' v' (l ++ [n]) R' := by
  obtain ⟨v', σ', R', g1, g2, g3, g4, g5, g6, g7⟩ := h.r.app (bytes := 8) h.a (cs := [.int .i64 n]) (x := n) (Rx := []) ⟨rfl, rfl⟩ rfl (fun cs x R hq hk => RInt.keep cs x R hq hk) (fun cs x R hq => RInt.lt cs x R hq) (by simpa using h.nd) (by omega) (by omega)
  have hlen := h.le.len
  refine ⟨v', σ', R', g1, g2, g3, g4, fun j hj => ?_, ⟨by rw [g6]; omega, fun j row hj => ?_⟩⟩
  · rcases g5 j hj with hj | hj | hj
    · omega
    · exact h.lo j hj
    · cases hj
  · have hjl := get_lt hj
    rw [g7 j (by omega) fun hc => by have := h.lo j hc; omega]
    exact h.le.row _ _ hj
/-- As Ow.add, and what it leaves alone. -/
theorem Ow.add' {σ σi : Heap} {v : V} {l : List Int} {R : List Nat} (h : Ow σ σi v l R) (n : Int) (hl : l.length ≤ 2097152) :
    ∃ v' σ' R', vappend 1 8 σi v 1 [.int .i64 n] = some (v', σ') ∧ Ow σ σ' v' (l ++ [n]) R' ∧ (∀ j, j ∈ R' → j = σi.length ∨ j ∈ R) ∧ ∀ j, j < σi.length → j ∉ R → σ'[j]? = σi[j]? := by
  obtain ⟨v', σ', R', g1, g2, g3, g4, g5, g6, g7⟩ := h.r.app (bytes := 8) h.a (cs := [.int .i64 n]) (x := n) (Rx := []) ⟨rfl, rfl⟩ rfl (fun cs x R hq hk => RInt.keep cs x R hq hk) (fun cs x R hq => RInt.lt cs x R hq) (by simpa using h.nd) (by omega) (by omega)
  have hlen := h.le.len
  have g5' : ∀ j, j ∈ R' → j = σi.length ∨ j ∈ R := fun j hj => by
    rcases g5 j hj with hj | hj | hj
    · exact .inl hj
    · exact .inr hj
    · cases hj
  refine ⟨v', σ', R', g1, ⟨g2, g3, g4, fun j hj => ?_, ⟨by rw [g6]; omega, fun j row hj => ?_⟩⟩, g5', g7⟩
  · rcases g5' j hj with hj | hj
    · omega
    · exact h.lo j hj
  · have hjl := get_lt hj
    rw [g7 j (by omega) fun hc => by have := h.lo j hc; omega]
    exact h.le.row _ _ hj
end Go.G

/- The signatures of functions. -/
set_option linter.unusedVariables false
set_option linter.unusedSimpArgs false
namespace Go.G
open Go.HM Go.Proofs
def sigOf (f : TreeFun) : FaceSig := ⟨f.name, f.args.map (·.type), f.type⟩
def noSig : FaceSig := ⟨⟨#[]⟩, [], 0⟩
def SigP (σ : Heap) (s : FaceSig) (w : V) (σ' : Heap) : Prop := ∃ av R, w = .agg [.str s.name, av, .int .i64 s.type] ∧ Ow σ σ' av s.args R
theorem argTypes_ends {σ : Heap} {v : V} {l : List TreeArg} (hf : l.length ≤ 1048576) (h : RepS 2 (TreeArg.Rep σ) σ v l) : HM.Ends G n_impl_argTypes [v] σ (fun w σ' => ∃ R, Ow σ σ' w (l.map (·.type)) R) := by
  refine HM.Ends.mk (W.to (fun k _ => impl_argTypes.eq k _ _) ?_)
  refine W.len h ?_
  refine W.loop (S := Nat × V × Heap × List Nat) (fun s => s.1 ≤ l.length ∧ Ow σ s.2.2.1 s.2.1 ((l.take s.1).map (·.type)) s.2.2.2) (fun s => [.v s.2.1, .v v, .v (.int .i64 (l.length : Int)), .v (.int .i64 (s.1 : Int))]) (fun s => s.2.2.1) (fun s => l.length - s.1)
    (fun ⟨i, vi, σi, Ri⟩ ⟨hi, hO⟩ => ?_) (0, .sl σ.length 0 0 true, hnew σ 1 [], [σ.length]) ⟨Nat.zero_le _, Ow.start σ⟩
  simp only at hi hO ⊢
  refine W.to (fun k _ => by rw [impl_argTypes.L0_step]) ?_
  refine B.ite (fun hlt => ?_) fun hlt => ?_
  · have hil : i < l.length := by omega
    have hx : l[i]? = some l[i] := List.getElem?_eq_getElem hil
    generalize l[i] = x at hx
    obtain ⟨r, o, hv, cs, hr, hP⟩ := h.at' hx
    have hr' := hO.le.rdc hr
    cases hP with
    | mk =>
    obtain ⟨v', σ', R', c1, c2⟩ := hO.add x.type (by rw [List.length_map, List.length_take]; omega)
    try simp only [q_bind_some, castInt_int, q_castBool, q_castStr, q_castPtr, q_castFn, q_castAgg, q_castTuple, q_uncons, q_isNil, q_sl, q_nils, q_emp, q_ptr, q_nilp, q_fn, q_cond_true, q_cond_false, Bool.not_true, Bool.not_false, decide_true, decide_false, List.cons_append, List.nil_append, hv, hr', c1, wrap_next hil (by omega)]
    exact W.again (i + 1, v', σ', R') ⟨by show i + 1 ≤ l.length; omega, by rw [take_next' hx, List.map_append]; exact c2⟩ (by simp only; omega) rfl rfl
  · obtain rfl : i = l.length := by omega
    rw [List.take_length] at hO
    try simp only [q_bind_some, castInt_int, q_castBool, q_castStr, q_castPtr, q_castFn, q_castAgg, q_castTuple, q_uncons, q_isNil, q_sl, q_nils, q_emp, q_ptr, q_nilp, q_fn, q_cond_true, q_cond_false, Bool.not_true, Bool.not_false, decide_true, decide_false, List.cons_append, List.nil_append, impl_argTypes.A0_x0]
    exact W.ret ⟨Ri, hO⟩
theorem implSig_ends {σ : Heap} {f : TreeFun} (hf : f.args.length ≤ 1048576) {cs : List V} (h : TreeFun.Rep σ cs f) : HM.Ends G n_impl_TreeFun_sig [.agg cs] σ (SigP σ (sigOf f)) := by
  cases h with
  | mk h1 h2 =>
  refine HM.Ends.mk (W.to (fun k _ => impl_TreeFun_sig.eq k _ _ _ _ _ _ _ _ _ _) ?_)
  refine W.call (argTypes_ends hf h1) ?_
  rintro w σ' ⟨R, hO⟩
  try simp only [q_bind_some, castInt_int, q_castBool, q_castStr, q_castPtr, q_castFn, q_castAgg, q_castTuple, q_uncons, q_isNil, q_sl, q_nils, q_emp, q_ptr, q_nilp, q_fn, q_cond_true, q_cond_false, Bool.not_true, Bool.not_false, decide_true, decide_false, List.cons_append, List.nil_append, one_sl' hO.r.isSl]
  exact W.ret ⟨w, R, rfl, hO⟩
theorem specSig_ends {σ : Heap} {f : TreeFun} (hf : f.args.length ≤ 1048576) {cs : List V} (h : TreeFun.Rep σ cs f) : HM.Ends G n_spec_l3Of [.agg cs] σ (SigP σ (sigOf f)) := by
  cases h with
  | mk h1 h2 =>
  rename_i a0 a1
  refine HM.Ends.mk (W.to (fun k _ => spec_l3Of.eq k _ _ _ _ _ _ _ _ _ _) ?_)
  refine W.loop (S := Nat × V × Heap × List Nat) (fun s => s.1 ≤ f.args.length ∧ Ow σ s.2.2.1 s.2.1 ((f.args.take s.1).map (·.type)) s.2.2.2)
    (fun s => [.box [.str f.name, .bool f.pub, a0, .int .i64 f.type, .int .i64 f.body.kind, .int .i64 f.body.num, .str f.body.name, .str f.body.mod, a1], .box [.str (⟨#[]⟩ : ByteArray), .nils, .int .i64 0], .box [.str f.name, s.2.1, .int .i64 f.type], .v (.int .i64 (s.1 : Int))]) (fun s => s.2.2.1) (fun s => f.args.length - s.1)
    (fun ⟨i, vi, σi, Ri⟩ ⟨hi, hO⟩ => ?_) (0, .nils, σ, []) ⟨Nat.zero_le _, Ow.nils σ⟩
  simp only at hi hO ⊢
  refine W.to (fun k _ => by rw [spec_l3Of.L0_step]) ?_
  refine B.len h1 (B.ite (fun hlt => ?_) fun hlt => ?_)
  · have hil : i < f.args.length := by omega
    have hx : f.args[i]? = some f.args[i] := List.getElem?_eq_getElem hil
    generalize f.args[i] = x at hx
    obtain ⟨r, o, hv, cs, hr, hP⟩ := h1.at' hx
    have hr' := hO.le.rdc hr
    cases hP with
    | mk =>
    have e1 : rdc σi r (o + 1) 1 = some [.int .i64 x.type] := rdc_sub hr' 1 1 (by omega)
    obtain ⟨v', σ', R', c1, c2⟩ := hO.add x.type (by rw [List.length_map, List.length_take]; omega)
    try simp only [q_bind_some, castInt_int, q_castBool, q_castStr, q_castPtr, q_castFn, q_castAgg, q_castTuple, q_uncons, q_isNil, q_sl, q_nils, q_emp, q_ptr, q_nilp, q_fn, q_cond_true, q_cond_false, Bool.not_true, Bool.not_false, decide_true, decide_false, List.cons_append, List.nil_append, hv, e1, c1, one_sl' c2.r.isSl, wrap_next hil (by omega)]
    exact W.again (i + 1, v', σ', R') ⟨by show i + 1 ≤ f.args.length; omega, by rw [take_next' hx, List.map_append]; exact c2⟩ (by simp only; omega) rfl rfl
  · obtain rfl : i = f.args.length := by omega
    rw [List.take_length] at hO
    try simp only [q_bind_some, castInt_int, q_castBool, q_castStr, q_castPtr, q_castFn, q_castAgg, q_castTuple, q_uncons, q_isNil, q_sl, q_nils, q_emp, q_ptr, q_nilp, q_fn, q_cond_true, q_cond_false, Bool.not_true, Bool.not_false, decide_true, decide_false, List.cons_append, List.nil_append, spec_l3Of.A0_x0]
    exact W.ret ⟨vi, Ri, rfl, hO⟩
end Go.G

/- Names: the words that are names. -/
set_option linter.unusedVariables false
set_option linter.unusedSimpArgs false
namespace Go.G
open Go.HM Go.Proofs
theorem index_string_runs {σ : Heap} {v : V} {l : List ByteArray} (hf : l.length ≤ 9223372036854775807) (h : RepS 1 StrRep σ v l) (s : ByteArray) :
    ∃ n : Int, (0 ≤ n ↔ s ∈ l) ∧ Runs G n_slices_Index_string_string [v, .str s] σ (.int .i64 n) σ := by
  obtain ⟨w, σ', ⟨rfl, n, rfl, hn⟩, he⟩ := loop (L := slices_Index_string_string.L0) (A := slices_Index_string_string.A0) (S := Nat)
    (Inv := fun i => i ≤ l.length ∧ ∀ j x, j < i → l[j]? = some x → x ≠ s) (Good := fun w σ' => σ' = σ ∧ ∃ n : Int, w = .int .i64 n ∧ (0 ≤ n ↔ s ∈ l))
    (vals := fun i => [.v v, .v (.str s), .v (.int .i64 (l.length : Int)), .v (.int .i64 (i : Int))]) (hp := fun _ => σ) (far := fun i => l.length - i) (fun i ⟨hi, hne⟩ => by
      by_cases hlt : i < l.length
      · obtain ⟨r, o, hv, cs, hr, hP⟩ := h.at hlt
        unfold StrRep at hP
        subst hP
        by_cases hs : s = l[i]
        · refine .inl ⟨_, _, ⟨rfl, (i : Int), rfl, ?_⟩, Ev.now fun k m => ?_⟩
          · simp; rw [hs]; exact List.getElem_mem hlt
          · rw [slices_Index_string_string.L0_step]
            simp [hlt, hv, hr, ← hs, slices_Index_string_string.A0_ret]
        · refine .inr ⟨i + 1, ⟨hlt, fun j x hj hx => ?_⟩, by omega, Ev.now fun k m => ?_⟩
          · by_cases hji : j = i
            · subst hji
              rw [List.getElem?_eq_getElem hlt] at hx
              injection hx with hx
              rw [← hx]; exact fun hc => hs hc.symm
            · exact hne j x (by omega) hx
          · rw [slices_Index_string_string.L0_step]
            have hw : IntKind.wrap .i64 ((i : Int) + 1) = ((i + 1 : Nat) : Int) := wrap_id (by omega) (by omega)
            simp [hlt, hv, hr, hs]
            rw [hw]
            rfl
      · refine .inl ⟨_, _, ⟨rfl, -1, rfl, ?_⟩, Ev.now fun k m => ?_⟩
        · simp
          intro hc
          obtain ⟨j, hj, hjs⟩ := List.getElem_of_mem hc
          exact hne j _ (by omega) (List.getElem?_eq_getElem hj) hjs
        · rw [slices_Index_string_string.L0_step]
          simp [hlt, slices_Index_string_string.A0_x0]) 0 ⟨Nat.zero_le _, fun j x hj => absurd hj (by omega)⟩
  refine ⟨n, hn, Runs.mk ((Ev.far l.length he).mono fun k ⟨e, hk⟩ => ?_)⟩
  have e2 := e k (by omega)
  rw [slices_Index_string_string.eq, h.vlen]
  exact e2
theorem contains_string_runs {σ : Heap} {v : V} {l : List ByteArray} (hf : l.length ≤ 9223372036854775807) (h : RepS 1 StrRep σ v l) (s : ByteArray) :
    Runs G n_slices_Contains_string_string [v, .str s] σ (.bool (decide (s ∈ l))) σ := by
  obtain ⟨n, hn, c⟩ := index_string_runs hf h s
  refine Runs.mk (c.mono fun k e => ?_)
  rw [slices_Contains_string_string.eq]
  simp [e, hn]
theorem inRange_runs {σ : Heap} (n a b : Int) : Runs G n_impl_inRange [.int .i64 n, .int .i64 a, .int .i64 b] σ (.bool (decide (a ≤ n ∧ n ≤ b))) σ :=
  Runs.mk (Ev.now fun k => by
    rw [impl_inRange.eq]
    by_cases h : a ≤ n <;> simp [h])
def kept : List ByteArray := [⟨#[117, 115, 101]⟩, ⟨#[102, 117, 110]⟩, ⟨#[112, 117, 98]⟩, ⟨#[109, 97, 105, 110]⟩, ⟨#[105, 110, 116]⟩, ⟨#[98, 111, 111, 108]⟩, ⟨#[114, 111, 119]⟩, ⟨#[105, 102]⟩, ⟨#[108, 101, 116]⟩, ⟨#[116, 114, 117, 101]⟩, ⟨#[102, 97, 108, 115, 101]⟩, ⟨#[97, 110, 100]⟩, ⟨#[111, 114]⟩, ⟨#[110, 111, 116]⟩, ⟨#[97, 116]⟩, ⟨#[108, 101, 110]⟩, ⟨#[112, 117, 116]⟩, ⟨#[106, 111, 105, 110]⟩, ⟨#[112, 114, 105, 110, 116]⟩]
theorem kept_rep (σ : Heap) : RepS 1 StrRep (hnew σ 1 (kept.map .str)) (.sl σ.length 0 19 true) kept := RepS.lit σ kept .str (fun _ => rfl) true 19 rfl
theorem isOwn_gives (σ : Heap) (s : ByteArray) : Gives G n_impl_isOwn [.str s] σ (.bool (decide (s ∈ kept))) := by
  have c := contains_string_runs (by decide) (kept_rep σ) s
  refine Gives.mk (σ' := hnew σ 1 (kept.map .str)) (Lh.new _ _ _) (c.mono fun k e => ?_)
  rw [impl_isOwn.eq]
  change (hcall G k n_slices_Contains_string_string [(.sl σ.length 0 19 true), .str s] (hnew σ 1 (kept.map .str))).bind _ = _
  rw [e]
  rfl
def Letters (s : ByteArray) : Prop := ∀ i (h : i < s.size), 97 ≤ s[i].toNat ∧ s[i].toNat ≤ 122
def IsName (s : ByteArray) : Prop := Letters s ∧ (1 ≤ s.size ∧ s.size ≤ 8) ∧ ¬ s ∈ kept
noncomputable instance (s : ByteArray) : Decidable (IsName s) := Classical.propDecidable _
theorem implLexName_gives (σ : Heap) (s : ByteArray) (hf : s.size ≤ 9223372036854775807) : Gives G n_impl_LexName [.str s] σ (.bool (decide (IsName s))) := by
  obtain ⟨σ1, l1, c1⟩ := isOwn_gives σ s
  have c2 := inRange_runs (σ := σ) (s.size : Int) 1 8
  obtain ⟨w, σ', ⟨hl, rfl⟩, he⟩ := loop (L := impl_LexName.L0) (A := impl_LexName.A0) (S := Nat)
    (Inv := fun i => i ≤ s.size ∧ ∀ j (h : j < s.size), j < i → 97 ≤ s[j].toNat ∧ s[j].toNat ≤ 122) (Good := fun w σ' => Lh σ σ' ∧ w = .bool (decide (IsName s)))
    (vals := fun i => [.v (.str s), .v (.int .i64 (s.size : Int)), .v (.int .i64 (i : Int))]) (hp := fun _ => σ) (far := fun i => s.size - i) (fun i ⟨hi, hok⟩ => by
      by_cases hlt : i < s.size
      · have hb := sbyte_at hlt
        by_cases hc : 97 ≤ s[i].toNat ∧ s[i].toNat ≤ 122
        · refine .inr ⟨i + 1, ⟨hlt, fun j hj hji => ?_⟩, by omega, Ev.now fun k m => ?_⟩
          · by_cases h : j = i
            · subst h; exact hc
            · exact hok j hj (by omega)
          · rw [impl_LexName.L0_step]
            have hw : IntKind.wrap .i64 ((i : Int) + 1) = ((i + 1 : Nat) : Int) := wrap_id (by omega) (by omega)
            have h1 : ¬ (s[i].toNat : Int) < 97 := by omega
            have h2 : ¬ (122 : Int) < (s[i].toNat : Int) := by omega
            simp only [hb, Option.bind_some, h1, h2, decide_false, cond_false, hw]
            simp [hlt]
        · refine .inl ⟨_, σ, ⟨Lh.refl _, rfl⟩, Ev.now fun k m => ?_⟩
          have hn : ¬ IsName s := fun h => hc (h.1 i hlt)
          rw [impl_LexName.L0_step]
          by_cases h1 : (s[i].toNat : Int) < 97
          · simp only [hb, Option.bind_some, h1, decide_true, cond_true]
            simp [hlt, impl_LexName.A0_ret, hn]
          · have h2 : (122 : Int) < (s[i].toNat : Int) := by omega
            simp only [hb, Option.bind_some, h1, h2, decide_false, cond_false, decide_true, cond_true]
            simp [hlt, impl_LexName.A0_ret, hn]
      · have hl : Letters s := fun j hj => hok j hj (by omega)
        by_cases hr : (1 : Int) ≤ s.size ∧ (s.size : Int) ≤ 8
        · refine .inl ⟨_, σ1, ⟨l1, rfl⟩, (c2.and c1).mono fun k ⟨e2, e1⟩ m => ?_⟩
          have : IsName s ↔ ¬ s ∈ kept := ⟨fun h => h.2.2, fun h => ⟨hl, by omega, h⟩⟩
          rw [impl_LexName.L0_step]
          simp only [Int.ofNat_lt, hlt, decide_false, cond_false, Option.bind_some, impl_LexName.A0_x0, e2, hr, and_self, decide_true, castBool_bool, cond_true, e1]
          simp [this]
        · refine .inl ⟨_, σ, ⟨Lh.refl _, rfl⟩, c2.mono fun k e2 m => ?_⟩
          have : ¬ IsName s := fun h => hr (by have := h.2.1; omega)
          rw [impl_LexName.L0_step]
          simp only [Int.ofNat_lt, hlt, decide_false, cond_false, Option.bind_some, impl_LexName.A0_x0, e2, hr, castBool_bool]
          simp [this]) 0 ⟨Nat.zero_le _, fun j hj hji => absurd hji (by omega)⟩
  refine Gives.mk hl ((Ev.far s.size he).mono fun k ⟨e, hk⟩ => ?_)
  rw [impl_LexName.eq]
  exact e k (by omega)
theorem l1Kept_gives (σ : Heap) (s : ByteArray) : Gives G n_spec_l1Kept [.str s] σ (.bool (decide (s ∈ kept))) := by
  have h := kept_rep σ
  obtain ⟨w, σ', ⟨hl, rfl⟩, he⟩ := loop (L := spec_l1Kept.L0) (A := spec_l1Kept.A0) (S := Nat)
    (Inv := fun i => i ≤ kept.length ∧ ∀ j x, j < i → kept[j]? = some x → x ≠ s) (Good := fun w σ' => Lh σ σ' ∧ w = .bool (decide (s ∈ kept)))
    (vals := fun i => [.v (.str s), .v (.sl σ.length 0 19 true), .v (.int .i64 (i : Int))]) (hp := fun _ => hnew σ 1 (kept.map .str)) (far := fun i => kept.length - i) (fun i ⟨hi, hne⟩ => by
      by_cases hlt : i < kept.length
      · obtain ⟨r, o, hv, cs, hr, hP⟩ := h.at hlt
        unfold StrRep at hP
        subst hP
        by_cases hs : kept[i] = s
        · refine .inl ⟨_, hnew σ 1 (kept.map .str), ⟨Lh.new _ _ _, rfl⟩, Ev.now fun k m => ?_⟩
          have hm : s ∈ kept := hs ▸ List.getElem_mem hlt
          rw [spec_l1Kept.L0_step, h.vlen]
          simp [hlt, hv, hr, hs, spec_l1Kept.A0_ret, hm]
        · refine .inr ⟨i + 1, ⟨hlt, fun j x hj hx => ?_⟩, by omega, Ev.now fun k m => ?_⟩
          · by_cases hji : j = i
            · subst hji
              rw [List.getElem?_eq_getElem hlt] at hx
              injection hx with hx
              rw [← hx]; exact hs
            · exact hne j x (by omega) hx
          · rw [spec_l1Kept.L0_step, h.vlen]
            have hk : kept.length = 19 := rfl
            have hw : IntKind.wrap .i64 ((i : Int) + 1) = ((i + 1 : Nat) : Int) := wrap_id (by omega) (by omega)
            simp [hlt, hv, hr, hs]
            rw [hw]
            rfl
      · refine .inl ⟨_, hnew σ 1 (kept.map .str), ⟨Lh.new _ _ _, rfl⟩, Ev.now fun k m => ?_⟩
        have hm : ¬ s ∈ kept := fun hc => by
          obtain ⟨j, hj, hjs⟩ := List.getElem_of_mem hc
          exact hne j _ (by omega) (List.getElem?_eq_getElem hj) hjs
        rw [spec_l1Kept.L0_step, h.vlen]
        simp [hlt, spec_l1Kept.A0_x0, hm]) 0 ⟨Nat.zero_le _, fun j x hj => absurd hj (by omega)⟩
  refine Gives.mk hl ((Ev.far kept.length he).mono fun k ⟨e, hk⟩ => ?_)
  rw [spec_l1Kept.eq]
  exact e k (by omega)
theorem specLexName_gives (σ : Heap) (s : ByteArray) (hf : s.size ≤ 9223372036854775807) : Gives G n_spec_LexName [.str s] σ (.bool (decide (IsName s))) := by
  by_cases h1 : (s.size : Int) < 1
  · refine Gives.mk (Lh.refl σ) (Ev.now fun k => ?_)
    have : ¬ IsName s := fun h => by have := h.2.1; omega
    rw [spec_LexName.eq]
    simp only [h1, decide_true, cond_true]
    simp [this]
  by_cases h2 : (8 : Int) < (s.size : Int)
  · refine Gives.mk (Lh.refl σ) (Ev.now fun k => ?_)
    have : ¬ IsName s := fun h => by have := h.2.1; omega
    rw [spec_LexName.eq]
    simp only [h1, h2, decide_true, cond_true, decide_false, cond_false]
    simp [this]
  obtain ⟨σ1, l1, c1⟩ := l1Kept_gives σ s
  by_cases h3 : s ∈ kept
  · refine Gives.mk l1 (c1.mono fun k e => ?_)
    have : ¬ IsName s := fun h => h.2.2 h3
    rw [spec_LexName.eq]
    simp only [h1, h2, decide_false, cond_false, e, Option.bind_some, castBool_bool, h3, decide_true, cond_true]
    simp [this]
  obtain ⟨w, σ', ⟨hl, rfl⟩, he⟩ := loop (L := spec_LexName.L0) (A := spec_LexName.A0) (S := Nat)
    (Inv := fun i => i ≤ s.size ∧ ∀ j (h : j < s.size), j < i → 97 ≤ s[j].toNat ∧ s[j].toNat ≤ 122) (Good := fun w σ' => Lh σ σ' ∧ w = .bool (decide (IsName s)))
    (vals := fun i => [.v (.str s), .v (.int .i64 (i : Int))]) (hp := fun _ => σ1) (far := fun i => s.size - i) (fun i ⟨hi, hok⟩ => by
      by_cases hlt : i < s.size
      · have hb := sbyte_at hlt
        by_cases hc : 97 ≤ s[i].toNat ∧ s[i].toNat ≤ 122
        · refine .inr ⟨i + 1, ⟨hlt, fun j hj hji => ?_⟩, by omega, Ev.now fun k m => ?_⟩
          · by_cases h : j = i
            · subst h; exact hc
            · exact hok j hj (by omega)
          · rw [spec_LexName.L0_step]
            have hw : IntKind.wrap .i64 ((i : Int) + 1) = ((i + 1 : Nat) : Int) := wrap_id (by omega) (by omega)
            have h1 : ¬ (s[i].toNat : Int) < 97 := by omega
            have h2 : ¬ (122 : Int) < (s[i].toNat : Int) := by omega
            simp only [hb, Option.bind_some, h1, h2, decide_false, cond_false, hw]
            simp [hlt]
        · refine .inl ⟨_, σ1, ⟨l1, rfl⟩, Ev.now fun k m => ?_⟩
          have hn : ¬ IsName s := fun h => hc (h.1 i hlt)
          rw [spec_LexName.L0_step]
          by_cases h1 : (s[i].toNat : Int) < 97
          · simp only [hb, Option.bind_some, h1, decide_true, cond_true]
            simp [hlt, spec_LexName.A0_ret, hn]
          · have h2 : (122 : Int) < (s[i].toNat : Int) := by omega
            simp only [hb, Option.bind_some, h1, h2, decide_false, cond_false, decide_true, cond_true]
            simp [hlt, spec_LexName.A0_ret, hn]
      · have hl : IsName s := ⟨fun j hj => hok j hj (by omega), by omega, h3⟩
        refine .inl ⟨_, σ1, ⟨l1, rfl⟩, Ev.now fun k m => ?_⟩
        rw [spec_LexName.L0_step]
        simp [hlt, spec_LexName.A0_x0, hl]) 0 ⟨Nat.zero_le _, fun j hj hji => absurd hji (by omega)⟩
  refine Gives.mk hl ((Ev.and c1 (Ev.far s.size he)).mono fun k ⟨e1, e, hk⟩ => ?_)
  rw [spec_LexName.eq]
  simp only [h1, h2, decide_false, cond_false, e1, Option.bind_some, castBool_bool, h3]
  exact e k (by omega)
end Go.G

/- TypeFind of both. -/
set_option linter.unusedVariables false
set_option linter.unusedSimpArgs false
namespace Go.G
open Go.HM Go.Proofs
noncomputable def findSig (m : TreeMod) (l : List TypeFace) (mod name : ByteArray) : FaceSig × Bool :=
  if mod = (⟨#[]⟩ : ByteArray) then (match m.funs.find? (fun f => decide (f.name = name)) with
    | some f => (sigOf f, true)
    | none => (noSig, false))
  else if mod ∈ m.uses then (match l.find? (fun f => decide (f.mod = mod)) with
    | some f => (match f.sigs.find? (fun s => decide (s.name = name)) with
      | some s => (s, true)
      | none => (noSig, false))
    | none => (noSig, false))
  else (noSig, false)
section
variable {m : TreeMod} {l : List TypeFace} {mod name : ByteArray}
theorem fs_own_some (h : mod = (⟨#[]⟩ : ByteArray)) {f : TreeFun} (hf : m.funs.find? (fun f => decide (f.name = name)) = some f) : findSig m l mod name = (sigOf f, true) := by unfold findSig; rw [if_pos h, hf]
theorem fs_own_none (h : mod = (⟨#[]⟩ : ByteArray)) (hf : m.funs.find? (fun f => decide (f.name = name)) = none) : findSig m l mod name = (noSig, false) := by unfold findSig; rw [if_pos h, hf]
theorem fs_no_use (h : ¬ mod = (⟨#[]⟩ : ByteArray)) (hu : mod ∉ m.uses) : findSig m l mod name = (noSig, false) := by unfold findSig; rw [if_neg h, if_neg hu]
theorem fs_no_face (h : ¬ mod = (⟨#[]⟩ : ByteArray)) (hf : l.find? (fun f => decide (f.mod = mod)) = none) : findSig m l mod name = (noSig, false) := by unfold findSig; rw [if_neg h, hf]; split <;> rfl
theorem fs_no_sig (h : ¬ mod = (⟨#[]⟩ : ByteArray)) {x : TypeFace} (hf : l.find? (fun f => decide (f.mod = mod)) = some x) (hs : x.sigs.find? (fun s => decide (s.name = name)) = none) : findSig m l mod name = (noSig, false) := by unfold findSig; rw [if_neg h, hf]; simp only; rw [hs]; split <;> rfl
theorem fs_sig (h : ¬ mod = (⟨#[]⟩ : ByteArray)) (hu : mod ∈ m.uses) {x : TypeFace} (hf : l.find? (fun f => decide (f.mod = mod)) = some x) {s : FaceSig} (hs : x.sigs.find? (fun s => decide (s.name = name)) = some s) : findSig m l mod name = (s, true) := by unfold findSig; rw [if_neg h, if_pos hu, hf]; simp only; rw [hs]
end
def FindP (σ : Heap) (p : FaceSig × Bool) (w : V) (σ' : Heap) : Prop := ∃ av R, w = .tuple [.agg [.str p.1.name, av, .int .i64 p.1.type], .bool p.2] ∧ Ow σ σ' av p.1.args R
theorem FindP.none {σ σ' : Heap} (h : Lh σ σ') : FindP σ (noSig, false) (.tuple [.agg [.str (⟨#[]⟩ : ByteArray), .nils, .int .i64 0], .bool false]) σ' := ⟨.nils, [], rfl, (Ow.nils σ').down h⟩
theorem find_at {α : Type} {p : α → Bool} : ∀ {l : List α} {i : Nat} {x : α}, l[i]? = some x → p x = true → (∀ (j : Nat) y, j < i → l[j]? = some y → p y = false) → l.find? p = some x
  | y :: l, 0, x, h, hp, _ => by simp at h; subst h; simp [hp]
  | y :: l, i + 1, x, h, hp, ho => by
    have h0 := ho 0 y (by omega) rfl
    rw [List.find?_cons, h0]
    exact find_at (by simpa using h) hp fun j z hj hz => ho (j + 1) z (by omega) (by simpa using hz)
theorem find_no {α : Type} {p : α → Bool} {l : List α} (h : ∀ (j : Nat) y, l[j]? = some y → p y = false) : l.find? p = none := by
  rw [List.find?_eq_none]
  intro x hx
  obtain ⟨i, hi⟩ := List.getElem?_of_mem hx
  simp [h i x hi]
theorem nil_of {α : Type} {esz : Nat} {P : List V → α → Prop} {σ : Heap} {v : V} {l : List α} (h : RepS esz P σ v l) : (v = .nils ∧ l = [] ∧ nilS v = some true) ∨ nilS v = some false := by
  cases h with
  | nils => exact .inl ⟨rfl, rfl, rfl⟩
  | emp => exact .inr rfl
  | sl => exact .inr rfl
theorem cloneI_ends {σ : Heap} {v : V} {l : List Int} (h : RepS 1 IntRep σ v l) (hl : l.length ≤ 1048576) : HM.Ends G n_slices_Clone_int_int [v] σ (fun w σ' => ∃ R, Ow σ σ' w l R) := by
  have e46 : (2 : Nat) ^ 46 = 70368744177664 := by decide
  refine HM.Ends.mk (W.to (fun k _ => slices_Clone_int_int.eq k _ _) ?_)
  rcases nil_of h with ⟨rfl, rfl, hn⟩ | hn
  · refine W.bind hn ?_
    try simp only [q_bind_some, castInt_int, q_castBool, q_castStr, q_castPtr, q_castFn, q_castAgg, q_castTuple, q_uncons, q_isNil, q_sl, q_nils, q_emp, q_ptr, q_nilp, q_fn, q_cond_true, q_cond_false, Bool.not_true, Bool.not_false, decide_true, decide_false, List.cons_append, List.nil_append]
    exact W.ret ⟨[], Ow.nils σ⟩
  · refine W.bind hn ?_
    try simp only [q_bind_some, castInt_int, q_castBool, q_castStr, q_castPtr, q_castFn, q_castAgg, q_castTuple, q_uncons, q_isNil, q_sl, q_nils, q_emp, q_ptr, q_nilp, q_fn, q_cond_true, q_cond_false, Bool.not_true, Bool.not_false, decide_true, decide_false, List.cons_append, List.nil_append]
    obtain ⟨cs, v', σ', R, c1, c2, c3, c4, c5, c6, c7, _⟩ := clone_ok (bytes := 8) h (by omega) (by omega)
    refine W.bind c1 (W.bind c2 ?_)
    exact W.ret ⟨R, c4.keep (fun _ _ => rfl) fun cs x R h _ => h, c5, c6, c7, c3⟩
theorem cloneSig_ends {σ : Heap} {s : FaceSig} (hl : s.args.length ≤ 1048576) {cs : List V} (h : FaceSig.Rep σ cs s) : HM.Ends G n_impl_cloneSig [.agg cs] σ (SigP σ s) := by
  cases h with
  | mk h1 =>
  refine HM.Ends.mk (W.to (fun k _ => impl_cloneSig.eq k _ _ _ _) ?_)
  refine W.call (cloneI_ends h1 hl) ?_
  rintro w σ' ⟨R, hO⟩
  try simp only [q_bind_some, castInt_int, q_castBool, q_castStr, q_castPtr, q_castFn, q_castAgg, q_castTuple, q_uncons, q_isNil, q_sl, q_nils, q_emp, q_ptr, q_nilp, q_fn, q_cond_true, q_cond_false, Bool.not_true, Bool.not_false, decide_true, decide_false, List.cons_append, List.nil_append, one_sl' hO.r.isSl]
  exact W.ret ⟨w, R, rfl, hO⟩
theorem l4Sig_ends {σ : Heap} {s : FaceSig} (hl : s.args.length ≤ 1048576) {cs : List V} (h : FaceSig.Rep σ cs s) : HM.Ends G n_spec_l4Sig [.agg cs] σ (SigP σ s) := by
  have e46 : (2 : Nat) ^ 46 = 70368744177664 := by decide
  cases h with
  | mk h1 =>
  refine HM.Ends.mk (W.to (fun k _ => spec_l4Sig.eq k _ _ _ _) ?_)
  obtain ⟨cs, v', σ', R, c1, c2, c3, c4, c5, c6, c7, _⟩ := clone_ok (bytes := 8) h1 (by omega) (by omega)
  try simp only [q_bind_some, castInt_int, q_castBool, q_castStr, q_castPtr, q_castFn, q_castAgg, q_castTuple, q_uncons, q_isNil, q_sl, q_nils, q_emp, q_ptr, q_nilp, q_fn, q_cond_true, q_cond_false, Bool.not_true, Bool.not_false, decide_true, decide_false, List.cons_append, List.nil_append, c1, c2, one_sl' c4.isSl]
  exact W.ret ⟨v', R, rfl, c4.keep (fun _ _ => rfl) fun cs x R h _ => h, c5, c6, c7, c3⟩
theorem slices_IndexFunc_impl_TreeFun_impl_TreeFun_gives {σ : Heap} {v : V} {l : List TreeFun} (hf : l.length ≤ 1073741824) (h : RepS 9 (TreeFun.Rep σ) σ v l) (f : FuncId) (cap : List V) (p : TreeFun → Bool)
    (hx : ∀ x, x ∈ l → ∀ σ' cs, Lh σ σ' → TreeFun.Rep σ' cs x → Gives G f ([.agg cs] ++ cap) σ' (.bool (p x))) : Gives G n_slices_IndexFunc_impl_TreeFun_impl_TreeFun [v, .fn f cap] σ (.int .i64 (fidx p l)) := by
  refine Gives.of (W.to (fun k _ => slices_IndexFunc_impl_TreeFun_impl_TreeFun.eq k _ _ _) ?_)
  refine W.len h ?_
  refine W.loop (S := Nat × Heap) (fun s => s.1 ≤ l.length ∧ Lh σ s.2 ∧ ∀ (j : Nat) y, j < s.1 → l[j]? = some y → p y = false) (fun s => [.v v, .v (.fn f cap), .v (.int .i64 (l.length : Int)), .v (.int .i64 (s.1 : Int))]) (fun s => s.2) (fun s => l.length - s.1) (fun ⟨i, σi⟩ ⟨hi, hle, hok⟩ => ?_)
    (0, σ) ⟨Nat.zero_le _, Lh.refl _, fun j y hj => absurd hj (Nat.not_lt_zero _)⟩
  simp only at hi hle hok ⊢
  refine W.to (fun k _ => by rw [slices_IndexFunc_impl_TreeFun_impl_TreeFun.L0_step]) ?_
  try simp only [q_bind_some, Option.bind_assoc, castInt_int, q_castBool, q_castStr, q_castPtr, q_castFn, q_castAgg, q_castTuple, q_uncons, q_isNil, q_sl, q_nils, q_emp, q_ptr, q_nilp, q_fn, q_cond_true, q_cond_false, Bool.not_true, Bool.not_false, decide_true, decide_false, castInt_bind, castBool_bind, castStr_bind, castPtr_bind, castFn_bind, castAgg_bind, castTuple_bind, uncons_bind, isNil_bind, one_bind, cond_bind, ite_bind_, List.cons_append, List.nil_append]
  refine W.ite (fun hlt => ?_) fun hlt => ?_
  · refine W.at h hle (by omega) fun r o cs x hx' hr hP => ?_
    have hm := List.mem_of_getElem? hx'
    have hc := hx x hm σi cs hle (TreeFun.Rep.le hle hP)
    cases hP with
    | mk =>
    try simp only [q_bind_some, Option.bind_assoc, castInt_int, q_castBool, q_castStr, q_castPtr, q_castFn, q_castAgg, q_castTuple, q_uncons, q_isNil, q_sl, q_nils, q_emp, q_ptr, q_nilp, q_fn, q_cond_true, q_cond_false, Bool.not_true, Bool.not_false, decide_true, decide_false, castInt_bind, castBool_bind, castStr_bind, castPtr_bind, castFn_bind, castAgg_bind, castTuple_bind, uncons_bind, isNil_bind, one_bind, cond_bind, ite_bind_, List.cons_append, List.nil_append, hr]
    refine W.give hc fun σ1 l1 => ?_
    try simp only [q_bind_some, Option.bind_assoc, castInt_int, q_castBool, q_castStr, q_castPtr, q_castFn, q_castAgg, q_castTuple, q_uncons, q_isNil, q_sl, q_nils, q_emp, q_ptr, q_nilp, q_fn, q_cond_true, q_cond_false, Bool.not_true, Bool.not_false, decide_true, decide_false, castInt_bind, castBool_bind, castStr_bind, castPtr_bind, castFn_bind, castAgg_bind, castTuple_bind, uncons_bind, isNil_bind, one_bind, cond_bind, ite_bind_, List.cons_append, List.nil_append]
    cases hb : p x with
    | true =>
      try simp only [q_bind_some, Option.bind_assoc, castInt_int, q_castBool, q_castStr, q_castPtr, q_castFn, q_castAgg, q_castTuple, q_uncons, q_isNil, q_sl, q_nils, q_emp, q_ptr, q_nilp, q_fn, q_cond_true, q_cond_false, Bool.not_true, Bool.not_false, decide_true, decide_false, castInt_bind, castBool_bind, castStr_bind, castPtr_bind, castFn_bind, castAgg_bind, castTuple_bind, uncons_bind, isNil_bind, one_bind, cond_bind, ite_bind_, List.cons_append, List.nil_append, slices_IndexFunc_impl_TreeFun_impl_TreeFun.A0_ret]
      exact W.ret ⟨by rw [fidx_at hx' hb hok], hle.trans l1⟩
    | false =>
      try simp only [q_bind_some, Option.bind_assoc, castInt_int, q_castBool, q_castStr, q_castPtr, q_castFn, q_castAgg, q_castTuple, q_uncons, q_isNil, q_sl, q_nils, q_emp, q_ptr, q_nilp, q_fn, q_cond_true, q_cond_false, Bool.not_true, Bool.not_false, decide_true, decide_false, castInt_bind, castBool_bind, castStr_bind, castPtr_bind, castFn_bind, castAgg_bind, castTuple_bind, uncons_bind, isNil_bind, one_bind, cond_bind, ite_bind_, List.cons_append, List.nil_append, wrap_next (show i < l.length by omega) (by omega)]
      refine W.again (i + 1, σ1) ⟨by show i + 1 ≤ l.length; omega, hle.trans l1, fun j y hj hy => ?_⟩ (by simp only; omega) rfl rfl
      simp only at hj
      by_cases hij : j = i
      · subst hij
        rw [hx'] at hy
        injection hy with hy
        rw [← hy]; exact hb
      · exact hok j y (by omega) hy
  · try simp only [q_bind_some, Option.bind_assoc, castInt_int, q_castBool, q_castStr, q_castPtr, q_castFn, q_castAgg, q_castTuple, q_uncons, q_isNil, q_sl, q_nils, q_emp, q_ptr, q_nilp, q_fn, q_cond_true, q_cond_false, Bool.not_true, Bool.not_false, decide_true, decide_false, castInt_bind, castBool_bind, castStr_bind, castPtr_bind, castFn_bind, castAgg_bind, castTuple_bind, uncons_bind, isNil_bind, one_bind, cond_bind, ite_bind_, List.cons_append, List.nil_append, slices_IndexFunc_impl_TreeFun_impl_TreeFun.A0_x0]
    exact W.ret ⟨by rw [fidx_none fun j y hy => hok j y (by have := lt_of_get hy; omega) hy], hle⟩

theorem slices_IndexFunc_impl_TypeFace_impl_TypeFace_gives {σ : Heap} {v : V} {l : List TypeFace} (hf : l.length ≤ 1073741824) (h : RepS 2 (TypeFace.Rep σ) σ v l) (f : FuncId) (cap : List V) (p : TypeFace → Bool)
    (hx : ∀ x, x ∈ l → ∀ σ' cs, Lh σ σ' → TypeFace.Rep σ' cs x → Gives G f ([.agg cs] ++ cap) σ' (.bool (p x))) : Gives G n_slices_IndexFunc_impl_TypeFace_impl_TypeFace [v, .fn f cap] σ (.int .i64 (fidx p l)) := by
  refine Gives.of (W.to (fun k _ => slices_IndexFunc_impl_TypeFace_impl_TypeFace.eq k _ _ _) ?_)
  refine W.len h ?_
  refine W.loop (S := Nat × Heap) (fun s => s.1 ≤ l.length ∧ Lh σ s.2 ∧ ∀ (j : Nat) y, j < s.1 → l[j]? = some y → p y = false) (fun s => [.v v, .v (.fn f cap), .v (.int .i64 (l.length : Int)), .v (.int .i64 (s.1 : Int))]) (fun s => s.2) (fun s => l.length - s.1) (fun ⟨i, σi⟩ ⟨hi, hle, hok⟩ => ?_)
    (0, σ) ⟨Nat.zero_le _, Lh.refl _, fun j y hj => absurd hj (Nat.not_lt_zero _)⟩
  simp only at hi hle hok ⊢
  refine W.to (fun k _ => by rw [slices_IndexFunc_impl_TypeFace_impl_TypeFace.L0_step]) ?_
  try simp only [q_bind_some, Option.bind_assoc, castInt_int, q_castBool, q_castStr, q_castPtr, q_castFn, q_castAgg, q_castTuple, q_uncons, q_isNil, q_sl, q_nils, q_emp, q_ptr, q_nilp, q_fn, q_cond_true, q_cond_false, Bool.not_true, Bool.not_false, decide_true, decide_false, castInt_bind, castBool_bind, castStr_bind, castPtr_bind, castFn_bind, castAgg_bind, castTuple_bind, uncons_bind, isNil_bind, one_bind, cond_bind, ite_bind_, List.cons_append, List.nil_append]
  refine W.ite (fun hlt => ?_) fun hlt => ?_
  · refine W.at h hle (by omega) fun r o cs x hx' hr hP => ?_
    have hm := List.mem_of_getElem? hx'
    have hc := hx x hm σi cs hle (TypeFace.Rep.le hle hP)
    cases hP with
    | mk =>
    try simp only [q_bind_some, Option.bind_assoc, castInt_int, q_castBool, q_castStr, q_castPtr, q_castFn, q_castAgg, q_castTuple, q_uncons, q_isNil, q_sl, q_nils, q_emp, q_ptr, q_nilp, q_fn, q_cond_true, q_cond_false, Bool.not_true, Bool.not_false, decide_true, decide_false, castInt_bind, castBool_bind, castStr_bind, castPtr_bind, castFn_bind, castAgg_bind, castTuple_bind, uncons_bind, isNil_bind, one_bind, cond_bind, ite_bind_, List.cons_append, List.nil_append, hr]
    refine W.give hc fun σ1 l1 => ?_
    try simp only [q_bind_some, Option.bind_assoc, castInt_int, q_castBool, q_castStr, q_castPtr, q_castFn, q_castAgg, q_castTuple, q_uncons, q_isNil, q_sl, q_nils, q_emp, q_ptr, q_nilp, q_fn, q_cond_true, q_cond_false, Bool.not_true, Bool.not_false, decide_true, decide_false, castInt_bind, castBool_bind, castStr_bind, castPtr_bind, castFn_bind, castAgg_bind, castTuple_bind, uncons_bind, isNil_bind, one_bind, cond_bind, ite_bind_, List.cons_append, List.nil_append]
    cases hb : p x with
    | true =>
      try simp only [q_bind_some, Option.bind_assoc, castInt_int, q_castBool, q_castStr, q_castPtr, q_castFn, q_castAgg, q_castTuple, q_uncons, q_isNil, q_sl, q_nils, q_emp, q_ptr, q_nilp, q_fn, q_cond_true, q_cond_false, Bool.not_true, Bool.not_false, decide_true, decide_false, castInt_bind, castBool_bind, castStr_bind, castPtr_bind, castFn_bind, castAgg_bind, castTuple_bind, uncons_bind, isNil_bind, one_bind, cond_bind, ite_bind_, List.cons_append, List.nil_append, slices_IndexFunc_impl_TypeFace_impl_TypeFace.A0_ret]
      exact W.ret ⟨by rw [fidx_at hx' hb hok], hle.trans l1⟩
    | false =>
      try simp only [q_bind_some, Option.bind_assoc, castInt_int, q_castBool, q_castStr, q_castPtr, q_castFn, q_castAgg, q_castTuple, q_uncons, q_isNil, q_sl, q_nils, q_emp, q_ptr, q_nilp, q_fn, q_cond_true, q_cond_false, Bool.not_true, Bool.not_false, decide_true, decide_false, castInt_bind, castBool_bind, castStr_bind, castPtr_bind, castFn_bind, castAgg_bind, castTuple_bind, uncons_bind, isNil_bind, one_bind, cond_bind, ite_bind_, List.cons_append, List.nil_append, wrap_next (show i < l.length by omega) (by omega)]
      refine W.again (i + 1, σ1) ⟨by show i + 1 ≤ l.length; omega, hle.trans l1, fun j y hj hy => ?_⟩ (by simp only; omega) rfl rfl
      simp only at hj
      by_cases hij : j = i
      · subst hij
        rw [hx'] at hy
        injection hy with hy
        rw [← hy]; exact hb
      · exact hok j y (by omega) hy
  · try simp only [q_bind_some, Option.bind_assoc, castInt_int, q_castBool, q_castStr, q_castPtr, q_castFn, q_castAgg, q_castTuple, q_uncons, q_isNil, q_sl, q_nils, q_emp, q_ptr, q_nilp, q_fn, q_cond_true, q_cond_false, Bool.not_true, Bool.not_false, decide_true, decide_false, castInt_bind, castBool_bind, castStr_bind, castPtr_bind, castFn_bind, castAgg_bind, castTuple_bind, uncons_bind, isNil_bind, one_bind, cond_bind, ite_bind_, List.cons_append, List.nil_append, slices_IndexFunc_impl_TypeFace_impl_TypeFace.A0_x0]
    exact W.ret ⟨by rw [fidx_none fun j y hy => hok j y (by have := lt_of_get hy; omega) hy], hle⟩

theorem slices_IndexFunc_impl_FaceSig_impl_FaceSig_gives {σ : Heap} {v : V} {l : List FaceSig} (hf : l.length ≤ 1073741824) (h : RepS 3 (FaceSig.Rep σ) σ v l) (f : FuncId) (cap : List V) (p : FaceSig → Bool)
    (hx : ∀ x, x ∈ l → ∀ σ' cs, Lh σ σ' → FaceSig.Rep σ' cs x → Gives G f ([.agg cs] ++ cap) σ' (.bool (p x))) : Gives G n_slices_IndexFunc_impl_FaceSig_impl_FaceSig [v, .fn f cap] σ (.int .i64 (fidx p l)) := by
  refine Gives.of (W.to (fun k _ => slices_IndexFunc_impl_FaceSig_impl_FaceSig.eq k _ _ _) ?_)
  refine W.len h ?_
  refine W.loop (S := Nat × Heap) (fun s => s.1 ≤ l.length ∧ Lh σ s.2 ∧ ∀ (j : Nat) y, j < s.1 → l[j]? = some y → p y = false) (fun s => [.v v, .v (.fn f cap), .v (.int .i64 (l.length : Int)), .v (.int .i64 (s.1 : Int))]) (fun s => s.2) (fun s => l.length - s.1) (fun ⟨i, σi⟩ ⟨hi, hle, hok⟩ => ?_)
    (0, σ) ⟨Nat.zero_le _, Lh.refl _, fun j y hj => absurd hj (Nat.not_lt_zero _)⟩
  simp only at hi hle hok ⊢
  refine W.to (fun k _ => by rw [slices_IndexFunc_impl_FaceSig_impl_FaceSig.L0_step]) ?_
  try simp only [q_bind_some, Option.bind_assoc, castInt_int, q_castBool, q_castStr, q_castPtr, q_castFn, q_castAgg, q_castTuple, q_uncons, q_isNil, q_sl, q_nils, q_emp, q_ptr, q_nilp, q_fn, q_cond_true, q_cond_false, Bool.not_true, Bool.not_false, decide_true, decide_false, castInt_bind, castBool_bind, castStr_bind, castPtr_bind, castFn_bind, castAgg_bind, castTuple_bind, uncons_bind, isNil_bind, one_bind, cond_bind, ite_bind_, List.cons_append, List.nil_append]
  refine W.ite (fun hlt => ?_) fun hlt => ?_
  · refine W.at h hle (by omega) fun r o cs x hx' hr hP => ?_
    have hm := List.mem_of_getElem? hx'
    have hc := hx x hm σi cs hle (FaceSig.Rep.le hle hP)
    cases hP with
    | mk =>
    try simp only [q_bind_some, Option.bind_assoc, castInt_int, q_castBool, q_castStr, q_castPtr, q_castFn, q_castAgg, q_castTuple, q_uncons, q_isNil, q_sl, q_nils, q_emp, q_ptr, q_nilp, q_fn, q_cond_true, q_cond_false, Bool.not_true, Bool.not_false, decide_true, decide_false, castInt_bind, castBool_bind, castStr_bind, castPtr_bind, castFn_bind, castAgg_bind, castTuple_bind, uncons_bind, isNil_bind, one_bind, cond_bind, ite_bind_, List.cons_append, List.nil_append, hr]
    refine W.give hc fun σ1 l1 => ?_
    try simp only [q_bind_some, Option.bind_assoc, castInt_int, q_castBool, q_castStr, q_castPtr, q_castFn, q_castAgg, q_castTuple, q_uncons, q_isNil, q_sl, q_nils, q_emp, q_ptr, q_nilp, q_fn, q_cond_true, q_cond_false, Bool.not_true, Bool.not_false, decide_true, decide_false, castInt_bind, castBool_bind, castStr_bind, castPtr_bind, castFn_bind, castAgg_bind, castTuple_bind, uncons_bind, isNil_bind, one_bind, cond_bind, ite_bind_, List.cons_append, List.nil_append]
    cases hb : p x with
    | true =>
      try simp only [q_bind_some, Option.bind_assoc, castInt_int, q_castBool, q_castStr, q_castPtr, q_castFn, q_castAgg, q_castTuple, q_uncons, q_isNil, q_sl, q_nils, q_emp, q_ptr, q_nilp, q_fn, q_cond_true, q_cond_false, Bool.not_true, Bool.not_false, decide_true, decide_false, castInt_bind, castBool_bind, castStr_bind, castPtr_bind, castFn_bind, castAgg_bind, castTuple_bind, uncons_bind, isNil_bind, one_bind, cond_bind, ite_bind_, List.cons_append, List.nil_append, slices_IndexFunc_impl_FaceSig_impl_FaceSig.A0_ret]
      exact W.ret ⟨by rw [fidx_at hx' hb hok], hle.trans l1⟩
    | false =>
      try simp only [q_bind_some, Option.bind_assoc, castInt_int, q_castBool, q_castStr, q_castPtr, q_castFn, q_castAgg, q_castTuple, q_uncons, q_isNil, q_sl, q_nils, q_emp, q_ptr, q_nilp, q_fn, q_cond_true, q_cond_false, Bool.not_true, Bool.not_false, decide_true, decide_false, castInt_bind, castBool_bind, castStr_bind, castPtr_bind, castFn_bind, castAgg_bind, castTuple_bind, uncons_bind, isNil_bind, one_bind, cond_bind, ite_bind_, List.cons_append, List.nil_append, wrap_next (show i < l.length by omega) (by omega)]
      refine W.again (i + 1, σ1) ⟨by show i + 1 ≤ l.length; omega, hle.trans l1, fun j y hj hy => ?_⟩ (by simp only; omega) rfl rfl
      simp only at hj
      by_cases hij : j = i
      · subst hij
        rw [hx'] at hy
        injection hy with hy
        rw [← hy]; exact hb
      · exact hok j y (by omega) hy
  · try simp only [q_bind_some, Option.bind_assoc, castInt_int, q_castBool, q_castStr, q_castPtr, q_castFn, q_castAgg, q_castTuple, q_uncons, q_isNil, q_sl, q_nils, q_emp, q_ptr, q_nilp, q_fn, q_cond_true, q_cond_false, Bool.not_true, Bool.not_false, decide_true, decide_false, castInt_bind, castBool_bind, castStr_bind, castPtr_bind, castFn_bind, castAgg_bind, castTuple_bind, uncons_bind, isNil_bind, one_bind, cond_bind, ite_bind_, List.cons_append, List.nil_append, slices_IndexFunc_impl_FaceSig_impl_FaceSig.A0_x0]
    exact W.ret ⟨by rw [fidx_none fun j y hy => hok j y (by have := lt_of_get hy; omega) hy], hle⟩

theorem implTypeFind_ends {σ : Heap} {m : TreeMod} (hm : m.total ≤ 1048576) {l : List TypeFace} (hl : l.length + totS TypeFace.total l ≤ 1048576) {cs : List V} (h : TreeMod.Rep σ cs m) {v : V} (hv : RepS 2 (TypeFace.Rep σ) σ v l) (mod name : ByteArray) :
    HM.Ends G n_impl_TypeFind [.agg cs, v, .str mod, .str name] σ (FindP σ (findSig m l mod name)) := by
  rw [TreeMod.total_eq] at hm
  cases h with
  | mk hU hF hM =>
  rename_i a0 a1 a2
  refine HM.Ends.mk (W.to (fun k _ => impl_TypeFind.eq k _ _ _ _ _ _ _) ?_)
  have lA : Lh σ (hnew σ 1 [.str mod]) := Lh.new _ _ _
  have lB : Lh (hnew σ 1 [.str mod]) (hnew (hnew σ 1 [.str mod]) 1 [.str name]) := Lh.new _ _ _
  have r0 : rdc (hnew (hnew σ 1 [.str mod]) 1 [.str name]) σ.length 0 1 = some [.str mod] := by simp [rdc, hnew]
  have r1 : rdc (hnew (hnew σ 1 [.str mod]) 1 [.str name]) (hnew σ 1 [.str mod]).length 0 1 = some [.str name] := by simp [rdc, hnew]
  generalize (hnew σ 1 [.str mod]).length = q1 at r1
  generalize hnew σ 1 [.str mod] = σA at lA lB r0 r1
  generalize hnew σA 1 [.str name] = σ1 at lB r0 r1
  have l1 := lA.trans lB
  try simp only [q_bind_some, castInt_int, q_castBool, q_castStr, q_castPtr, q_castFn, q_castAgg, q_castTuple, q_uncons, q_isNil, q_sl, q_nils, q_emp, q_ptr, q_nilp, q_fn, q_cond_true, q_cond_false, Bool.not_true, Bool.not_false, decide_true, decide_false, List.cons_append, List.nil_append, r0]
  refine W.ite (fun hm0 => ?_) fun hm0 => ?_
  · have hfs : findSig m l mod name = (match m.funs.find? (fun f => decide (f.name = name)) with | some f => (sigOf f, true) | none => (noSig, false)) := by unfold findSig; rw [if_pos hm0]
    have hF1 := hF.mono l1 fun cs x _ h => TreeFun.Rep.le l1 h
    refine W.give (slices_IndexFunc_impl_TreeFun_impl_TreeFun_gives (by omega) hF1 n_impl_TypeFind_1 [.ptr q1 0] (fun f => decide (f.name = name)) fun x hx σ' cs hl' hr' => ?_) fun σ2 l2 => ?_
    · cases hr' with
      | mk g1 g2 =>
      refine Gives.of (W.to (fun k _ => impl_TypeFind_1.eq k _ _ _ _ _ _ _ _ _ _ _) ?_)
      try simp only [q_bind_some, castInt_int, q_castBool, q_castStr, q_castPtr, q_castFn, q_castAgg, q_castTuple, q_uncons, q_isNil, q_sl, q_nils, q_emp, q_ptr, q_nilp, q_fn, q_cond_true, q_cond_false, Bool.not_true, Bool.not_false, decide_true, decide_false, List.cons_append, List.nil_append, hl'.rdc r1]
      exact W.ret ⟨rfl, Lh.refl _⟩
    · have l02 := l1.trans l2
      rcases fidx_cases (p := fun f : TreeFun => decide (f.name = name)) m.funs with ⟨he, hno⟩ | ⟨i, x, he, hx, hp, ho⟩
      · have hf : m.funs.find? (fun f => decide (f.name = name)) = none := find_no fun j y hy => hno y (List.mem_of_getElem? hy)
        rw [hf] at hfs
        try simp only [q_bind_some, castInt_int, q_castBool, q_castStr, q_castPtr, q_castFn, q_castAgg, q_castTuple, q_uncons, q_isNil, q_sl, q_nils, q_emp, q_ptr, q_nilp, q_fn, q_cond_true, q_cond_false, Bool.not_true, Bool.not_false, decide_true, decide_false, List.cons_append, List.nil_append, he, show decide ((-1 : Int) < 0) = true from rfl]
        rw [hfs]
        exact W.ret (FindP.none l02)
      · have hf : m.funs.find? (fun f => decide (f.name = name)) = some x := find_at hx hp ho
        rw [hf] at hfs
        have hn : ¬ ((i : Int) < 0) := by omega
        obtain ⟨r, o, hv', cs, hr, hP⟩ := hF.at' hx
        have hr' := l02.rdc hr
        have hP' := TreeFun.Rep.le l02 hP
        have hxl : x.args.length ≤ 1048576 := by have := totS_mem TreeFun.total (List.mem_of_getElem? hx); have := TreeFun.total_eq x; omega
        have hc := implSig_ends hxl hP'
        cases hP with
        | mk g1 g2 =>
        try simp only [q_bind_some, castInt_int, q_castBool, q_castStr, q_castPtr, q_castFn, q_castAgg, q_castTuple, q_uncons, q_isNil, q_sl, q_nils, q_emp, q_ptr, q_nilp, q_fn, q_cond_true, q_cond_false, Bool.not_true, Bool.not_false, decide_true, decide_false, List.cons_append, List.nil_append, he, decide_eq_false hn, hv', hr']
        refine W.call hc ?_
        rintro _ σ3 ⟨av, R, rfl, hO⟩
        try simp only [q_bind_some, castInt_int, q_castBool, q_castStr, q_castPtr, q_castFn, q_castAgg, q_castTuple, q_uncons, q_isNil, q_sl, q_nils, q_emp, q_ptr, q_nilp, q_fn, q_cond_true, q_cond_false, Bool.not_true, Bool.not_false, decide_true, decide_false, List.cons_append, List.nil_append]
        rw [hfs]
        exact W.ret ⟨av, R, rfl, hO.down l02⟩
  · have hfs0 : findSig m l mod name = if mod ∈ m.uses then (match l.find? (fun f => decide (f.mod = mod)) with | some f => (match f.sigs.find? (fun s => decide (s.name = name)) with | some s => (s, true) | none => (noSig, false)) | none => (noSig, false)) else (noSig, false) := by unfold findSig; rw [if_neg hm0]
    have hv1 := hv.mono l1 fun cs x _ h => TypeFace.Rep.le l1 h
    refine W.give (slices_IndexFunc_impl_TypeFace_impl_TypeFace_gives (by omega) hv1 n_impl_TypeFind_2 [.ptr σ.length 0] (fun f => decide (f.mod = mod)) fun x hx σ' cs hl' hr' => ?_) fun σ2 l2 => ?_
    · cases hr' with
      | mk g1 =>
      refine Gives.of (W.to (fun k _ => impl_TypeFind_2.eq k _ _ _ _) ?_)
      try simp only [q_bind_some, castInt_int, q_castBool, q_castStr, q_castPtr, q_castFn, q_castAgg, q_castTuple, q_uncons, q_isNil, q_sl, q_nils, q_emp, q_ptr, q_nilp, q_fn, q_cond_true, q_cond_false, Bool.not_true, Bool.not_false, decide_true, decide_false, List.cons_append, List.nil_append, hl'.rdc r0]
      exact W.ret ⟨rfl, Lh.refl _⟩
    · have l02 := l1.trans l2
      rcases fidx_cases (p := fun f : TypeFace => decide (f.mod = mod)) l with ⟨he, hno⟩ | ⟨i, x, he, hx, hp, ho⟩
      · have hf : l.find? (fun f => decide (f.mod = mod)) = none := find_no fun j y hy => hno y (List.mem_of_getElem? hy)
        rw [hf] at hfs0
        have hfs : findSig m l mod name = (noSig, false) := by rw [hfs0]; split <;> rfl
        try simp only [q_bind_some, castInt_int, q_castBool, q_castStr, q_castPtr, q_castFn, q_castAgg, q_castTuple, q_uncons, q_isNil, q_sl, q_nils, q_emp, q_ptr, q_nilp, q_fn, q_cond_true, q_cond_false, Bool.not_true, Bool.not_false, decide_true, decide_false, List.cons_append, List.nil_append, he, show decide ((-1 : Int) < 0) = true from rfl]
        rw [hfs]
        exact W.ret (FindP.none l02)
      have hf : l.find? (fun f => decide (f.mod = mod)) = some x := find_at hx hp ho
      rw [hf] at hfs0
      have hn : ¬ ((i : Int) < 0) := by omega
      have hxt := totS_mem TypeFace.total (List.mem_of_getElem? hx)
      have hxe := TypeFace.total_eq x
      obtain ⟨r, o, hv', cs, hr, hP⟩ := hv.at' hx
      have hr' := l02.rdc hr
      try simp only [q_bind_some, castInt_int, q_castBool, q_castStr, q_castPtr, q_castFn, q_castAgg, q_castTuple, q_uncons, q_isNil, q_sl, q_nils, q_emp, q_ptr, q_nilp, q_fn, q_cond_true, q_cond_false, Bool.not_true, Bool.not_false, decide_true, decide_false, List.cons_append, List.nil_append, he, decide_eq_false hn, l2.rdc r0]
      refine W.run (contains_string_runs (by omega) (hU.le l02) mod) ?_
      by_cases hu : mod ∈ m.uses
      rotate_left
      · try simp only [q_bind_some, castInt_int, q_castBool, q_castStr, q_castPtr, q_castFn, q_castAgg, q_castTuple, q_uncons, q_isNil, q_sl, q_nils, q_emp, q_ptr, q_nilp, q_fn, q_cond_true, q_cond_false, Bool.not_true, Bool.not_false, decide_true, decide_false, List.cons_append, List.nil_append, decide_eq_false hu]
        have hfs : findSig m l mod name = (noSig, false) := by rw [hfs0, if_neg hu]
        rw [hfs]
        exact W.ret (FindP.none l02)
      rw [if_pos hu] at hfs0
      simp only at hfs0
      cases hP with
      | mk g1 =>
      rename_i b0
      have e1 : rdc σ2 r (o + 1) 1 = some [b0] := rdc_sub hr' 1 1 (by omega)
      try simp only [q_bind_some, castInt_int, q_castBool, q_castStr, q_castPtr, q_castFn, q_castAgg, q_castTuple, q_uncons, q_isNil, q_sl, q_nils, q_emp, q_ptr, q_nilp, q_fn, q_cond_true, q_cond_false, Bool.not_true, Bool.not_false, decide_true, decide_false, List.cons_append, List.nil_append, decide_eq_true hu, hv', e1]
      have g2 := g1.mono l02 fun cs x _ h => FaceSig.Rep.le l02 h
      refine W.give (slices_IndexFunc_impl_FaceSig_impl_FaceSig_gives (by omega) g2 n_impl_TypeFind_3 [.ptr q1 0] (fun s => decide (s.name = name)) fun x hx σ' cs hl' hr' => ?_) fun σ3 l3 => ?_
      · cases hr' with
        | mk g3 =>
        refine Gives.of (W.to (fun k _ => impl_TypeFind_3.eq k _ _ _ _ _) ?_)
        try simp only [q_bind_some, castInt_int, q_castBool, q_castStr, q_castPtr, q_castFn, q_castAgg, q_castTuple, q_uncons, q_isNil, q_sl, q_nils, q_emp, q_ptr, q_nilp, q_fn, q_cond_true, q_cond_false, Bool.not_true, Bool.not_false, decide_true, decide_false, List.cons_append, List.nil_append, hl'.rdc (l2.rdc r1)]
        exact W.ret ⟨rfl, Lh.refl _⟩
      have l03 := l02.trans l3
      rcases fidx_cases (p := fun s : FaceSig => decide (s.name = name)) x.sigs with ⟨he2, hno2⟩ | ⟨k, y, he2, hy, hp2, ho2⟩
      · have hf2 : x.sigs.find? (fun s => decide (s.name = name)) = none := find_no fun j y hy => hno2 y (List.mem_of_getElem? hy)
        rw [hf2] at hfs0
        try simp only [q_bind_some, castInt_int, q_castBool, q_castStr, q_castPtr, q_castFn, q_castAgg, q_castTuple, q_uncons, q_isNil, q_sl, q_nils, q_emp, q_ptr, q_nilp, q_fn, q_cond_true, q_cond_false, Bool.not_true, Bool.not_false, decide_true, decide_false, List.cons_append, List.nil_append, he2, show decide ((-1 : Int) < 0) = true from rfl]
        rw [hfs0]
        exact W.ret (FindP.none l03)
      have hf2 : x.sigs.find? (fun s => decide (s.name = name)) = some y := find_at hy hp2 ho2
      rw [hf2] at hfs0
      have hn2 : ¬ ((k : Int) < 0) := by omega
      obtain ⟨r4, o4, hv4, cs4, hr4, hP4⟩ := g1.at' hy
      have e3 : rdc σ3 r (o + 1) 1 = some [b0] := rdc_sub (l03.rdc hr) 1 1 (by omega)
      have hr4' := l03.rdc hr4
      have hyt := totS_mem FaceSig.total (List.mem_of_getElem? hy)
      have hye := FaceSig.total_eq y
      have hc := cloneSig_ends (by omega) (FaceSig.Rep.le l03 hP4)
      cases hP4 with
      | mk g4 =>
      try simp only [q_bind_some, castInt_int, q_castBool, q_castStr, q_castPtr, q_castFn, q_castAgg, q_castTuple, q_uncons, q_isNil, q_sl, q_nils, q_emp, q_ptr, q_nilp, q_fn, q_cond_true, q_cond_false, Bool.not_true, Bool.not_false, decide_true, decide_false, List.cons_append, List.nil_append, he2, decide_eq_false hn2, hv', e3, hv4, hr4']
      refine W.call hc ?_
      rintro _ σ4 ⟨av, R, rfl, hO⟩
      try simp only [q_bind_some, castInt_int, q_castBool, q_castStr, q_castPtr, q_castFn, q_castAgg, q_castTuple, q_uncons, q_isNil, q_sl, q_nils, q_emp, q_ptr, q_nilp, q_fn, q_cond_true, q_cond_false, Bool.not_true, Bool.not_false, decide_true, decide_false, List.cons_append, List.nil_append]
      rw [hfs0]
      exact W.ret ⟨av, R, rfl, hO.down l03⟩
end Go.G

/- Lists of names, the size of expressions. -/
set_option linter.unusedVariables false
set_option linter.unusedSimpArgs false
namespace Go.G
open Go.HM Go.Proofs
def AllNames (l : List ByteArray) : Prop := (∀ x, x ∈ l → IsName x) ∧ l.Nodup
noncomputable instance (l : List ByteArray) : Decidable (AllNames l) := Classical.propDecidable _
theorem nodup_next {l : List ByteArray} {i : Nat} (h : i < l.length) : (l.take (i + 1)).Nodup ↔ (l.take i).Nodup ∧ ¬ l[i] ∈ l.take i := by
  rw [take_next h, List.nodup_append]
  simp
  intro _
  constructor
  · intro hc hm; exact hc _ hm rfl
  · intro hc a ha he; exact hc (he ▸ ha)
theorem AllNames.take {l : List ByteArray} (h : AllNames l) (i : Nat) : AllNames (l.take i) := ⟨fun x hx => h.1 x (List.mem_of_mem_take hx), h.2.sublist (List.take_sublist i l)⟩
theorem areNames_gives (σ : Heap) {v : V} {l : List ByteArray} (h : RepS 1 StrRep σ v l) (hf : l.length ≤ 9223372036854775807) (hx : ∀ x, x ∈ l → x.size ≤ 9223372036854775807) : Gives G n_impl_areNames [v] σ (.bool (decide (AllNames l))) := by
  obtain ⟨w, σ', ⟨hl, rfl⟩, he⟩ := loop (L := impl_areNames.L0) (A := impl_areNames.A0) (S := Nat × Heap)
    (Inv := fun s => s.1 ≤ l.length ∧ Lh σ s.2 ∧ AllNames (l.take s.1)) (Good := fun w σ' => Lh σ σ' ∧ w = .bool (decide (AllNames l)))
    (vals := fun s => [.v v, .v v, .v (.int .i64 (l.length : Int)), .v (.int .i64 (s.1 : Int))]) (hp := fun s => s.2) (far := fun s => l.length - s.1) (fun ⟨i, σi⟩ ⟨hi, hle, hok⟩ => by
      simp only at hi hle hok ⊢
      by_cases hlt : i < l.length
      · obtain ⟨r, o, hv, cs, hr, hP⟩ := (h.le hle).at hlt
        unfold StrRep at hP
        subst hP
        have hm : l[i] ∈ l := List.getElem_mem hlt
        obtain ⟨σ1, l1, c1⟩ := implLexName_gives σi l[i] (hx _ hm)
        by_cases hn : IsName l[i]
        · obtain ⟨u, hu, hR⟩ := h.first hlt
          have c2 := contains_string_runs (by rw [List.length_take]; omega) (hR.le (hle.trans l1)) l[i]
          by_cases hc : l[i] ∈ l.take i
          · refine .inl ⟨_, σ1, ⟨hle.trans l1, rfl⟩, (c1.and c2).mono fun k ⟨e1, e2⟩ m => ?_⟩
            have : ¬ AllNames l := fun ha => ((nodup_next hlt).1 (ha.take (i + 1)).2).2 hc
            rw [impl_areNames.L0_step]
            simp [hlt, hv, hr, e1, hn, hu, e2, hc, impl_areNames.A0_ret, this]
          · refine .inr ⟨(i + 1, σ1), ⟨hlt, hle.trans l1, ⟨fun x hx => ?_, (nodup_next hlt).2 ⟨hok.2, hc⟩⟩⟩, by simp only; omega, (c1.and c2).mono fun k ⟨e1, e2⟩ m => ?_⟩
            · rw [take_next hlt] at hx
              rcases List.mem_append.1 hx with h | h
              · exact hok.1 x h
              · simp at h; rw [h]; exact hn
            · have hw : IntKind.wrap .i64 ((i : Int) + 1) = ((i + 1 : Nat) : Int) := wrap_id (by omega) (by omega)
              rw [impl_areNames.L0_step]
              simp [hlt, hv, hr, e1, hn, hu, e2, hc]
              rw [hw]
              rfl
        · refine .inl ⟨_, σ1, ⟨hle.trans l1, rfl⟩, c1.mono fun k e1 m => ?_⟩
          have : ¬ AllNames l := fun ha => hn (ha.1 _ hm)
          rw [impl_areNames.L0_step]
          simp [hlt, hv, hr, e1, hn, impl_areNames.A0_ret, this]
      · refine .inl ⟨_, σi, ⟨hle, rfl⟩, Ev.now fun k m => ?_⟩
        have : AllNames l := by
          rw [List.take_of_length_le (by omega)] at hok
          exact hok
        rw [impl_areNames.L0_step]
        simp [hlt, impl_areNames.A0_x0, this]) (0, σ) ⟨Nat.zero_le _, Lh.refl _, fun x hx => by simp at hx, by simp⟩
  refine Gives.mk hl ((Ev.far l.length he).mono fun k ⟨e, hk⟩ => ?_)
  rw [impl_areNames.eq, h.vlen]
  exact e k (by simpa using hk)
theorem l2Uses_gives (σ : Heap) {v : V} {l : List ByteArray} (h : RepS 1 StrRep σ v l) (hf : l.length ≤ 9223372036854775807) (hx : ∀ x, x ∈ l → x.size ≤ 9223372036854775807) : Gives G n_spec_l2Uses [v] σ (.bool (decide (AllNames l))) := by
  -- the inner loop: whether l[i] stands among the first i
  have inner : ∀ (i : Nat) (hlt : i < l.length) (σi : Heap), Lh σ σi → Ev fun k => ∀ m0 m, i < m →
      (spec_l2Uses.L1 k m [.v v, .v (.int .i64 (i : Int)), .v (.int .i64 ((0 : Nat) : Int))] σi).bind (spec_l2Uses.A1 k m0) =
        if l[i] ∈ l.take i then some (.ret, [.v (.bool false)], σi) else spec_l2Uses.L0 k m0 [.v v, .v (.int .i64 (IntKind.wrap .i64 ((i : Int) + 1)))] σi := by
    intro i hlt σi hle
    have key : ∀ d j, j + d = i → (∀ q y, q < j → l[q]? = some y → y ≠ l[i]) → ∀ k m0 m, d < m →
        (spec_l2Uses.L1 k m [.v v, .v (.int .i64 (i : Int)), .v (.int .i64 (j : Int))] σi).bind (spec_l2Uses.A1 k m0) =
        if l[i] ∈ l.take i then some (.ret, [.v (.bool false)], σi) else spec_l2Uses.L0 k m0 [.v v, .v (.int .i64 (IntKind.wrap .i64 ((i : Int) + 1)))] σi := by
      intro d
      induction d with
      | zero =>
        intro j hj hne k m0 m hm
        obtain ⟨m, rfl⟩ : ∃ j, m = j + 1 := ⟨m - 1, by omega⟩
        have hc : ¬ l[i] ∈ l.take i := fun hc => by
          obtain ⟨q, hq, hqs⟩ := List.getElem_of_mem hc
          rw [List.getElem_take] at hqs
          rw [List.length_take] at hq
          exact hne q _ (by omega) (List.getElem?_eq_getElem (by omega)) hqs
        have : ¬ j < i := by omega
        rw [spec_l2Uses.L1_step, if_neg hc]
        simp [this, spec_l2Uses.A1_x2]
      | succ d ih =>
        intro j hj hne k m0 m hm
        obtain ⟨m, rfl⟩ : ∃ j, m = j + 1 := ⟨m - 1, by omega⟩
        have hji : j < i := by omega
        obtain ⟨r, o, hv, cs, hr, hP⟩ := (h.le hle).at (show j < l.length by omega)
        unfold StrRep at hP
        subst hP
        obtain ⟨r', o', hv', cs', hr', hP'⟩ := (h.le hle).at hlt
        unfold StrRep at hP'
        subst hP'
        rw [spec_l2Uses.L1_step]
        by_cases hs : l[j] = l[i]
        · have hc : l[i] ∈ l.take i := by
            rw [← hs]
            have : l[j] = (l.take i)[j]'(by rw [List.length_take]; omega) := by rw [List.getElem_take]
            rw [this]
            exact List.getElem_mem _
          simp [hji, hv, hr, hv', hr', hs, hc, spec_l2Uses.A1_ret]
        · have hw : IntKind.wrap .i64 ((j : Int) + 1) = ((j + 1 : Nat) : Int) := wrap_id (by omega) (by omega)
          simp only [Int.ofNat_lt, hji, decide_true, cond_true, hv, hr, hv', hr', Option.bind_some, uncons_cons, castStr_str, isNil_nil, hs, decide_false, cond_false]
          rw [hw]
          refine ih (j + 1) (by omega) (fun q y hq hy => ?_) k m0 m (by omega)
          by_cases hqj : q = j
          · subst hqj
            rw [List.getElem?_eq_getElem (by omega)] at hy
            injection hy with hy
            rw [← hy]; exact hs
          · exact hne q y (by omega) hy
    exact Ev.now fun k m0 m hm => key i 0 (by omega) (fun q y hq => absurd hq (by omega)) k m0 m hm
  obtain ⟨w, σ', ⟨hl, rfl⟩, he⟩ := loop (L := spec_l2Uses.L0) (A := spec_l2Uses.A0) (S := Nat × Heap)
    (Inv := fun s => s.1 ≤ l.length ∧ Lh σ s.2 ∧ AllNames (l.take s.1)) (Good := fun w σ' => Lh σ σ' ∧ w = .bool (decide (AllNames l)))
    (vals := fun s => [.v v, .v (.int .i64 (s.1 : Int))]) (hp := fun s => s.2) (far := fun s => l.length - s.1) (fun ⟨i, σi⟩ ⟨hi, hle, hok⟩ => by
      simp only at hi hle hok ⊢
      by_cases hlt : i < l.length
      · obtain ⟨r, o, hv, cs, hr, hP⟩ := (h.le hle).at hlt
        unfold StrRep at hP
        subst hP
        have hm : l[i] ∈ l := List.getElem_mem hlt
        obtain ⟨σ1, l1, c1⟩ := specLexName_gives σi l[i] (hx _ hm)
        by_cases hn : IsName l[i]
        · have c2 : Ev fun k => ∀ m0, (spec_l2Uses.L1 k k [.v v, .v (.int .i64 (i : Int)), .v (.int .i64 ((0 : Nat) : Int))] σ1).bind (spec_l2Uses.A1 k m0) =
              if l[i] ∈ l.take i then some (.ret, [.v (.bool false)], σ1) else spec_l2Uses.L0 k m0 [.v v, .v (.int .i64 (IntKind.wrap .i64 ((i : Int) + 1)))] σ1 :=
            (Ev.far i (inner i hlt σ1 (hle.trans l1))).mono fun k ⟨e, hk⟩ m0 => e m0 k hk
          by_cases hc : l[i] ∈ l.take i
          · refine .inl ⟨_, σ1, ⟨hle.trans l1, rfl⟩, (c1.and c2).mono fun k ⟨e1, e2⟩ m => ?_⟩
            have : ¬ AllNames l := fun ha => ((nodup_next hlt).1 (ha.take (i + 1)).2).2 hc
            rw [spec_l2Uses.L0_step, (h.le hle).vlen]
            have e3 := e2 m
            rw [if_pos hc] at e3
            simp only [Int.ofNat_lt, hlt, hv, hr, e1, hn, decide_true, cond_true, Option.bind_some, uncons_cons, castStr_str, isNil_nil, castBool_bool, Bool.not_true, cond_false]
            rw [show ((0 : Int)) = ((0 : Nat) : Int) from rfl, e3]
            simp [spec_l2Uses.A0_ret, this]
          · refine .inr ⟨(i + 1, σ1), ⟨hlt, hle.trans l1, ⟨fun x hx => ?_, (nodup_next hlt).2 ⟨hok.2, hc⟩⟩⟩, by simp only; omega, (c1.and c2).mono fun k ⟨e1, e2⟩ m => ?_⟩
            · rw [take_next hlt] at hx
              rcases List.mem_append.1 hx with h | h
              · exact hok.1 x h
              · simp at h; rw [h]; exact hn
            · have hw : IntKind.wrap .i64 ((i : Int) + 1) = ((i + 1 : Nat) : Int) := wrap_id (by omega) (by omega)
              have e3 := e2 m
              rw [if_neg hc, hw] at e3
              rw [spec_l2Uses.L0_step, (h.le hle).vlen]
              simp only [Int.ofNat_lt, hlt, hv, hr, e1, hn, decide_true, cond_true, Option.bind_some, uncons_cons, castStr_str, isNil_nil, castBool_bool, Bool.not_true, cond_false]
              rw [show ((0 : Int)) = ((0 : Nat) : Int) from rfl, e3]
        · refine .inl ⟨_, σ1, ⟨hle.trans l1, rfl⟩, c1.mono fun k e1 m => ?_⟩
          have : ¬ AllNames l := fun ha => hn (ha.1 _ hm)
          rw [spec_l2Uses.L0_step, (h.le hle).vlen]
          simp [hlt, hv, hr, e1, hn, spec_l2Uses.A0_ret, this]
      · refine .inl ⟨_, σi, ⟨hle, rfl⟩, Ev.now fun k m => ?_⟩
        have : AllNames l := by
          rw [List.take_of_length_le (by omega)] at hok
          exact hok
        rw [spec_l2Uses.L0_step, (h.le hle).vlen]
        simp [hlt, spec_l2Uses.A0_x0, this]) (0, σ) ⟨Nat.zero_le _, Lh.refl _, fun x hx => by simp at hx, by simp⟩
  refine Gives.mk hl ((Ev.far l.length he).mono fun k ⟨e, hk⟩ => ?_)
  rw [spec_l2Uses.eq]
  exact e k (by simpa using hk)
mutual
def TreeExpr.many : TreeExpr → Nat
  | ⟨_, _, _, _, kids⟩ => 1 + TreeExpr.manyS kids
def TreeExpr.manyS : List TreeExpr → Nat
  | [] => 0
  | e :: es => e.many + TreeExpr.manyS es
end
theorem TreeExpr.manyS_eq : ∀ l, TreeExpr.manyS l = totS TreeExpr.many l
  | [] => rfl
  | e :: es => by rw [TreeExpr.manyS, totS, TreeExpr.manyS_eq]
theorem TreeExpr.many_eq (e : TreeExpr) : e.many = 1 + totS TreeExpr.many e.kids := by
  cases e; rw [TreeExpr.many, TreeExpr.manyS_eq]
mutual
def TreeExpr.deep : TreeExpr → Nat
  | ⟨_, _, _, _, kids⟩ => TreeExpr.deepS kids + 1
def TreeExpr.deepS : List TreeExpr → Nat
  | [] => 0
  | e :: es => max e.deep (TreeExpr.deepS es)
end
theorem TreeExpr.deepS_eq : ∀ l, TreeExpr.deepS l = maxS TreeExpr.deep l
  | [] => rfl
  | e :: es => by rw [TreeExpr.deepS, maxS, TreeExpr.deepS_eq]
theorem TreeExpr.deep_eq (e : TreeExpr) : e.deep = maxS TreeExpr.deep e.kids + 1 := by
  cases e; rw [TreeExpr.deep, TreeExpr.deepS_eq]
theorem totS_le {α : Type} {f g : α → Nat} : ∀ (l : List α), (∀ x, x ∈ l → f x ≤ 1 + g x) → totS f l ≤ l.length + totS g l
  | [], _ => by simp [totS]
  | x :: l, h => by
    have := totS_le l (fun y hy => h y (by simp [hy]))
    have := h x (by simp)
    rw [totS, totS, List.length_cons]
    omega
theorem maxS_le {α : Type} {f g : α → Nat} : ∀ (l : List α), (∀ x, x ∈ l → f x ≤ g x) → maxS f l ≤ totS g l
  | [], _ => by simp [totS, maxS]
  | x :: l, h => by
    have := maxS_le l (fun y hy => h y (by simp [hy]))
    have := h x (by simp)
    rw [totS, maxS]
    omega
theorem TreeExpr.many_le (e : TreeExpr) : e.many ≤ 1 + e.total := by
  rw [TreeExpr.many_eq, TreeExpr.total_eq]
  have := totS_le (f := TreeExpr.many) (g := TreeExpr.total) e.kids (fun x hx => TreeExpr.many_le x)
  omega
termination_by SizeOf.sizeOf e
decreasing_by
  cases e
  have := List.sizeOf_lt_of_mem hx
  simp at this ⊢
  omega
theorem TreeExpr.deep_le (e : TreeExpr) : e.deep ≤ e.many := by
  rw [TreeExpr.many_eq, TreeExpr.deep_eq]
  have := maxS_le (f := TreeExpr.deep) (g := TreeExpr.many) e.kids (fun x hx => TreeExpr.deep_le x)
  omega
termination_by SizeOf.sizeOf e
decreasing_by
  cases e
  have := List.sizeOf_lt_of_mem hx
  simp at this ⊢
  omega
theorem TreeExpr.kid_total {e x : TreeExpr} (hx : x ∈ e.kids) : x.total ≤ e.total := by
  rw [TreeExpr.total_eq e]
  have := totS_mem TreeExpr.total hx
  omega
theorem implTreeNodes_runs (e : TreeExpr) (ht : e.total ≤ 1048576) {σ : Heap} {cs : List V} (hr : TreeExpr.Rep σ cs e) : Runs G n_impl_TreeNodes [.agg cs] σ (.tuple [.int .i64 e.many, .int .i64 e.deep]) σ := by
  have ih : ∀ x, x ∈ e.kids → ∀ cs, TreeExpr.Rep σ cs x → Runs G n_impl_TreeNodes [.agg cs] σ (.tuple [.int .i64 x.many, .int .i64 x.deep]) σ := fun x hx cs hr => implTreeNodes_runs x (Nat.le_trans (TreeExpr.kid_total hx) ht) hr
  have hm := TreeExpr.many_le e
  have hd := TreeExpr.deep_le e
  have hme := TreeExpr.many_eq e
  have hde := TreeExpr.deep_eq e
  have hl : e.kids.length ≤ 1048576 := by rw [TreeExpr.total_eq] at ht; omega
  cases hr with
  | mk h =>
  rename_i a
  obtain ⟨w, σ', ⟨rfl, rfl⟩, he⟩ := loop (L := impl_TreeNodes.L0) (A := impl_TreeNodes.A0) (S := Nat)
    (Inv := fun i => i ≤ e.kids.length) (Good := fun w σ' => σ' = σ ∧ w = .tuple [.int .i64 e.many, .int .i64 e.deep])
    (vals := fun i => [.v (.int .i64 ((1 + totS TreeExpr.many (e.kids.take i) : Nat) : Int)), .v (.int .i64 ((maxS TreeExpr.deep (e.kids.take i) : Nat) : Int)), .v a, .v (.int .i64 (e.kids.length : Int)), .v (.int .i64 (i : Int))]) (hp := fun _ => σ) (far := fun i => e.kids.length - i) (fun i hi => by
      by_cases hlt : i < e.kids.length
      · obtain ⟨r, o, hv, cs, hr, hP⟩ := h.at hlt
        have c := ih _ (List.getElem_mem hlt) cs hP
        have e1 : totS TreeExpr.many (e.kids.take (i + 1)) = totS TreeExpr.many (e.kids.take i) + e.kids[i].many := by rw [take_next hlt, totS_append]; simp [totS]
        have e2 : maxS TreeExpr.deep (e.kids.take (i + 1)) = max (maxS TreeExpr.deep (e.kids.take i)) e.kids[i].deep := by rw [take_next hlt, maxS_append]; simp [maxS]
        have b1 := totS_take_le TreeExpr.many e.kids (i + 1)
        generalize e.kids[i] = x at hP c e1 e2
        cases hP with
        | mk hk =>
        refine .inr ⟨i + 1, hlt, by omega, c.mono fun k c m => ?_⟩
        have hw : IntKind.wrap .i64 ((i : Int) + 1) = ((i + 1 : Nat) : Int) := wrap_id (by omega) (by omega)
        have hw1 : IntKind.wrap .i64 (((1 + totS TreeExpr.many (e.kids.take i) : Nat) : Int) + (x.many : Int)) = ((1 + totS TreeExpr.many (e.kids.take (i + 1)) : Nat) : Int) := by rw [wrap_id (by omega) (by omega)]; omega
        have hw2 : (if ((maxS TreeExpr.deep (e.kids.take i) : Nat) : Int) < (x.deep : Int) then (x.deep : Int) else ((maxS TreeExpr.deep (e.kids.take i) : Nat) : Int)) = ((maxS TreeExpr.deep (e.kids.take (i + 1)) : Nat) : Int) := by rw [e2]; split <;> omega
        rw [impl_TreeNodes.L0_step]
        simp only [Int.ofNat_lt, hlt, decide_true, cond_true, hv, hr, Option.bind_some, uncons_cons, castInt_int, castStr_str, isNil_nil, c, castTuple_tuple]
        rw [hw, hw1, ← hw2]
        simp only [Int.ofNat_lt]
      · refine .inl ⟨_, σ, ⟨rfl, rfl⟩, Ev.now fun k m => ?_⟩
        rw [impl_TreeNodes.L0_step]
        simp only [Int.ofNat_lt, hlt, decide_false, cond_false, Option.bind_some, impl_TreeNodes.A0_x0]
        rw [List.take_of_length_le (by omega), ← hme, wrap_id (by omega) (by omega), hde]
        rfl) 0 (Nat.zero_le _)
  refine Runs.mk ((Ev.far e.kids.length he).mono fun k ⟨e1, hk⟩ => ?_)
  rw [impl_TreeNodes.eq, h.vlen]
  exact e1 k (by simpa using hk)
termination_by SizeOf.sizeOf e
decreasing_by
  cases e
  have := List.sizeOf_lt_of_mem hx
  simp at this ⊢
  omega
theorem specTreeNodes_runs (e : TreeExpr) (ht : e.total ≤ 1048576) {σ : Heap} {cs : List V} (hr : TreeExpr.Rep σ cs e) : Runs G n_spec_TreeNodes [.agg cs] σ (.tuple [.int .i64 e.many, .int .i64 e.deep]) σ := by
  have ih : ∀ x, x ∈ e.kids → ∀ cs, TreeExpr.Rep σ cs x → Runs G n_spec_TreeNodes [.agg cs] σ (.tuple [.int .i64 x.many, .int .i64 x.deep]) σ := fun x hx cs hr => specTreeNodes_runs x (Nat.le_trans (TreeExpr.kid_total hx) ht) hr
  have hm := TreeExpr.many_le e
  have hd := TreeExpr.deep_le e
  have hme := TreeExpr.many_eq e
  have hde := TreeExpr.deep_eq e
  have hl : e.kids.length ≤ 1048576 := by rw [TreeExpr.total_eq] at ht; omega
  cases hr with
  | mk h =>
  rename_i a
  obtain ⟨w, σ', ⟨rfl, rfl⟩, he⟩ := loop (L := spec_TreeNodes.L0) (A := spec_TreeNodes.A0) (S := Nat)
    (Inv := fun i => i ≤ e.kids.length) (Good := fun w σ' => σ' = σ ∧ w = .tuple [.int .i64 e.many, .int .i64 e.deep])
    (vals := fun i => [.box [.int .i64 e.kind, .int .i64 e.num, .str e.name, .str e.mod, a], .v (.int .i64 ((1 + totS TreeExpr.many (e.kids.take i) : Nat) : Int)), .v (.int .i64 ((maxS TreeExpr.deep (e.kids.take i) : Nat) : Int)), .v (.int .i64 (i : Int))]) (hp := fun _ => σ) (far := fun i => e.kids.length - i) (fun i hi => by
      by_cases hlt : i < e.kids.length
      · obtain ⟨r, o, hv, cs, hr, hP⟩ := h.at hlt
        have c := ih _ (List.getElem_mem hlt) cs hP
        have e1 : totS TreeExpr.many (e.kids.take (i + 1)) = totS TreeExpr.many (e.kids.take i) + e.kids[i].many := by rw [take_next hlt, totS_append]; simp [totS]
        have e2 : maxS TreeExpr.deep (e.kids.take (i + 1)) = max (maxS TreeExpr.deep (e.kids.take i)) e.kids[i].deep := by rw [take_next hlt, maxS_append]; simp [maxS]
        have b1 := totS_take_le TreeExpr.many e.kids (i + 1)
        generalize e.kids[i] = x at hP c e1 e2
        cases hP with
        | mk hk =>
        refine .inr ⟨i + 1, hlt, by omega, c.mono fun k c m => ?_⟩
        have hw : IntKind.wrap .i64 ((i : Int) + 1) = ((i + 1 : Nat) : Int) := wrap_id (by omega) (by omega)
        have hw1 : IntKind.wrap .i64 (((1 + totS TreeExpr.many (e.kids.take i) : Nat) : Int) + (x.many : Int)) = ((1 + totS TreeExpr.many (e.kids.take (i + 1)) : Nat) : Int) := by rw [wrap_id (by omega) (by omega)]; omega
        rw [spec_TreeNodes.L0_step, h.vlen]
        by_cases hlt2 : maxS TreeExpr.deep (e.kids.take i) < x.deep
        · simp only [Int.ofNat_lt, hlt, decide_true, cond_true, hv, hr, Option.bind_some, uncons_cons, castInt_int, castStr_str, isNil_nil, c, castTuple_tuple, hlt2]
          rw [hw, hw1, e2, Nat.max_eq_right (by omega)]
        · simp only [Int.ofNat_lt, hlt, decide_true, cond_true, hv, hr, Option.bind_some, uncons_cons, castInt_int, castStr_str, isNil_nil, c, castTuple_tuple, hlt2, decide_false, cond_false]
          rw [hw, hw1, e2, Nat.max_eq_left (by omega)]
      · refine .inl ⟨_, σ, ⟨rfl, rfl⟩, Ev.now fun k m => ?_⟩
        rw [spec_TreeNodes.L0_step, h.vlen]
        simp only [Int.ofNat_lt, hlt, decide_false, cond_false, Option.bind_some, spec_TreeNodes.A0_x0]
        rw [List.take_of_length_le (by omega), ← hme, wrap_id (by omega) (by omega), hde]
        rfl) 0 (Nat.zero_le _)
  refine Runs.mk ((Ev.far e.kids.length he).mono fun k ⟨e1, hk⟩ => ?_)
  rw [spec_TreeNodes.eq]
  exact e1 k (by simpa using hk)
termination_by SizeOf.sizeOf e
decreasing_by
  cases e
  have := List.sizeOf_lt_of_mem hx
  simp at this ⊢
  omega
end Go.G

/- Types and short numbers. -/
set_option linter.unusedVariables false
set_option linter.unusedSimpArgs false
set_option maxRecDepth 100000
namespace Go.G
open Go.HM Go.Proofs
theorem isType_runs {σ : Heap} (n : Int) : Runs G n_impl_isType [.int .i64 n] σ (.bool (decide (1 ≤ n ∧ n ≤ 3))) σ :=
  Runs.mk ((inRange_runs (σ := σ) n 1 3).mono fun k e => by rw [impl_isType.eq]; simp only [e, Option.bind_some, castBool_bool])
theorem isShort_runs {σ : Heap} (n : Int) : Runs G n_impl_isShort [.int .i64 n] σ (.bool (decide (-99999999999999999 ≤ n ∧ n ≤ 99999999999999999))) σ :=
  Runs.mk ((inRange_runs (σ := σ) n (-99999999999999999) 99999999999999999).mono fun k e => by rw [impl_isShort.eq]; simp only [e, Option.bind_some, castBool_bool])
theorem treeType_gives (σ : Heap) (n : Int) : ∃ s : ByteArray, (s = ⟨#[]⟩ ↔ ¬ (1 ≤ n ∧ n ≤ 3)) ∧ Gives G n_spec_TreeType [.int .i64 n] σ (.str s) := by
  by_cases h1 : n < 1
  · refine ⟨⟨#[]⟩, by simp; omega, Gives.mk (Lh.refl σ) (Ev.now fun k => ?_)⟩
    rw [spec_TreeType.eq]
    simp only [h1, decide_true, cond_true]
  by_cases h2 : 3 < n
  · refine ⟨⟨#[]⟩, by simp; omega, Gives.mk (Lh.refl σ) (Ev.now fun k => ?_)⟩
    rw [spec_TreeType.eq]
    simp only [h1, h2, decide_true, cond_true, decide_false, cond_false]
  have hl : RepS 1 StrRep (hnew σ 1 (([⟨#[105, 110, 116]⟩, ⟨#[98, 111, 111, 108]⟩, ⟨#[114, 111, 119]⟩] : List ByteArray).map .str)) (.sl σ.length 0 3 true) [⟨#[105, 110, 116]⟩, ⟨#[98, 111, 111, 108]⟩, ⟨#[114, 111, 119]⟩] := RepS.lit σ _ .str (fun _ => rfl) true 3 rfl
  obtain ⟨i, rfl⟩ : ∃ i : Nat, n = (i : Int) + 1 := ⟨(n - 1).toNat, by omega⟩
  have hi : i < 3 := by omega
  obtain ⟨r, o, hv, cs, hr, hP⟩ := hl.at (i := i) hi
  unfold StrRep at hP
  subst hP
  have hw : IntKind.wrap .i64 ((i : Int) + 1 - 1) = (i : Int) := by rw [wrap_id (by omega) (by omega)]; omega
  refine ⟨([⟨#[105, 110, 116]⟩, ⟨#[98, 111, 111, 108]⟩, ⟨#[114, 111, 119]⟩] : List ByteArray)[i]'hi, ?_, Gives.mk (σ' := hnew σ 1 (([⟨#[105, 110, 116]⟩, ⟨#[98, 111, 111, 108]⟩, ⟨#[114, 111, 119]⟩] : List ByteArray).map .str)) (Lh.new _ _ _) (Ev.now fun k => ?_)⟩
  · have : i = 0 ∨ i = 1 ∨ i = 2 := by omega
    rcases this with rfl | rfl | rfl <;> simp <;> decide
  · rw [spec_TreeType.eq]
    simp only [h1, h2, decide_false, cond_false, hw, hv, Option.bind_some]
    change (rdc (hnew σ 1 (([⟨#[105, 110, 116]⟩, ⟨#[98, 111, 111, 108]⟩, ⟨#[114, 111, 119]⟩] : List ByteArray).map .str)) r o 1).bind _ = _
    rw [hr]
    rfl
end Go.G

/- Arities, types, lists of parameters. -/
set_option linter.unusedVariables false
set_option linter.unusedSimpArgs false
set_option maxRecDepth 100000
namespace Go.G
open Go.HM Go.Proofs
def arity (s : ByteArray) : Int :=
  if s = ⟨#[110, 111, 116]⟩ then 1 else if s = ⟨#[108, 101, 110]⟩ then 1 else if s = ⟨#[112, 114, 105, 110, 116]⟩ then 1 else if s = ⟨#[112, 117, 116]⟩ then 3 else
  if s = ⟨#[43]⟩ then 2 else if s = ⟨#[45]⟩ then 2 else if s = ⟨#[42]⟩ then 2 else if s = ⟨#[47]⟩ then 2 else if s = ⟨#[37]⟩ then 2 else if s = ⟨#[60]⟩ then 2 else if s = ⟨#[60, 61]⟩ then 2 else if s = ⟨#[61]⟩ then 2 else
  if s = ⟨#[97, 116]⟩ then 2 else if s = ⟨#[106, 111, 105, 110]⟩ then 2 else if s = ⟨#[97, 110, 100]⟩ then 2 else if s = ⟨#[111, 114]⟩ then 2 else -1
theorem implArity_runs {σ : Heap} (s : ByteArray) : Runs G n_impl_TreeArity [.str s] σ (.int .i64 (arity s)) σ := Runs.mk (Ev.now fun k => by
  rw [impl_TreeArity.eq]
  by_cases h1 : s = ⟨#[110, 111, 116]⟩
  · subst h1; kernel_rfl
  by_cases h2 : s = ⟨#[108, 101, 110]⟩
  · subst h2; kernel_rfl
  by_cases h3 : s = ⟨#[112, 114, 105, 110, 116]⟩
  · subst h3; kernel_rfl
  by_cases h4 : s = ⟨#[112, 117, 116]⟩
  · subst h4; kernel_rfl
  by_cases h5 : s = ⟨#[43]⟩
  · subst h5; kernel_rfl
  by_cases h6 : s = ⟨#[45]⟩
  · subst h6; kernel_rfl
  by_cases h7 : s = ⟨#[42]⟩
  · subst h7; kernel_rfl
  by_cases h8 : s = ⟨#[47]⟩
  · subst h8; kernel_rfl
  by_cases h9 : s = ⟨#[37]⟩
  · subst h9; kernel_rfl
  by_cases h10 : s = ⟨#[60]⟩
  · subst h10; kernel_rfl
  by_cases h11 : s = ⟨#[60, 61]⟩
  · subst h11; kernel_rfl
  by_cases h12 : s = ⟨#[61]⟩
  · subst h12; kernel_rfl
  by_cases h13 : s = ⟨#[97, 116]⟩
  · subst h13; kernel_rfl
  by_cases h14 : s = ⟨#[106, 111, 105, 110]⟩
  · subst h14; kernel_rfl
  by_cases h15 : s = ⟨#[97, 110, 100]⟩
  · subst h15; kernel_rfl
  by_cases h16 : s = ⟨#[111, 114]⟩
  · subst h16; kernel_rfl
  simp only [arity, h1, h2, h3, h4, h5, h6, h7, h8, h9, h10, h11, h12, h13, h14, h15, h16, decide_false, cond_false, if_false])
def prims : List ByteArray := [⟨#[43]⟩, ⟨#[45]⟩, ⟨#[42]⟩, ⟨#[47]⟩, ⟨#[37]⟩, ⟨#[60]⟩, ⟨#[60, 61]⟩, ⟨#[61]⟩, ⟨#[110, 111, 116]⟩, ⟨#[97, 116]⟩, ⟨#[108, 101, 110]⟩, ⟨#[112, 117, 116]⟩, ⟨#[106, 111, 105, 110]⟩, ⟨#[112, 114, 105, 110, 116]⟩, ⟨#[97, 110, 100]⟩, ⟨#[111, 114]⟩]
theorem prims_runs (σ : Heap) : Runs G n_spec_l2Prims [] σ (.sl σ.length 0 16 true) (hnew σ 1 (prims.map .str)) := Runs.mk (Ev.now fun k => by rw [spec_l2Prims.eq]; rfl)
theorem l2Prim_gives (σ : Heap) (s : ByteArray) : ∃ n : Int, ((n = 0 ∧ ∀ x, x ∈ prims → x ≠ s) ∨ (∃ i, ∃ h : i < prims.length, prims[i] = s ∧ n = (i : Int) + 1)) ∧ Gives G n_spec_l2Prim [.str s] σ (.int .i64 n) := by
  have h : RepS 1 StrRep (hnew σ 1 (prims.map .str)) (.sl σ.length 0 16 true) prims := RepS.lit σ prims .str (fun _ => rfl) true 16 rfl
  have hp : prims.length = 16 := rfl
  obtain ⟨w, σ', ⟨hl, n, hn, rfl⟩, he⟩ := loop (L := spec_l2Prim.L0) (A := spec_l2Prim.A0) (S := Nat)
    (Inv := fun i => i ≤ prims.length ∧ ∀ j x, j < i → prims[j]? = some x → x ≠ s) (Good := fun w σ' => Lh σ σ' ∧ ∃ n : Int, ((n = 0 ∧ ∀ x, x ∈ prims → x ≠ s) ∨ (∃ i, ∃ h : i < prims.length, prims[i] = s ∧ n = (i : Int) + 1)) ∧ w = .int .i64 n)
    (vals := fun i => [.v (.str s), .v (.sl σ.length 0 16 true), .v (.int .i64 (i : Int))]) (hp := fun _ => hnew σ 1 (prims.map .str)) (far := fun i => prims.length - i) (fun i ⟨hi, hne⟩ => by
      by_cases hlt : i < prims.length
      · obtain ⟨r, o, hv, cs, hr, hP⟩ := h.at hlt
        unfold StrRep at hP
        subst hP
        have hw : IntKind.wrap .i64 ((i : Int) + 1) = ((i + 1 : Nat) : Int) := wrap_id (by omega) (by omega)
        by_cases hs : prims[i] = s
        · refine .inl ⟨.int .i64 ((i : Int) + 1), hnew σ 1 (prims.map .str), ⟨Lh.new _ _ _, _, .inr ⟨i, hlt, hs, rfl⟩, rfl⟩, Ev.now fun k m => ?_⟩
          rw [spec_l2Prim.L0_step, h.vlen]
          simp [hlt, hv, hr, hs, spec_l2Prim.A0_ret, hw]
        · refine .inr ⟨i + 1, ⟨hlt, fun j x hj hx => ?_⟩, by omega, Ev.now fun k m => ?_⟩
          · by_cases hji : j = i
            · subst hji
              rw [List.getElem?_eq_getElem hlt] at hx
              injection hx with hx
              rw [← hx]; exact hs
            · exact hne j x (by omega) hx
          · rw [spec_l2Prim.L0_step, h.vlen]
            simp [hlt, hv, hr, hs]
            rw [hw]
            rfl
      · refine .inl ⟨.int .i64 0, hnew σ 1 (prims.map .str), ⟨Lh.new _ _ _, 0, .inl ⟨rfl, fun x hx hc => ?_⟩, rfl⟩, Ev.now fun k m => ?_⟩
        · obtain ⟨j, hj, hjs⟩ := List.getElem_of_mem hx
          exact hne j _ (by omega) (List.getElem?_eq_getElem hj) (hjs.trans hc)
        · rw [spec_l2Prim.L0_step, h.vlen]
          simp [hlt, spec_l2Prim.A0_x0]) 0 ⟨Nat.zero_le _, fun j x hj => absurd hj (by omega)⟩
  refine ⟨n, hn, Gives.mk hl (((prims_runs σ).and (Ev.far prims.length he)).mono fun k ⟨e1, e, hk⟩ => ?_)⟩
  rw [spec_l2Prim.eq, e1]
  exact e k (by omega)
theorem specArity_gives (σ : Heap) (s : ByteArray) : Gives G n_spec_TreeArity [.str s] σ (.int .i64 (arity s)) := by
  obtain ⟨n, hn, σ1, l1, c1⟩ := l2Prim_gives σ s
  refine Gives.mk l1 (c1.mono fun k e => ?_)
  rw [spec_TreeArity.eq, e]
  rcases hn with ⟨rfl, hn⟩ | ⟨i, hi, hs, rfl⟩
  · have h : ∀ x, x ∈ prims → ¬ s = x := fun x hx hc => hn x hx hc.symm
    have ha : arity s = -1 := by
      simp only [prims, List.mem_cons, List.not_mem_nil, or_false, forall_eq_or_imp, forall_eq] at h
      simp [arity, h]
    rw [ha]
    rfl
  · have hp : prims.length = 16 := rfl
    have : i = 0 ∨ i = 1 ∨ i = 2 ∨ i = 3 ∨ i = 4 ∨ i = 5 ∨ i = 6 ∨ i = 7 ∨ i = 8 ∨ i = 9 ∨ i = 10 ∨ i = 11 ∨ i = 12 ∨ i = 13 ∨ i = 14 ∨ i = 15 := by omega
    subst hs
    rcases this with rfl | rfl | rfl | rfl | rfl | rfl | rfl | rfl | rfl | rfl | rfl | rfl | rfl | rfl | rfl | rfl <;> (first | rfl | (show (_ : Option (V × Heap)) = _; kernel_rfl))
end Go.G

/- TypePrim of both. -/
set_option linter.unusedVariables false
set_option linter.unusedSimpArgs false
set_option maxRecDepth 100000
namespace Go.G
open Go.HM Go.Proofs
def primT (s : ByteArray) : List Int × Int :=
  if s = ⟨#[43]⟩ ∨ s = ⟨#[45]⟩ ∨ s = ⟨#[42]⟩ ∨ s = ⟨#[47]⟩ ∨ s = ⟨#[37]⟩ then ([1, 1], 1)
  else if s = ⟨#[60]⟩ ∨ s = ⟨#[60, 61]⟩ ∨ s = ⟨#[61]⟩ then ([1, 1], 2)
  else if s = ⟨#[110, 111, 116]⟩ then ([2], 2)
  else if s = ⟨#[97, 116]⟩ then ([3, 1], 1)
  else if s = ⟨#[108, 101, 110]⟩ then ([3], 1)
  else if s = ⟨#[112, 117, 116]⟩ then ([3, 1, 1], 3)
  else if s = ⟨#[106, 111, 105, 110]⟩ then ([3, 3], 3)
  else if s = ⟨#[112, 114, 105, 110, 116]⟩ then ([1], 1)
  else if s = ⟨#[97, 110, 100]⟩ ∨ s = ⟨#[111, 114]⟩ then ([2, 2], 2)
  else ([], 0)
def PrimP (σ : Heap) (s : ByteArray) (w : V) (σ' : Heap) : Prop := ∃ v, w = .tuple [v, .int .i64 (primT s).2] ∧ Lh σ σ' ∧ RepS 1 IntRep σ' v (primT s).1
theorem newInts (σ : Heap) (l : List Int) : RepS 1 IntRep (hnew σ 1 (l.map fun n => V.int .i64 n)) (.sl σ.length 0 l.length true) l := by
  refine .sl σ.length 0 l.length true ⟨l.map fun n => V.int .i64 n, 1, false, 0⟩ l rfl (by simp [hnew]) rfl (by simp) fun i x hx => ?_
  have hi := lt_of_get hx
  simp only [Nat.zero_add, Nat.mul_one]
  have : ((l.map fun n => V.int .i64 n).drop i).take 1 = [.int .i64 x] := by
    rw [← List.map_drop, ← List.map_take]
    have : (l.drop i).take 1 = [x] := by
      rw [List.take_one, List.head?_drop, hx]
      rfl
    rw [this]
    rfl
  rw [this]
  rfl
theorem prim_new {σ σ0 : Heap} (h : Lh σ0 σ) {s : ByteArray} {l : List Int} {t : Int} (e : primT s = (l, t)) {n : Nat} (hn : n = l.length) {cells : List V} (hc : cells = l.map fun n => V.int .i64 n) : PrimP σ0 s (.tuple [.sl σ.length 0 n true, .int .i64 t]) (hnew σ 1 cells) := by
  subst hn hc
  refine ⟨_, by rw [e], h.trans (Lh.new _ _ _), ?_⟩
  rw [e]
  exact newInts σ l
theorem implTypePrim_ends (σ : Heap) (s : ByteArray) : HM.Ends G n_impl_TypePrim [.str s] σ (PrimP σ s) := by
  by_cases h0 : s = ⟨#[43]⟩
  · subst h0
    exact HM.Ends.mk (W.to (fun k _ => (impl_TypePrim.eq k _ σ).trans (by kernel_rfl : _ = some (.tuple [.sl σ.length 0 2 true, .int .i64 1], hnew σ 1 [.int .i64 1, .int .i64 1]))) (W.ret (prim_new (Lh.refl _) (l := [1, 1]) (by kernel_rfl) rfl rfl)))
  by_cases h1 : s = ⟨#[45]⟩
  · subst h1
    exact HM.Ends.mk (W.to (fun k _ => (impl_TypePrim.eq k _ σ).trans (by kernel_rfl : _ = some (.tuple [.sl σ.length 0 2 true, .int .i64 1], hnew σ 1 [.int .i64 1, .int .i64 1]))) (W.ret (prim_new (Lh.refl _) (l := [1, 1]) (by kernel_rfl) rfl rfl)))
  by_cases h2 : s = ⟨#[42]⟩
  · subst h2
    exact HM.Ends.mk (W.to (fun k _ => (impl_TypePrim.eq k _ σ).trans (by kernel_rfl : _ = some (.tuple [.sl σ.length 0 2 true, .int .i64 1], hnew σ 1 [.int .i64 1, .int .i64 1]))) (W.ret (prim_new (Lh.refl _) (l := [1, 1]) (by kernel_rfl) rfl rfl)))
  by_cases h3 : s = ⟨#[47]⟩
  · subst h3
    exact HM.Ends.mk (W.to (fun k _ => (impl_TypePrim.eq k _ σ).trans (by kernel_rfl : _ = some (.tuple [.sl σ.length 0 2 true, .int .i64 1], hnew σ 1 [.int .i64 1, .int .i64 1]))) (W.ret (prim_new (Lh.refl _) (l := [1, 1]) (by kernel_rfl) rfl rfl)))
  by_cases h4 : s = ⟨#[37]⟩
  · subst h4
    exact HM.Ends.mk (W.to (fun k _ => (impl_TypePrim.eq k _ σ).trans (by kernel_rfl : _ = some (.tuple [.sl σ.length 0 2 true, .int .i64 1], hnew σ 1 [.int .i64 1, .int .i64 1]))) (W.ret (prim_new (Lh.refl _) (l := [1, 1]) (by kernel_rfl) rfl rfl)))
  by_cases h5 : s = ⟨#[60]⟩
  · subst h5
    exact HM.Ends.mk (W.to (fun k _ => (impl_TypePrim.eq k _ σ).trans (by kernel_rfl : _ = some (.tuple [.sl σ.length 0 2 true, .int .i64 2], hnew σ 1 [.int .i64 1, .int .i64 1]))) (W.ret (prim_new (Lh.refl _) (l := [1, 1]) (by kernel_rfl) rfl rfl)))
  by_cases h6 : s = ⟨#[60, 61]⟩
  · subst h6
    exact HM.Ends.mk (W.to (fun k _ => (impl_TypePrim.eq k _ σ).trans (by kernel_rfl : _ = some (.tuple [.sl σ.length 0 2 true, .int .i64 2], hnew σ 1 [.int .i64 1, .int .i64 1]))) (W.ret (prim_new (Lh.refl _) (l := [1, 1]) (by kernel_rfl) rfl rfl)))
  by_cases h7 : s = ⟨#[61]⟩
  · subst h7
    exact HM.Ends.mk (W.to (fun k _ => (impl_TypePrim.eq k _ σ).trans (by kernel_rfl : _ = some (.tuple [.sl σ.length 0 2 true, .int .i64 2], hnew σ 1 [.int .i64 1, .int .i64 1]))) (W.ret (prim_new (Lh.refl _) (l := [1, 1]) (by kernel_rfl) rfl rfl)))
  by_cases h8 : s = ⟨#[110, 111, 116]⟩
  · subst h8
    exact HM.Ends.mk (W.to (fun k _ => (impl_TypePrim.eq k _ σ).trans (by kernel_rfl : _ = some (.tuple [.sl σ.length 0 1 true, .int .i64 2], hnew σ 1 [.int .i64 2]))) (W.ret (prim_new (Lh.refl _) (l := [2]) (by kernel_rfl) rfl rfl)))
  by_cases h9 : s = ⟨#[97, 116]⟩
  · subst h9
    exact HM.Ends.mk (W.to (fun k _ => (impl_TypePrim.eq k _ σ).trans (by kernel_rfl : _ = some (.tuple [.sl σ.length 0 2 true, .int .i64 1], hnew σ 1 [.int .i64 3, .int .i64 1]))) (W.ret (prim_new (Lh.refl _) (l := [3, 1]) (by kernel_rfl) rfl rfl)))
  by_cases h10 : s = ⟨#[108, 101, 110]⟩
  · subst h10
    exact HM.Ends.mk (W.to (fun k _ => (impl_TypePrim.eq k _ σ).trans (by kernel_rfl : _ = some (.tuple [.sl σ.length 0 1 true, .int .i64 1], hnew σ 1 [.int .i64 3]))) (W.ret (prim_new (Lh.refl _) (l := [3]) (by kernel_rfl) rfl rfl)))
  by_cases h11 : s = ⟨#[112, 117, 116]⟩
  · subst h11
    exact HM.Ends.mk (W.to (fun k _ => (impl_TypePrim.eq k _ σ).trans (by kernel_rfl : _ = some (.tuple [.sl σ.length 0 3 true, .int .i64 3], hnew σ 1 [.int .i64 3, .int .i64 1, .int .i64 1]))) (W.ret (prim_new (Lh.refl _) (l := [3, 1, 1]) (by kernel_rfl) rfl rfl)))
  by_cases h12 : s = ⟨#[106, 111, 105, 110]⟩
  · subst h12
    exact HM.Ends.mk (W.to (fun k _ => (impl_TypePrim.eq k _ σ).trans (by kernel_rfl : _ = some (.tuple [.sl σ.length 0 2 true, .int .i64 3], hnew σ 1 [.int .i64 3, .int .i64 3]))) (W.ret (prim_new (Lh.refl _) (l := [3, 3]) (by kernel_rfl) rfl rfl)))
  by_cases h13 : s = ⟨#[112, 114, 105, 110, 116]⟩
  · subst h13
    exact HM.Ends.mk (W.to (fun k _ => (impl_TypePrim.eq k _ σ).trans (by kernel_rfl : _ = some (.tuple [.sl σ.length 0 1 true, .int .i64 1], hnew σ 1 [.int .i64 1]))) (W.ret (prim_new (Lh.refl _) (l := [1]) (by kernel_rfl) rfl rfl)))
  by_cases h14 : s = ⟨#[97, 110, 100]⟩
  · subst h14
    exact HM.Ends.mk (W.to (fun k _ => (impl_TypePrim.eq k _ σ).trans (by kernel_rfl : _ = some (.tuple [.sl σ.length 0 2 true, .int .i64 2], hnew σ 1 [.int .i64 2, .int .i64 2]))) (W.ret (prim_new (Lh.refl _) (l := [2, 2]) (by kernel_rfl) rfl rfl)))
  by_cases h15 : s = ⟨#[111, 114]⟩
  · subst h15
    exact HM.Ends.mk (W.to (fun k _ => (impl_TypePrim.eq k _ σ).trans (by kernel_rfl : _ = some (.tuple [.sl σ.length 0 2 true, .int .i64 2], hnew σ 1 [.int .i64 2, .int .i64 2]))) (W.ret (prim_new (Lh.refl _) (l := [2, 2]) (by kernel_rfl) rfl rfl)))
  refine HM.Ends.mk (W.to (fun k _ => impl_TypePrim.eq k _ _) ?_)
  simp only [decide_eq_false h0, decide_eq_false h1, decide_eq_false h2, decide_eq_false h3, decide_eq_false h4, decide_eq_false h5, decide_eq_false h6, decide_eq_false h7, decide_eq_false h8, decide_eq_false h9, decide_eq_false h10, decide_eq_false h11, decide_eq_false h12, decide_eq_false h13, decide_eq_false h14, decide_eq_false h15, cond_false]
  refine W.ret ⟨.nils, ?_, Lh.refl _, ?_⟩
  · unfold primT
    simp only [h0, h1, h2, h3, h4, h5, h6, h7, h8, h9, h10, h11, h12, h13, h14, h15, or_self, if_false]
  · unfold primT
    simp only [h0, h1, h2, h3, h4, h5, h6, h7, h8, h9, h10, h11, h12, h13, h14, h15, or_self, if_false]
    exact .nils
theorem specTypePrim_ends (σ : Heap) (s : ByteArray) : HM.Ends G n_spec_TypePrim [.str s] σ (PrimP σ s) := by
  refine HM.Ends.mk (W.to (fun k _ => spec_TypePrim.eq k _ _) ?_)
  obtain ⟨n, hn, c⟩ := l2Prim_gives σ s
  refine W.give c fun σ1 l1 => ?_
  rcases hn with ⟨rfl, hn⟩ | ⟨i, hi, rfl, rfl⟩
  · try simp only [q_bind_some, castInt_int, q_castBool, q_castStr, q_castPtr, q_castFn, q_castAgg, q_castTuple, q_uncons, q_isNil, q_sl, q_nils, q_emp, q_ptr, q_nilp, q_fn, q_cond_true, q_cond_false, Bool.not_true, Bool.not_false, decide_true, decide_false, List.cons_append, List.nil_append]
    have hp : ∀ x, x ∈ prims → s ≠ x := fun x hx e => hn x hx e.symm
    simp only [prims, List.mem_cons, List.not_mem_nil, or_false, forall_eq_or_imp, forall_eq] at hp
    obtain ⟨h0, h1, h2, h3, h4, h5, h6, h7, h8, h9, h10, h11, h12, h13, h14, h15⟩ := hp
    refine W.ret ⟨.nils, ?_, l1, ?_⟩
    · unfold primT
      simp only [h0, h1, h2, h3, h4, h5, h6, h7, h8, h9, h10, h11, h12, h13, h14, h15, or_self, if_false]
    · unfold primT
      simp only [h0, h1, h2, h3, h4, h5, h6, h7, h8, h9, h10, h11, h12, h13, h14, h15, or_self, if_false]
      exact .nils
  · have hi16 : i < 16 := hi
    match i, hi16 with
    | 0, _ =>
      try simp only [q_bind_some, castInt_int, q_castBool, q_castStr, q_castPtr, q_castFn, q_castAgg, q_castTuple, q_uncons, q_isNil, q_sl, q_nils, q_emp, q_ptr, q_nilp, q_fn, q_cond_true, q_cond_false, Bool.not_true, Bool.not_false, decide_true, decide_false, List.cons_append, List.nil_append]
      exact W.ret (prim_new l1 (l := [1, 1]) (by kernel_rfl) rfl rfl)
    | 1, _ =>
      try simp only [q_bind_some, castInt_int, q_castBool, q_castStr, q_castPtr, q_castFn, q_castAgg, q_castTuple, q_uncons, q_isNil, q_sl, q_nils, q_emp, q_ptr, q_nilp, q_fn, q_cond_true, q_cond_false, Bool.not_true, Bool.not_false, decide_true, decide_false, List.cons_append, List.nil_append]
      exact W.ret (prim_new l1 (l := [1, 1]) (by kernel_rfl) rfl rfl)
    | 2, _ =>
      try simp only [q_bind_some, castInt_int, q_castBool, q_castStr, q_castPtr, q_castFn, q_castAgg, q_castTuple, q_uncons, q_isNil, q_sl, q_nils, q_emp, q_ptr, q_nilp, q_fn, q_cond_true, q_cond_false, Bool.not_true, Bool.not_false, decide_true, decide_false, List.cons_append, List.nil_append]
      exact W.ret (prim_new l1 (l := [1, 1]) (by kernel_rfl) rfl rfl)
    | 3, _ =>
      try simp only [q_bind_some, castInt_int, q_castBool, q_castStr, q_castPtr, q_castFn, q_castAgg, q_castTuple, q_uncons, q_isNil, q_sl, q_nils, q_emp, q_ptr, q_nilp, q_fn, q_cond_true, q_cond_false, Bool.not_true, Bool.not_false, decide_true, decide_false, List.cons_append, List.nil_append]
      exact W.ret (prim_new l1 (l := [1, 1]) (by kernel_rfl) rfl rfl)
    | 4, _ =>
      try simp only [q_bind_some, castInt_int, q_castBool, q_castStr, q_castPtr, q_castFn, q_castAgg, q_castTuple, q_uncons, q_isNil, q_sl, q_nils, q_emp, q_ptr, q_nilp, q_fn, q_cond_true, q_cond_false, Bool.not_true, Bool.not_false, decide_true, decide_false, List.cons_append, List.nil_append]
      exact W.ret (prim_new l1 (l := [1, 1]) (by kernel_rfl) rfl rfl)
    | 5, _ =>
      try simp only [q_bind_some, castInt_int, q_castBool, q_castStr, q_castPtr, q_castFn, q_castAgg, q_castTuple, q_uncons, q_isNil, q_sl, q_nils, q_emp, q_ptr, q_nilp, q_fn, q_cond_true, q_cond_false, Bool.not_true, Bool.not_false, decide_true, decide_false, List.cons_append, List.nil_append]
      exact W.ret (prim_new l1 (l := [1, 1]) (by kernel_rfl) rfl rfl)
    | 6, _ =>
      try simp only [q_bind_some, castInt_int, q_castBool, q_castStr, q_castPtr, q_castFn, q_castAgg, q_castTuple, q_uncons, q_isNil, q_sl, q_nils, q_emp, q_ptr, q_nilp, q_fn, q_cond_true, q_cond_false, Bool.not_true, Bool.not_false, decide_true, decide_false, List.cons_append, List.nil_append]
      exact W.ret (prim_new l1 (l := [1, 1]) (by kernel_rfl) rfl rfl)
    | 7, _ =>
      try simp only [q_bind_some, castInt_int, q_castBool, q_castStr, q_castPtr, q_castFn, q_castAgg, q_castTuple, q_uncons, q_isNil, q_sl, q_nils, q_emp, q_ptr, q_nilp, q_fn, q_cond_true, q_cond_false, Bool.not_true, Bool.not_false, decide_true, decide_false, List.cons_append, List.nil_append]
      exact W.ret (prim_new l1 (l := [1, 1]) (by kernel_rfl) rfl rfl)
    | 8, _ =>
      try simp only [q_bind_some, castInt_int, q_castBool, q_castStr, q_castPtr, q_castFn, q_castAgg, q_castTuple, q_uncons, q_isNil, q_sl, q_nils, q_emp, q_ptr, q_nilp, q_fn, q_cond_true, q_cond_false, Bool.not_true, Bool.not_false, decide_true, decide_false, List.cons_append, List.nil_append]
      exact W.ret (prim_new l1 (l := [2]) (by kernel_rfl) rfl rfl)
    | 9, _ =>
      try simp only [q_bind_some, castInt_int, q_castBool, q_castStr, q_castPtr, q_castFn, q_castAgg, q_castTuple, q_uncons, q_isNil, q_sl, q_nils, q_emp, q_ptr, q_nilp, q_fn, q_cond_true, q_cond_false, Bool.not_true, Bool.not_false, decide_true, decide_false, List.cons_append, List.nil_append]
      exact W.ret (prim_new l1 (l := [3, 1]) (by kernel_rfl) rfl rfl)
    | 10, _ =>
      try simp only [q_bind_some, castInt_int, q_castBool, q_castStr, q_castPtr, q_castFn, q_castAgg, q_castTuple, q_uncons, q_isNil, q_sl, q_nils, q_emp, q_ptr, q_nilp, q_fn, q_cond_true, q_cond_false, Bool.not_true, Bool.not_false, decide_true, decide_false, List.cons_append, List.nil_append]
      exact W.ret (prim_new l1 (l := [3]) (by kernel_rfl) rfl rfl)
    | 11, _ =>
      try simp only [q_bind_some, castInt_int, q_castBool, q_castStr, q_castPtr, q_castFn, q_castAgg, q_castTuple, q_uncons, q_isNil, q_sl, q_nils, q_emp, q_ptr, q_nilp, q_fn, q_cond_true, q_cond_false, Bool.not_true, Bool.not_false, decide_true, decide_false, List.cons_append, List.nil_append]
      exact W.ret (prim_new l1 (l := [3, 1, 1]) (by kernel_rfl) rfl rfl)
    | 12, _ =>
      try simp only [q_bind_some, castInt_int, q_castBool, q_castStr, q_castPtr, q_castFn, q_castAgg, q_castTuple, q_uncons, q_isNil, q_sl, q_nils, q_emp, q_ptr, q_nilp, q_fn, q_cond_true, q_cond_false, Bool.not_true, Bool.not_false, decide_true, decide_false, List.cons_append, List.nil_append]
      exact W.ret (prim_new l1 (l := [3, 3]) (by kernel_rfl) rfl rfl)
    | 13, _ =>
      try simp only [q_bind_some, castInt_int, q_castBool, q_castStr, q_castPtr, q_castFn, q_castAgg, q_castTuple, q_uncons, q_isNil, q_sl, q_nils, q_emp, q_ptr, q_nilp, q_fn, q_cond_true, q_cond_false, Bool.not_true, Bool.not_false, decide_true, decide_false, List.cons_append, List.nil_append]
      exact W.ret (prim_new l1 (l := [1]) (by kernel_rfl) rfl rfl)
    | 14, _ =>
      try simp only [q_bind_some, castInt_int, q_castBool, q_castStr, q_castPtr, q_castFn, q_castAgg, q_castTuple, q_uncons, q_isNil, q_sl, q_nils, q_emp, q_ptr, q_nilp, q_fn, q_cond_true, q_cond_false, Bool.not_true, Bool.not_false, decide_true, decide_false, List.cons_append, List.nil_append]
      exact W.ret (prim_new l1 (l := [2, 2]) (by kernel_rfl) rfl rfl)
    | 15, _ =>
      try simp only [q_bind_some, castInt_int, q_castBool, q_castStr, q_castPtr, q_castFn, q_castAgg, q_castTuple, q_uncons, q_isNil, q_sl, q_nils, q_emp, q_ptr, q_nilp, q_fn, q_cond_true, q_cond_false, Bool.not_true, Bool.not_false, decide_true, decide_false, List.cons_append, List.nil_append]
      exact W.ret (prim_new l1 (l := [2, 2]) (by kernel_rfl) rfl rfl)
    | i + 16, h16 => exact absurd h16 (by omega)
end Go.G

/- Right expressions. -/
set_option linter.unusedVariables false
set_option linter.unusedSimpArgs false
set_option maxRecDepth 100000
set_option maxHeartbeats 2000000
namespace Go.G
open Go.HM Go.Proofs
abbrev E0 : ByteArray := ⟨#[]⟩
def NodeOk (e : TreeExpr) : Prop :=
  (e.kind = 1 ∧ (e.kids.length : Int) = 0 ∧ e.name = E0 ∧ e.mod = E0 ∧ -99999999999999999 ≤ e.num ∧ e.num ≤ 99999999999999999) ∨
  (e.kind = 2 ∧ (e.kids.length : Int) = 0 ∧ e.name = E0 ∧ e.mod = E0 ∧ 0 ≤ e.num ∧ e.num ≤ 1) ∨
  (e.kind = 3 ∧ (e.kids.length : Int) = 0 ∧ e.num = 0 ∧ e.mod = E0 ∧ IsName e.name) ∨
  (e.kind = 4 ∧ e.num = 0 ∧ e.mod = E0 ∧ (e.kids.length : Int) = arity e.name) ∨
  (e.kind = 5 ∧ (e.kids.length : Int) = 3 ∧ e.num = 0 ∧ e.name = E0 ∧ e.mod = E0) ∨
  (e.kind = 6 ∧ (e.kids.length : Int) = 2 ∧ e.num = 0 ∧ e.mod = E0 ∧ IsName e.name) ∨
  (e.kind = 7 ∧ (e.kids.length : Int) ≤ 4 ∧ e.num = 0 ∧ IsName e.name ∧ (e.mod = E0 ∨ IsName e.mod)) ∨
  (e.kind = 8 ∧ (e.kids.length : Int) ≤ 8 ∧ e.num = 0 ∧ e.name = E0 ∧ e.mod = E0)
noncomputable instance (e : TreeExpr) : Decidable (NodeOk e) := Classical.propDecidable _
theorem partsOk_gives {σ : Heap} {e : TreeExpr} (hf : e.Fit) {cs : List V} (hr : TreeExpr.Rep σ cs e) : Gives G n_impl_TreeExpr_partsOk [.agg cs] σ (.bool (decide (NodeOk e))) := by
  cases hf with
  | mk f0 f1 f2 f3 f4 f5 =>
  cases hr with
  | mk h =>
  have hv := h.vlen
  obtain ⟨σ1, l1, c1⟩ := implLexName_gives σ e.name f2
  obtain ⟨σ2, l2, c2⟩ := implLexName_gives σ1 e.mod f3
  have c3 := isShort_runs (σ := σ) e.num
  have c4 := inRange_runs (σ := σ) e.num 0 1
  have c5 := implArity_runs (σ := σ) e.name
  by_cases k1 : e.kind = 1
  · refine Gives.mk (Lh.refl σ) (c3.mono fun k e3 => ?_)
    rw [impl_TreeExpr_partsOk.eq]
    by_cases hn : e.name = E0
    · by_cases hm : e.mod = E0
      · by_cases hs : -99999999999999999 ≤ e.num ∧ e.num ≤ 99999999999999999 <;> simp [k1, hn, hm, e3, hv, NodeOk, hs]
      · simp [k1, hn, hm, NodeOk]
    · simp [k1, hn, NodeOk]
  by_cases k2 : e.kind = 2
  · refine Gives.mk (Lh.refl σ) (c4.mono fun k e4 => ?_)
    rw [impl_TreeExpr_partsOk.eq]
    by_cases hn : e.name = E0
    · by_cases hm : e.mod = E0
      · by_cases hs : 0 ≤ e.num ∧ e.num ≤ 1 <;> simp [k2, hn, hm, e4, hv, NodeOk, hs]
      · simp [k2, hn, hm, NodeOk]
    · simp [k2, hn, NodeOk]
  by_cases h0 : e.num = 0
  rotate_left
  · refine Gives.mk (Lh.refl σ) (Ev.now fun k => ?_)
    have : ¬ NodeOk e := by simp [NodeOk, k1, k2, h0]
    rw [impl_TreeExpr_partsOk.eq]
    by_cases hn : e.name = E0 <;> simp [k1, k2, hn, h0, this]
  by_cases k3 : e.kind = 3
  · refine Gives.mk l1 (c1.mono fun k e1 => ?_)
    rw [impl_TreeExpr_partsOk.eq]
    by_cases hi : IsName e.name <;> by_cases hm : e.mod = E0 <;> by_cases hn : e.name = E0 <;> simp [k3, h0, hm, hn, e1, hv, NodeOk, hi] <;> simp_all
  by_cases k4 : e.kind = 4
  · refine Gives.mk (Lh.refl σ) (c5.mono fun k e5 => ?_)
    rw [impl_TreeExpr_partsOk.eq]
    by_cases hm : e.mod = E0 <;> by_cases hn : e.name = E0 <;> simp [k4, h0, hm, hn, e5, hv, NodeOk] <;> simp_all
  by_cases k5 : e.kind = 5
  · refine Gives.mk (Lh.refl σ) (Ev.now fun k => ?_)
    rw [impl_TreeExpr_partsOk.eq]
    by_cases hm : e.mod = E0 <;> by_cases hn : e.name = E0 <;> simp [k5, h0, hm, hn, hv, NodeOk]
  by_cases k6 : e.kind = 6
  · refine Gives.mk l1 (c1.mono fun k e1 => ?_)
    rw [impl_TreeExpr_partsOk.eq]
    by_cases hi : IsName e.name <;> by_cases hm : e.mod = E0 <;> by_cases hn : e.name = E0 <;> simp [k6, h0, hm, hn, e1, hv, NodeOk, hi] <;> simp_all
  by_cases k7 : e.kind = 7
  · by_cases hi : IsName e.name
    · by_cases hm : e.mod = E0
      · refine Gives.mk l1 (c1.mono fun k e1 => ?_)
        rw [impl_TreeExpr_partsOk.eq]
        by_cases hn : e.name = E0 <;> simp [k7, h0, hm, hn, e1, hv, NodeOk, hi] <;> simp_all
      · refine Gives.mk (l1.trans l2) ((c1.and c2).mono fun k ⟨e1, e2⟩ => ?_)
        rw [impl_TreeExpr_partsOk.eq]
        by_cases hM : IsName e.mod <;> by_cases hn : e.name = E0 <;> simp [k7, h0, hm, hn, e1, e2, hv, NodeOk, hi, hM] <;> simp_all
    · refine Gives.mk l1 (c1.mono fun k e1 => ?_)
      rw [impl_TreeExpr_partsOk.eq]
      by_cases hn : e.name = E0 <;> simp [k7, h0, hn, e1, hv, NodeOk, hi] <;> simp_all
  refine Gives.mk (Lh.refl σ) (Ev.now fun k => ?_)
  rw [impl_TreeExpr_partsOk.eq]
  by_cases k8 : e.kind = 8 <;> by_cases hm : e.mod = E0 <;> by_cases hn : e.name = E0 <;> simp [k1, k2, k3, k4, k5, k6, k7, k8, h0, hm, hn, hv, NodeOk]
theorem l2Plain_runs {σ : Heap} {n1 n2 : Int} {s3 s4 : ByteArray} {a5 : V} (b6 b7 b8 : Bool) : Runs G n_spec_l2Plain [.agg [.int .i64 n1, .int .i64 n2, .str s3, .str s4, a5], .bool b6, .bool b7, .bool b8] σ (.bool (decide ((b6 = true ∨ n2 = 0) ∧ (b7 = true ∨ s3 = E0) ∧ (b8 = true ∨ s4 = E0)))) σ := Runs.mk (Ev.now fun k => by
  rw [spec_l2Plain.eq]
  cases b6 <;> cases b7 <;> cases b8 <;> by_cases h1 : n2 = 0 <;> by_cases h2 : s3 = E0 <;> simp [h1, h2])
theorem l2Node_gives {σ : Heap} {e : TreeExpr} (hf : e.Fit) {cs : List V} (hr : TreeExpr.Rep σ cs e) : Gives G n_spec_l2Node [.agg cs] σ (.bool (decide (NodeOk e))) := by
  cases hf with
  | mk f0 f1 f2 f3 f4 f5 =>
  cases hr with
  | mk h =>
  rename_i a
  have hv := h.vlen
  obtain ⟨σ1, l1, c1⟩ := specLexName_gives σ e.name f2
  obtain ⟨σ2, l2, c2⟩ := specLexName_gives σ1 e.mod f3
  obtain ⟨σ5, l5, c5⟩ := specArity_gives σ e.name
  have c3 := l2Plain_runs (σ := σ) (n1 := e.kind) (n2 := e.num) (s3 := e.name) (s4 := e.mod) (a5 := a) true false false
  have c6 := l2Plain_runs (σ := σ) (n1 := e.kind) (n2 := e.num) (s3 := e.name) (s4 := e.mod) (a5 := a) false true false
  have c7 := l2Plain_runs (σ := σ) (n1 := e.kind) (n2 := e.num) (s3 := e.name) (s4 := e.mod) (a5 := a) false false false
  have c8 := l2Plain_runs (σ := σ) (n1 := e.kind) (n2 := e.num) (s3 := e.name) (s4 := e.mod) (a5 := a) false true true
  simp only [true_or, Bool.false_eq_true, false_or, true_and, and_true] at c3 c6 c7 c8
  have big : (e.num < 100000000000000000 ∧ -100000000000000000 < e.num) ↔ (-99999999999999999 ≤ e.num ∧ e.num ≤ 99999999999999999) := by omega
  have flag : (e.num = 0 ∨ e.num = 1) ↔ (0 ≤ e.num ∧ e.num ≤ 1) := by omega
  by_cases k1 : e.kind = 1
  · refine Gives.mk (Lh.refl σ) (c3.mono fun k e3 => ?_)
    have hN : NodeOk e ↔ ((e.kids.length : Int) = 0 ∧ e.name = E0 ∧ e.mod = E0 ∧ (e.num < 100000000000000000 ∧ -100000000000000000 < e.num)) := by rw [big]; simp [NodeOk, k1]
    rw [spec_l2Node.eq]
    simp only [hv, Option.bind_some, e3, castBool_bool]
    by_cases hl : e.kids = [] <;> by_cases hn : e.name = E0 <;> by_cases hm : e.mod = E0 <;> by_cases hs : e.num < 100000000000000000 <;> simp [k1, hl, hn, hm, hs, hN]
  by_cases k2 : e.kind = 2
  · refine Gives.mk (Lh.refl σ) (c3.mono fun k e3 => ?_)
    have hN : NodeOk e ↔ ((e.kids.length : Int) = 0 ∧ e.name = E0 ∧ e.mod = E0 ∧ (e.num = 0 ∨ e.num = 1)) := by rw [flag]; simp [NodeOk, k2]
    rw [spec_l2Node.eq]
    simp only [hv, Option.bind_some, e3, castBool_bool]
    by_cases hl : e.kids = [] <;> by_cases hn : e.name = E0 <;> by_cases hm : e.mod = E0 <;> by_cases hs : e.num = 0 <;> simp [k2, hl, hn, hm, hs, hN]
  by_cases k3 : e.kind = 3
  · have hN : NodeOk e ↔ ((e.kids.length : Int) = 0 ∧ (e.num = 0 ∧ e.mod = E0) ∧ IsName e.name) := by simp [NodeOk, k3, and_assoc]
    by_cases hl : e.kids = []
    · by_cases hp : e.num = 0 ∧ e.mod = E0
      · refine Gives.mk l1 ((c6.and c1).mono fun k ⟨e6, e1⟩ => ?_)
        rw [spec_l2Node.eq]
        simp only [hv, Option.bind_some, e6, castBool_bool, e1]
        simp [k3, hl, hp, hN]
      · refine Gives.mk (Lh.refl σ) (c6.mono fun k e6 => ?_)
        rw [spec_l2Node.eq]
        simp only [hv, Option.bind_some, e6, castBool_bool]
        simp [k3, hl, hp, hN]
    · refine Gives.mk (Lh.refl σ) (Ev.now fun k => ?_)
      rw [spec_l2Node.eq]
      simp [hv, k3, hl, hN]
  by_cases k4 : e.kind = 4
  · have hN : NodeOk e ↔ ((e.num = 0 ∧ e.mod = E0) ∧ (e.kids.length : Int) = arity e.name) := by simp [NodeOk, k4, and_assoc]
    by_cases hp : e.num = 0 ∧ e.mod = E0
    · refine Gives.mk l5 ((c6.and c5).mono fun k ⟨e6, e5⟩ => ?_)
      rw [spec_l2Node.eq]
      simp only [hv, Option.bind_some, e6, castBool_bool, e5, castInt_int]
      simp [k4, hp, hN]
    · refine Gives.mk (Lh.refl σ) (c6.mono fun k e6 => ?_)
      rw [spec_l2Node.eq]
      simp only [hv, Option.bind_some, e6, castBool_bool]
      simp [k4, hp, hN]
  by_cases k5 : e.kind = 5
  · have hN : NodeOk e ↔ ((e.kids.length : Int) = 3 ∧ (e.num = 0 ∧ e.name = E0 ∧ e.mod = E0)) := by simp [NodeOk, k5]
    refine Gives.mk (Lh.refl σ) (c7.mono fun k e7 => ?_)
    rw [spec_l2Node.eq]
    simp only [hv, Option.bind_some, e7, castBool_bool]
    by_cases hl : (e.kids.length : Int) = 3 <;> by_cases hp : e.num = 0 ∧ e.name = E0 ∧ e.mod = E0 <;> simp [k5, hl, hp, hN]
  by_cases k6 : e.kind = 6
  · have hN : NodeOk e ↔ ((e.kids.length : Int) = 2 ∧ (e.num = 0 ∧ e.mod = E0) ∧ IsName e.name) := by simp [NodeOk, k6, and_assoc]
    by_cases hl : (e.kids.length : Int) = 2
    · by_cases hp : e.num = 0 ∧ e.mod = E0
      · refine Gives.mk l1 ((c6.and c1).mono fun k ⟨e6, e1⟩ => ?_)
        rw [spec_l2Node.eq]
        simp only [hv, Option.bind_some, e6, castBool_bool, e1]
        simp [k6, hl, hp, hN]
      · refine Gives.mk (Lh.refl σ) (c6.mono fun k e6 => ?_)
        rw [spec_l2Node.eq]
        simp only [hv, Option.bind_some, e6, castBool_bool]
        simp [k6, hl, hp, hN]
    · refine Gives.mk (Lh.refl σ) (Ev.now fun k => ?_)
      rw [spec_l2Node.eq]
      simp [hv, k6, hl, hN]
  by_cases k7 : e.kind = 7
  · have hN : NodeOk e ↔ ((e.kids.length : Int) ≤ 4 ∧ e.num = 0 ∧ IsName e.name ∧ (e.mod = E0 ∨ IsName e.mod)) := by simp [NodeOk, k7]
    by_cases hl : (e.kids.length : Int) ≤ 4
    · by_cases hp : e.num = 0
      · by_cases hi : IsName e.name
        · by_cases hm : e.mod = E0
          · refine Gives.mk l1 ((c8.and c1).mono fun k ⟨e8, e1⟩ => ?_)
            rw [spec_l2Node.eq]
            simp only [hv, Option.bind_some, e8, castBool_bool, e1]
            simp [k7, hl, hp, hN, hi, hm]
          · refine Gives.mk (l1.trans l2) ((c8.and (c1.and c2)).mono fun k ⟨e8, e1, e2⟩ => ?_)
            rw [spec_l2Node.eq]
            simp only [hv, Option.bind_some, e8, castBool_bool, e1, e2]
            simp [k7, hl, hp, hN, hi, hm]
        · refine Gives.mk l1 ((c8.and c1).mono fun k ⟨e8, e1⟩ => ?_)
          rw [spec_l2Node.eq]
          simp only [hv, Option.bind_some, e8, castBool_bool, e1]
          simp [k7, hl, hp, hN, hi]
      · refine Gives.mk (Lh.refl σ) (c8.mono fun k e8 => ?_)
        rw [spec_l2Node.eq]
        simp only [hv, Option.bind_some, e8, castBool_bool]
        simp [k7, hl, hp, hN]
    · refine Gives.mk (Lh.refl σ) (Ev.now fun k => ?_)
      rw [spec_l2Node.eq]
      simp [hv, k7, hl, hN]
  refine Gives.mk (Lh.refl σ) (c7.mono fun k e7 => ?_)
  rw [spec_l2Node.eq]
  simp only [hv, Option.bind_some, e7, castBool_bool]
  by_cases k8 : e.kind = 8 <;> by_cases hl : (e.kids.length : Int) ≤ 8 <;> by_cases hp : e.num = 0 ∧ e.name = E0 ∧ e.mod = E0 <;> simp [k1, k2, k3, k4, k5, k6, k7, k8, hl, hp, NodeOk]
end Go.G

/- Right expressions, all through. -/
set_option linter.unusedVariables false
set_option linter.unusedSimpArgs false
namespace Go.G
open Go.HM Go.Proofs
inductive Right : TreeExpr → Prop where
  | mk {e : TreeExpr} : NodeOk e → (∀ x, x ∈ e.kids → Right x) → Right e
theorem right_iff (e : TreeExpr) : Right e ↔ NodeOk e ∧ ∀ x, x ∈ e.kids → Right x := ⟨fun h => by cases h with | mk a b => exact ⟨a, b⟩, fun h => .mk h.1 h.2⟩
noncomputable instance (e : TreeExpr) : Decidable (Right e) := Classical.propDecidable _
noncomputable def has {α : Type} (P : α → Prop) (l : List α) : Bool := @decide (∃ x, x ∈ l ∧ P x) (Classical.propDecidable _)
theorem has_true {α : Type} {P : α → Prop} {l : List α} : has P l = true ↔ ∃ x, x ∈ l ∧ P x := by simp [has]
theorem has_false {α : Type} {P : α → Prop} {l : List α} : has P l = false ↔ ∀ x, x ∈ l → ¬ P x := by simp [has]
theorem containsExpr_gives {σ : Heap} {v : V} {l : List TreeExpr} (hf : l.length ≤ 9223372036854775807) (h : RepS 5 (TreeExpr.Rep σ) σ v l) (f : FuncId) (P : TreeExpr → Prop)
    (hx : ∀ x, x ∈ l → ∀ σ cs, TreeExpr.Rep σ cs x → ∃ b, (b = true ↔ P x) ∧ Gives G f [.agg cs] σ (.bool b)) : Gives G n_slices_ContainsFunc_impl_TreeExpr_impl_TreeExpr [v, .fn f []] σ (.bool (has P l)) := by
  obtain ⟨w, σ', ⟨hl, n, hn, rfl⟩, he⟩ := loop (L := slices_IndexFunc_impl_TreeExpr_impl_TreeExpr.L0) (A := slices_IndexFunc_impl_TreeExpr_impl_TreeExpr.A0) (S := Nat × Heap)
    (Inv := fun s => s.1 ≤ l.length ∧ Lh σ s.2 ∧ ∀ x, x ∈ l.take s.1 → ¬ P x) (Good := fun w σ' => Lh σ σ' ∧ ∃ n : Int, (0 ≤ n ↔ ∃ x, x ∈ l ∧ P x) ∧ w = .int .i64 n)
    (vals := fun s => [.v v, .v (.fn f []), .v (.int .i64 (l.length : Int)), .v (.int .i64 (s.1 : Int))]) (hp := fun s => s.2) (far := fun s => l.length - s.1) (fun ⟨i, σi⟩ ⟨hi, hle, hok⟩ => by
      simp only at hi hle hok ⊢
      have hle' : RepS 5 (TreeExpr.Rep σi) σi v l := h.mono hle fun cs x _ hc => TreeExpr.Rep.le hle x hc
      by_cases hlt : i < l.length
      · obtain ⟨r, o, hv, cs, hr, hP⟩ := hle'.at hlt
        have hm : l[i] ∈ l := List.getElem_mem hlt
        obtain ⟨b, hb, σ1, l1, c1⟩ := hx _ hm σi cs hP
        have ht := take_next hlt
        generalize l[i] = x at hP hm hb ht
        cases hP with
        | mk hk =>
        have hw : IntKind.wrap .i64 ((i : Int) + 1) = ((i + 1 : Nat) : Int) := wrap_id (by omega) (by omega)
        cases b with
        | true =>
          refine .inl ⟨.int .i64 (i : Int), σ1, ⟨hle.trans l1, (i : Int), ?_, rfl⟩, c1.mono fun k e1 m => ?_⟩
          · exact ⟨fun _ => ⟨x, hm, hb.1 rfl⟩, fun _ => by omega⟩
          · rw [slices_IndexFunc_impl_TreeExpr_impl_TreeExpr.L0_step]
            simp [hlt, hv, hr, e1, slices_IndexFunc_impl_TreeExpr_impl_TreeExpr.A0_ret]
        | false =>
          refine .inr ⟨(i + 1, σ1), ⟨hlt, hle.trans l1, fun y hy => ?_⟩, by simp only; omega, c1.mono fun k e1 m => ?_⟩
          · rw [ht] at hy
            rcases List.mem_append.1 hy with h1 | h1
            · exact hok y h1
            · simp at h1; rw [h1]; intro hc; have := hb.2 hc; cases this
          · rw [slices_IndexFunc_impl_TreeExpr_impl_TreeExpr.L0_step]
            simp [hlt, hv, hr, e1]
            rw [hw]
            rfl
      · refine .inl ⟨.int .i64 (-1), σi, ⟨hle, -1, ?_, rfl⟩, Ev.now fun k m => ?_⟩
        · rw [List.take_of_length_le (by omega)] at hok
          simp
          exact hok
        · rw [slices_IndexFunc_impl_TreeExpr_impl_TreeExpr.L0_step]
          simp [hlt, slices_IndexFunc_impl_TreeExpr_impl_TreeExpr.A0_x0]) (0, σ) ⟨Nat.zero_le _, Lh.refl _, fun x hx => by simp at hx⟩
  have c2 : Runs G n_slices_IndexFunc_impl_TreeExpr_impl_TreeExpr [v, .fn f []] σ (.int .i64 n) σ' := Runs.mk ((Ev.far l.length he).mono fun k ⟨e, hk⟩ => by
    rw [slices_IndexFunc_impl_TreeExpr_impl_TreeExpr.eq, h.vlen]
    exact e k (by simpa using hk))
  refine Gives.mk hl (c2.mono fun k e => ?_)
  rw [slices_ContainsFunc_impl_TreeExpr_impl_TreeExpr.eq, e]
  have : has P l = decide (0 ≤ n) := by
    by_cases h0 : 0 ≤ n
    · rw [has_true.2 (hn.1 h0)]; simp [h0]
    · rw [has_false.2 fun x hx hp => h0 (hn.2 ⟨x, hx, hp⟩)]; simp [h0]
  rw [this]
  rfl
theorem fit_kids {e : TreeExpr} (h : e.Fit) : e.kids.length ≤ 9223372036854775807 ∧ ∀ x, x ∈ e.kids → x.Fit := by cases h with | mk f0 f1 f2 f3 f4 f5 => exact ⟨f4, f5⟩
theorem isRight_gives (e : TreeExpr) (hf : e.Fit) {σ : Heap} {cs : List V} (hr : TreeExpr.Rep σ cs e) : Gives G n_impl_TreeExpr_isRight [.agg cs] σ (.bool (decide (Right e))) := by
  have ih : ∀ x, x ∈ e.kids → ∀ σ cs, TreeExpr.Rep σ cs x → ∃ b, (b = true ↔ ¬ Right x) ∧ Gives G n_impl_TreeExpr_isRight_1 [.agg cs] σ (.bool b) := fun x hx σ cs hr => by
    obtain ⟨σ1, l1, c1⟩ := isRight_gives x ((fit_kids hf).2 x hx) hr
    refine ⟨!decide (Right x), by simp, Gives.mk l1 (c1.mono fun k e1 => ?_)⟩
    cases hr with
    | mk hk =>
    rw [impl_TreeExpr_isRight_1.eq, e1]
    rfl
  obtain ⟨σ1, l1, c1⟩ := partsOk_gives hf hr
  cases hr with
  | mk h =>
  rename_i a
  by_cases hn : NodeOk e
  · obtain ⟨σ2, l2, c2⟩ := containsExpr_gives (fit_kids hf).1 (h.mono l1 fun cs x _ hc => TreeExpr.Rep.le l1 x hc) n_impl_TreeExpr_isRight_1 (fun x => ¬ Right x) ih
    refine Gives.mk (l1.trans l2) ((c1.and c2).mono fun k ⟨e1, e2⟩ => ?_)
    rw [impl_TreeExpr_isRight.eq, e1]
    simp only [Option.bind_some, castBool_bool, hn, decide_true, cond_true, e2]
    have : (!has (fun x => ¬ Right x) e.kids) = decide (Right e) := by
      by_cases hr : Right e
      · rw [has_false.2 fun x hx hp => hp (((right_iff e).1 hr).2 x hx)]; simp [hr]
      · have : has (fun x => ¬ Right x) e.kids = true := Classical.byContradiction fun hc => hr (.mk hn fun x hx => Classical.byContradiction fun hp => hc (has_true.2 ⟨x, hx, hp⟩))
        rw [this]; simp [hr]
    rw [this]
  · refine Gives.mk l1 (c1.mono fun k e1 => ?_)
    have : ¬ Right e := fun hr => hn ((right_iff e).1 hr).1
    rw [impl_TreeExpr_isRight.eq, e1]
    simp [hn, this]
termination_by SizeOf.sizeOf e
decreasing_by
  cases e
  have := List.sizeOf_lt_of_mem hx
  simp at this ⊢
  omega
theorem exprOk_gives (e : TreeExpr) (hf : e.Fit) (ht : e.total ≤ 1048576) {σ : Heap} {cs : List V} (hr : TreeExpr.Rep σ cs e) : ∃ b, (b = true ↔ e.many ≤ 150 ∧ e.deep ≤ 16 ∧ Right e) ∧ Gives G n_impl_exprOk [.agg cs] σ (.bool b) := by
  have c1 := implTreeNodes_runs e ht hr
  obtain ⟨σ2, l2, c2⟩ := isRight_gives e hf hr
  cases hr with
  | mk h =>
  by_cases h1 : e.many ≤ 150
  · by_cases h2 : e.deep ≤ 16
    · refine ⟨decide (Right e), by simp [h1, h2], Gives.mk l2 ((c1.and c2).mono fun k ⟨e1, e2⟩ => ?_)⟩
      have h1' : (e.many : Int) ≤ 150 := by omega
      have h2' : (e.deep : Int) ≤ 16 := by omega
      rw [impl_exprOk.eq]
      simp only [e1, Option.bind_some, castTuple_tuple, uncons_cons, castInt_int, isNil_nil, h1', h2', decide_true, cond_true, e2, castBool_bool]
    · refine ⟨false, by simp [h2], Gives.mk (Lh.refl σ) (c1.mono fun k e1 => ?_)⟩
      have h1' : (e.many : Int) ≤ 150 := by omega
      have h2' : ¬ (e.deep : Int) ≤ 16 := by omega
      rw [impl_exprOk.eq]
      simp only [e1, Option.bind_some, castTuple_tuple, uncons_cons, castInt_int, isNil_nil, h1', h2', decide_true, cond_true, decide_false, cond_false]
  · refine ⟨false, by simp [h1], Gives.mk (Lh.refl σ) (c1.mono fun k e1 => ?_)⟩
    have h1' : ¬ (e.many : Int) ≤ 150 := by omega
    rw [impl_exprOk.eq]
    simp only [e1, Option.bind_some, castTuple_tuple, uncons_cons, castInt_int, isNil_nil, h1', decide_false, cond_false]
theorem l2Expr_gives (e : TreeExpr) (hf : e.Fit) {σ : Heap} {cs : List V} (hr : TreeExpr.Rep σ cs e) : Gives G n_spec_l2Expr [.agg cs] σ (.bool (decide (Right e))) := by
  have ih : ∀ x, x ∈ e.kids → ∀ σ cs, TreeExpr.Rep σ cs x → Gives G n_spec_l2Expr [.agg cs] σ (.bool (decide (Right x))) := fun x hx σ cs hr => l2Expr_gives x ((fit_kids hf).2 x hx) hr
  obtain ⟨σ1, l1, c1⟩ := l2Node_gives hf hr
  have hlen := (fit_kids hf).1
  cases hr with
  | mk h =>
  rename_i a
  by_cases hn : NodeOk e
  · obtain ⟨w, σ', ⟨hl, rfl⟩, he⟩ := loop (L := spec_l2Expr.L0) (A := spec_l2Expr.A0) (S := Nat × Heap)
      (Inv := fun s => s.1 ≤ e.kids.length ∧ Lh σ s.2 ∧ ∀ x, x ∈ e.kids.take s.1 → Right x) (Good := fun w σ' => Lh σ σ' ∧ w = .bool (decide (Right e)))
      (vals := fun s => [.box [.int .i64 e.kind, .int .i64 e.num, .str e.name, .str e.mod, a], .v (.int .i64 (s.1 : Int))]) (hp := fun s => s.2) (far := fun s => e.kids.length - s.1) (fun ⟨i, σi⟩ ⟨hi, hle, hok⟩ => by
        simp only at hi hle hok ⊢
        have hle' : RepS 5 (TreeExpr.Rep σi) σi a e.kids := h.mono hle fun cs x _ hc => TreeExpr.Rep.le hle x hc
        by_cases hlt : i < e.kids.length
        · obtain ⟨r, o, hv, cs, hr, hP⟩ := hle'.at hlt
          have hm : e.kids[i] ∈ e.kids := List.getElem_mem hlt
          obtain ⟨σ2, l2, c2⟩ := ih _ hm σi cs hP
          have ht := take_next hlt
          generalize e.kids[i] = x at hP hm ht c2
          cases hP with
          | mk hk =>
          have hw : IntKind.wrap .i64 ((i : Int) + 1) = ((i + 1 : Nat) : Int) := wrap_id (by omega) (by omega)
          by_cases hR : Right x
          · refine .inr ⟨(i + 1, σ2), ⟨hlt, hle.trans l2, fun y hy => ?_⟩, by simp only; omega, c2.mono fun k e1 m => ?_⟩
            · rw [ht] at hy
              rcases List.mem_append.1 hy with h1 | h1
              · exact hok y h1
              · simp at h1; rw [h1]; exact hR
            · rw [spec_l2Expr.L0_step, hle'.vlen]
              simp [hlt, hv, hr, e1, hR]
              rw [hw]
              rfl
          · refine .inl ⟨_, σ2, ⟨hle.trans l2, rfl⟩, c2.mono fun k e1 m => ?_⟩
            have : ¬ Right e := fun hc => hR (((right_iff e).1 hc).2 x hm)
            rw [spec_l2Expr.L0_step, hle'.vlen]
            simp [hlt, hv, hr, e1, hR, spec_l2Expr.A0_ret, this]
        · refine .inl ⟨_, σi, ⟨hle, rfl⟩, Ev.now fun k m => ?_⟩
          rw [List.take_of_length_le (by omega)] at hok
          have : Right e := .mk hn hok
          rw [spec_l2Expr.L0_step, hle'.vlen]
          simp [hlt, spec_l2Expr.A0_x0, this]) (0, σ1) ⟨Nat.zero_le _, l1, fun x hx => by simp at hx⟩
    refine Gives.mk hl ((Ev.and c1 (Ev.far e.kids.length he)).mono fun k ⟨e1, e2, hk⟩ => ?_)
    rw [spec_l2Expr.eq]
    simp only [e1, Option.bind_some, castBool_bool, hn, decide_true, Bool.not_true, cond_false]
    exact e2 k (by simpa using hk)
  · refine Gives.mk l1 (c1.mono fun k e1 => ?_)
    have : ¬ Right e := fun hr => hn ((right_iff e).1 hr).1
    rw [spec_l2Expr.eq]
    simp [e1, hn, this]
termination_by SizeOf.sizeOf e
decreasing_by
  cases e
  have := List.sizeOf_lt_of_mem hx
  simp at this ⊢
  omega
end Go.G

/- The types of expressions: plain. -/
set_option linter.unusedVariables false
set_option linter.unusedSimpArgs false
namespace Go.G
open Go.HM Go.Proofs
structure TyEnv where
  m : TreeMod
  l : List TypeFace
/-- The type of the last variable of a name, among the first k. -/
def varTo (vars : List TreeArg) (name : ByteArray) : Nat → Int × Int
  | 0 => (0, 2)
  | k + 1 => if (vars[k]?).map (·.name) = some name then (((vars[k]?).map (·.type)).getD 0, 0) else varTo vars name k
def varT (vars : List TreeArg) (name : ByteArray) : Int × Int := varTo vars name vars.length
theorem varTo_code (vars : List TreeArg) (name : ByteArray) : ∀ k, (varTo vars name k).2 = 0 ∨ varTo vars name k = (0, 2)
  | 0 => .inr rfl
  | k + 1 => by
    rw [varTo]
    split
    · exact .inl rfl
    · exact varTo_code vars name k
def chk (want : List Int) (t : Int) (ks : List Int) : Int × Int := if ks = want then (t, 0) else (0, 4)
noncomputable def appT (E : TyEnv) (vars : List TreeArg) (kind : Int) (name mod : ByteArray) (ks : List Int) : Int × Int :=
  if kind = 1 then (1, 0) else if kind = 2 then (2, 0) else if kind = 3 then varT vars name
  else if kind = 6 then (ks.getD 1 0, 0)
  else if kind = 4 then chk (primT name).1 (primT name).2 ks
  else if kind = 5 then chk [2, ks.getD 1 0, ks.getD 1 0] (ks.getD 1 0) ks
  else if kind = 8 then chk (List.replicate ks.length 1) 3 ks
  else if (findSig E.m E.l mod name).2 = false then (0, 2)
  else if (findSig E.m E.l mod name).1.args.length ≠ ks.length then (0, 3)
  else chk (findSig E.m E.l mod name).1.args (findSig E.m E.l mod name).1.type ks
/-- The variables beside a kid. -/
def kidV (isLet : Bool) (name : ByteArray) (vars : List TreeArg) (out : List Int) : List TreeArg := if isLet = true ∧ out.length = 1 then vars ++ [⟨name, out.getD 0 0⟩] else vars
mutual
noncomputable def tyE (E : TyEnv) : List TreeArg → TreeExpr → Int × Int
  | vars, ⟨kind, num, name, mod, kids⟩ => if (tyK E (decide (kind = 6)) name vars [] kids).2 ≠ 0 then (0, (tyK E (decide (kind = 6)) name vars [] kids).2) else appT E vars kind name mod (tyK E (decide (kind = 6)) name vars [] kids).1
noncomputable def tyK (E : TyEnv) (isLet : Bool) (name : ByteArray) : List TreeArg → List Int → List TreeExpr → List Int × Int
  | vars, out, [] => (out, 0)
  | vars, out, k :: ks => if (tyE E (kidV isLet name vars out) k).2 ≠ 0 then ([], (tyE E (kidV isLet name vars out) k).2) else tyK E isLet name (kidV isLet name vars out) (out ++ [(tyE E (kidV isLet name vars out) k).1]) ks
end
theorem tyE_eq (E : TyEnv) (vars : List TreeArg) (e : TreeExpr) : tyE E vars e = if (tyK E (decide (e.kind = 6)) e.name vars [] e.kids).2 ≠ 0 then (0, (tyK E (decide (e.kind = 6)) e.name vars [] e.kids).2) else appT E vars e.kind e.name e.mod (tyK E (decide (e.kind = 6)) e.name vars [] e.kids).1 := by
  cases e
  rw [tyE]
theorem tyK_len (E : TyEnv) (b : Bool) (name : ByteArray) : ∀ (kids : List TreeExpr) (vars : List TreeArg) (out : List Int), (tyK E b name vars out kids).2 = 0 → (tyK E b name vars out kids).1.length = out.length + kids.length
  | [], vars, out, _ => by rw [tyK]; rfl
  | k :: ks, vars, out, h => by
    rw [tyK] at h ⊢
    split at h
    · rename_i h'
      exact absurd h h'
    · rename_i h'
      rw [if_neg h', tyK_len E b name ks _ _ h]
      simp
      omega
theorem chk_code (want : List Int) (t : Int) (ks : List Int) : (chk want t ks).2 = 0 ∨ ((chk want t ks).2 = 4 ∧ (chk want t ks).1 = 0) := by
  unfold chk
  split
  · exact .inl rfl
  · exact .inr ⟨rfl, rfl⟩
theorem appT_code (E : TyEnv) (vars : List TreeArg) (kind : Int) (name mod : ByteArray) (ks : List Int) : (appT E vars kind name mod ks).2 = 0 ∨ (2 ≤ (appT E vars kind name mod ks).2 ∧ (appT E vars kind name mod ks).2 ≤ 4 ∧ (appT E vars kind name mod ks).1 = 0) := by
  have hc : ∀ want t ks, (chk want t ks).2 = 0 ∨ (2 ≤ (chk want t ks).2 ∧ (chk want t ks).2 ≤ 4 ∧ (chk want t ks).1 = 0) := fun want t ks => by
    rcases chk_code want t ks with h | ⟨h, h'⟩
    · exact .inl h
    · exact .inr ⟨by omega, by omega, h'⟩
  unfold appT
  split
  · exact .inl rfl
  split
  · exact .inl rfl
  split
  · unfold varT
    rcases varTo_code vars name vars.length with h | h
    · exact .inl h
    · rw [h]
      exact .inr ⟨by decide, by decide, rfl⟩
  split
  · exact .inl rfl
  split
  · exact hc _ _ _
  split
  · exact hc _ _ _
  split
  · exact hc _ _ _
  split
  · exact .inr ⟨by decide, by decide, rfl⟩
  split
  · exact .inr ⟨by decide, by decide, rfl⟩
  · exact hc _ _ _
mutual
theorem tyE_code (E : TyEnv) : ∀ (vars : List TreeArg) (e : TreeExpr), (tyE E vars e).2 = 0 ∨ (2 ≤ (tyE E vars e).2 ∧ (tyE E vars e).2 ≤ 4 ∧ (tyE E vars e).1 = 0)
  | vars, ⟨kind, num, name, mod, kids⟩ => by
    rw [tyE]
    rcases tyK_code E (decide (kind = 6)) name vars [] kids with h | h
    · rw [if_neg (by rw [h]; simp)]
      exact appT_code _ _ _ _ _ _
    · rw [if_pos (by omega)]
      exact .inr ⟨h.1, h.2, rfl⟩
theorem tyK_code (E : TyEnv) (isLet : Bool) (name : ByteArray) : ∀ (vars : List TreeArg) (out : List Int) (kids : List TreeExpr), (tyK E isLet name vars out kids).2 = 0 ∨ (2 ≤ (tyK E isLet name vars out kids).2 ∧ (tyK E isLet name vars out kids).2 ≤ 4)
  | vars, out, [] => by rw [tyK]; exact .inl rfl
  | vars, out, k :: ks => by
    rw [tyK]
    rcases tyE_code E (kidV isLet name vars out) k with h | h
    · rw [if_neg (by rw [h]; simp)]
      exact tyK_code E isLet name _ _ ks
    · rw [if_pos (by omega)]
      exact .inr ⟨h.1, h.2.1⟩
end
end Go.G

/- slices.Repeat of one number. -/
set_option linter.unusedVariables false
set_option linter.unusedSimpArgs false
set_option maxRecDepth 100000
namespace Go.G
open Go.HM Go.Proofs
theorem bits_Mul64_runs (σ : Heap) : ∀ (n : Nat), n ≤ 8 → Runs G n_math_bits_Mul64 [.int .u64 1, .int .u64 (n : Int)] σ (.tuple [.int .u64 0, .int .u64 (n : Int)]) σ
  | 0, _ => Runs.of (W.to (fun k _ => (math_bits_Mul64.eq k 1 0 σ).trans (by kernel_rfl : _ = some (.tuple [.int .u64 0, .int .u64 0], σ))) (W.ret ⟨rfl, rfl⟩))
  | 1, _ => Runs.of (W.to (fun k _ => (math_bits_Mul64.eq k 1 1 σ).trans (by kernel_rfl : _ = some (.tuple [.int .u64 0, .int .u64 1], σ))) (W.ret ⟨rfl, rfl⟩))
  | 2, _ => Runs.of (W.to (fun k _ => (math_bits_Mul64.eq k 1 2 σ).trans (by kernel_rfl : _ = some (.tuple [.int .u64 0, .int .u64 2], σ))) (W.ret ⟨rfl, rfl⟩))
  | 3, _ => Runs.of (W.to (fun k _ => (math_bits_Mul64.eq k 1 3 σ).trans (by kernel_rfl : _ = some (.tuple [.int .u64 0, .int .u64 3], σ))) (W.ret ⟨rfl, rfl⟩))
  | 4, _ => Runs.of (W.to (fun k _ => (math_bits_Mul64.eq k 1 4 σ).trans (by kernel_rfl : _ = some (.tuple [.int .u64 0, .int .u64 4], σ))) (W.ret ⟨rfl, rfl⟩))
  | 5, _ => Runs.of (W.to (fun k _ => (math_bits_Mul64.eq k 1 5 σ).trans (by kernel_rfl : _ = some (.tuple [.int .u64 0, .int .u64 5], σ))) (W.ret ⟨rfl, rfl⟩))
  | 6, _ => Runs.of (W.to (fun k _ => (math_bits_Mul64.eq k 1 6 σ).trans (by kernel_rfl : _ = some (.tuple [.int .u64 0, .int .u64 6], σ))) (W.ret ⟨rfl, rfl⟩))
  | 7, _ => Runs.of (W.to (fun k _ => (math_bits_Mul64.eq k 1 7 σ).trans (by kernel_rfl : _ = some (.tuple [.int .u64 0, .int .u64 7], σ))) (W.ret ⟨rfl, rfl⟩))
  | 8, _ => Runs.of (W.to (fun k _ => (math_bits_Mul64.eq k 1 8 σ).trans (by kernel_rfl : _ = some (.tuple [.int .u64 0, .int .u64 8], σ))) (W.ret ⟨rfl, rfl⟩))
theorem bits_Mul_runs (σ : Heap) {n : Nat} (h : n ≤ 8) : Runs G n_math_bits_Mul [.int .u64 1, .int .u64 (n : Int)] σ (.tuple [.int .u64 0, .int .u64 (n : Int)]) σ := by
  refine Runs.of (W.to (fun k _ => math_bits_Mul.eq k _ _ _) ?_)
  refine W.run (bits_Mul64_runs σ n h) ?_
  try simp only [q_bind_some, Option.bind_assoc, castInt_int, q_castBool, q_castStr, q_castPtr, q_castFn, q_castAgg, q_castTuple, q_uncons, q_isNil, q_sl, q_nils, q_emp, q_ptr, q_nilp, q_fn, q_cond_true, q_cond_false, Bool.not_true, Bool.not_false, decide_true, decide_false, castInt_bind, castBool_bind, castStr_bind, castPtr_bind, castFn_bind, castAgg_bind, castTuple_bind, uncons_bind, isNil_bind, one_bind, cond_bind, ite_bind_, List.cons_append, List.nil_append]
  exact W.ret ⟨rfl, rfl⟩
theorem wrapu_id {n : Nat} (h : n ≤ 8) : IntKind.wrap .u64 (n : Int) = (n : Int) := by
  match n, h with
  | 0, _ => rfl
  | 1, _ => rfl
  | 2, _ => rfl
  | 3, _ => rfl
  | 4, _ => rfl
  | 5, _ => rfl
  | 6, _ => rfl
  | 7, _ => rfl
  | 8, _ => rfl
/-- The row while it is filled: k of n numbers stand. -/
def fillR (n k : Nat) (x : Int) : List V := List.replicate k (.int .i64 x) ++ List.replicate (n - k) (.int .i64 0)
theorem fillR_len {n k : Nat} (h : k ≤ n) (x : Int) : (fillR n k x).length = n := by simp [fillR]; omega
theorem fillR_set {n k : Nat} (h : k < n) (x : Int) : (fillR n k x).set k (.int .i64 x) = fillR n (k + 1) x := by
  unfold fillR
  rw [List.set_append, if_neg (by simp), List.length_replicate, Nat.sub_self, show n - k = (n - (k + 1)) + 1 by omega, List.replicate_succ, List.set_cons_zero, List.replicate_succ', List.append_assoc]
  rfl
theorem setCells_fill {n : Nat} (x : Int) : ∀ (j k : Nat), k + j ≤ n → setCells (fillR n k x) k (List.replicate j (.int .i64 x)) = fillR n (k + j) x
  | 0, k, _ => rfl
  | j + 1, k, h => by
    rw [List.replicate_succ, setCells, fillR_set (by omega), setCells_fill x j (k + 1) (by omega), show k + 1 + j = k + (j + 1) by omega]
theorem fillR_zero (n : Nat) (x : Int) : (List.replicate n [V.int .i64 0]).flatten = fillR n 0 x := by
  unfold fillR
  rw [List.replicate_zero, List.nil_append, Nat.sub_zero]
  induction n with
  | zero => rfl
  | succ n ih => rw [List.replicate_succ, List.flatten_cons, ih, List.replicate_succ]; rfl
theorem fill_wrc {σ : Heap} {q n k j : Nat} {x : Int} (hq : σ[q]? = some (some ⟨fillR n k x, 1, false, 0⟩)) (hk : k + j ≤ n) : wrc σ q k (List.replicate j (.int .i64 x)) = some (σ.set q (some ⟨fillR n (k + j) x, 1, false, 0⟩)) := by
  simp only [wrc, hq]
  have hl : (fillR n k x).length = n := fillR_len (by omega) x
  rw [if_pos ⟨trivial, by rw [hl, List.length_replicate]; omega⟩, setCells_fill x j k hk]
theorem fill_copy {σ : Heap} {q n k j : Nat} {x : Int} {l1 l2 : Bool} (hq : σ[q]? = some (some ⟨fillR n k x, 1, false, 0⟩)) (hk : k + j ≤ n) (hj : j ≤ k) {m1 m2 : Nat} (h1 : min m2 m1 = j) :
    vcopy σ 1 (.sl q k m1 l1) (.sl q 0 m2 l2) = some (j, σ.set q (some ⟨fillR n (k + j) x, 1, false, 0⟩)) := by
  have e1 : rdc σ q 0 j = some (List.replicate j (.int .i64 x)) := by
    simp only [rdc, hq]
    have hl : (fillR n k x).length = n := fillR_len (by omega) x
    rw [if_pos (by rw [hl]; omega)]
    simp only [fillR, List.drop_zero]
    rw [List.take_append_of_le_length (by simpa using hj), List.take_replicate, Nat.min_eq_left hj]
  unfold vcopy
  simp only [h1, Nat.mul_one, e1, Option.bind_some, fill_wrc hq hk]
theorem repeat_ends {σ : Heap} {r : Nat} {lim : Bool} {x : Int} (h : rdc σ r 0 1 = some [.int .i64 x]) {n : Nat} (hn : n ≤ 8) : HM.Ends G n_slices_Repeat_int_int [.sl r 0 1 lim, .int .i64 (n : Int)] σ (fun w σ' => Lh σ σ' ∧ RepS 1 IntRep σ' w (List.replicate n x)) := by
  refine HM.Ends.mk (W.to (fun k _ => slices_Repeat_int_int.eq k _ _ _) ?_)
  have h1 : IntKind.wrap .u64 ((1 : Nat) : Int) = 1 := rfl
  have h2 : IntKind.wrap .i64 (n : Int) = (n : Int) := wrap_id (by omega) (by omega)
  have h3 : ¬ ((n : Int) < 0) := by omega
  have h4 : ¬ (9223372036854775807 < (n : Int)) := by omega
  have e46 : (2 : Int) ^ 46 = 70368744177664 := by decide
  have h5 : (0 : Int) ≤ n ∧ (n : Int) * 8 ≤ 2 ^ 46 ∧ (n : Int) ≤ 2 ^ 46 := ⟨by omega, by omega, by omega⟩
  try simp only [q_bind_some, castInt_int, q_castBool, q_castStr, q_castPtr, q_castFn, q_castAgg, q_castTuple, q_uncons, q_isNil, q_sl, q_nils, q_emp, q_ptr, q_nilp, q_fn, q_cond_true, q_cond_false, Bool.not_true, Bool.not_false, decide_true, decide_false, List.cons_append, List.nil_append, h1, wrapu_id hn, h3]
  refine W.run (bits_Mul_runs σ hn) ?_
  try simp only [q_bind_some, castInt_int, q_castBool, q_castStr, q_castPtr, q_castFn, q_castAgg, q_castTuple, q_uncons, q_isNil, q_sl, q_nils, q_emp, q_ptr, q_nilp, q_fn, q_cond_true, q_cond_false, Bool.not_true, Bool.not_false, decide_true, decide_false, List.cons_append, List.nil_append, h2, h4]
  simp only [Int.lt_irrefl, decide_false, cond_false, if_pos h5, Int.toNat_natCast, fillR_zero n x]
  have hq : (hnew σ 1 (fillR n 0 x))[σ.length]? = some (some ⟨fillR n 0 x, 1, false, 0⟩) := by simp [hnew]
  have hv : vcopy (hnew σ 1 (fillR n 0 x)) 1 (.sl σ.length 0 n true) (.sl r 0 1 lim) = some (min 1 n, (hnew σ 1 (fillR n 0 x)).set σ.length (some ⟨fillR n (min 1 n) x, 1, false, 0⟩)) := by
    have e1 : rdc (hnew σ 1 (fillR n 0 x)) r 0 (min 1 n) = some (List.replicate (min 1 n) (.int .i64 x)) := by
      have := (Lh.new σ 1 (fillR n 0 x)).rdc h
      by_cases h0 : n = 0
      · subst h0
        exact rdc_sub this 0 0 (by omega)
      · rw [show min 1 n = 1 by omega]
        exact this
    have := fill_wrc (j := min 1 n) hq (by omega)
    unfold vcopy
    simp only [Nat.mul_one, e1, Option.bind_some, this, Nat.zero_add]
  try simp only [q_bind_some, castInt_int, q_castBool, q_castStr, q_castPtr, q_castFn, q_castAgg, q_castTuple, q_uncons, q_isNil, q_sl, q_nils, q_emp, q_ptr, q_nilp, q_fn, q_cond_true, q_cond_false, Bool.not_true, Bool.not_false, decide_true, decide_false, List.cons_append, List.nil_append, hv]
  refine W.loop (S := Nat × Heap) (fun s => s.1 ≤ n ∧ (0 < n → 0 < s.1) ∧ s.2[σ.length]? = some (some ⟨fillR n s.1 x, 1, false, 0⟩) ∧ Lh σ s.2) (fun s => [.v (.sl σ.length 0 n true), .v (.int .i64 (s.1 : Int))]) (fun s => s.2) (fun s => n - s.1) (fun ⟨k, σk⟩ ⟨hk, hk0, hqk, hle⟩ => ?_) (min 1 n, (hnew σ 1 (fillR n 0 x)).set σ.length (some ⟨fillR n (min 1 n) x, 1, false, 0⟩))
    ⟨by omega, by simp only; omega, by simp [hnew], by simp [hnew]; exact Lh.append _ _⟩
  simp only at hk hk0 hqk hle ⊢
  refine W.to (fun _ _ => by rw [slices_Repeat_int_int.L0_step]) ?_
  have hvl : vlen (.sl σ.length 0 n true) = some n := rfl
  refine B.bind hvl ?_
  refine B.ite (fun hlt => ?_) fun hlt => ?_
  · have v1 : vslice 1 (.sl σ.length 0 n true) (some (k : Int)) none = some (.sl σ.length k (n - k) true) := by
      simp only [vslice, Option.getD_some, Option.getD_none]
      rw [if_pos ⟨by omega, by omega, by omega⟩, if_neg (by omega)]
      simp
    have v2 : vslice 1 (.sl σ.length 0 n true) none (some (k : Int)) = some (.sl σ.length 0 k (decide ((k : Int) = n))) := by
      simp only [vslice, Option.getD_some, Option.getD_none]
      rw [if_pos ⟨by omega, by omega, by omega⟩, if_neg (by omega)]
      simp
    have hc := fill_copy (σ := σk) (l1 := true) (l2 := decide ((k : Int) = n)) (m1 := n - k) (m2 := k) (j := min k (n - k)) hqk (by omega) (by omega) rfl
    have hw : IntKind.wrap .i64 ((k : Int) + ((min k (n - k) : Nat) : Int)) = ((k + min k (n - k) : Nat) : Int) := by rw [wrap_id (by omega) (by omega)]; omega
    try simp only [q_bind_some, castInt_int, q_castBool, q_castStr, q_castPtr, q_castFn, q_castAgg, q_castTuple, q_uncons, q_isNil, q_sl, q_nils, q_emp, q_ptr, q_nilp, q_fn, q_cond_true, q_cond_false, Bool.not_true, Bool.not_false, decide_true, decide_false, List.cons_append, List.nil_append, v1, v2, hc, hw]
    have hql : σ.length < σk.length := (List.getElem?_eq_some_iff.1 hqk).1
    exact W.again (k + min k (n - k), σk.set σ.length (some ⟨fillR n (k + min k (n - k)) x, 1, false, 0⟩)) ⟨by show k + min k (n - k) ≤ n; omega, fun h0 => by have := hk0 h0; show 0 < k + min k (n - k); omega, by simp [hql], ⟨by rw [List.length_set]; exact hle.len, fun j row hj => by rw [List.getElem?_set_ne (by have := get_lt hj; omega)]; exact hle.row _ _ hj⟩⟩ (by have := hk0 (by omega); simp only; omega) rfl rfl
  · obtain rfl : k = n := by omega
    try simp only [q_bind_some, castInt_int, q_castBool, q_castStr, q_castPtr, q_castFn, q_castAgg, q_castTuple, q_uncons, q_isNil, q_sl, q_nils, q_emp, q_ptr, q_nilp, q_fn, q_cond_true, q_cond_false, Bool.not_true, Bool.not_false, decide_true, decide_false, List.cons_append, List.nil_append, slices_Repeat_int_int.A0_x0]
    refine W.ret ⟨hle, ?_⟩
    refine .sl σ.length 0 k true _ _ (by simp) hqk rfl (by simp [fillR]) fun i y hy => ?_
    rw [List.getElem?_replicate] at hy
    split at hy
    · rename_i hik
      injection hy with hy
      subst hy
      simp only [fillR, Nat.sub_self, List.replicate_zero, List.append_nil, Nat.zero_add, Nat.mul_one]
      rw [List.drop_replicate, List.take_replicate, show min 1 (k - i) = 1 by omega]
      rfl
    · cases hy
end Go.G

/- Parameters and bodies. -/
set_option linter.unusedVariables false
set_option linter.unusedSimpArgs false
namespace Go.G
open Go.HM Go.Proofs
theorem argNames_runs {σ : Heap} {v : V} {l : List TreeArg} (hf : l.length ≤ 1048576) (h : RepS 2 (TreeArg.Rep σ) σ v l) :
    ∃ v' σ', Lh σ σ' ∧ RepS 1 StrRep σ' v' (l.map (·.name)) ∧ Runs G n_impl_argNames [v] σ v' σ' := by
  obtain ⟨w, σ', ⟨hl, hg⟩, he⟩ := loop (L := impl_argNames.L0) (A := impl_argNames.A0) (S := Nat × V × Heap)
    (Inv := fun s => s.1 ≤ l.length ∧ Lh σ s.2.2 ∧ Grown σ.length 1 StrRep s.2.2 s.2.1 ((l.take s.1).map (·.name))) (Good := fun w σ' => Lh σ σ' ∧ RepS 1 StrRep σ' w (l.map (·.name)))
    (vals := fun s => [.v s.2.1, .v v, .v (.int .i64 (l.length : Int)), .v (.int .i64 (s.1 : Int))]) (hp := fun s => s.2.2) (far := fun s => l.length - s.1) (fun ⟨i, u, σi⟩ ⟨hi, hle, hg⟩ => by
      simp only at hi hle hg ⊢
      have hle' : RepS 2 (TreeArg.Rep σi) σi v l := h.mono hle fun cs x _ hc => TreeArg.Rep.le hle hc
      by_cases hlt : i < l.length
      · obtain ⟨r, o, hv, cs, hr, hP⟩ := hle'.at hlt
        have ht := take_next hlt
        generalize l[i] = x at hP ht
        cases hP with
        | mk =>
        have hw : IntKind.wrap .i64 ((i : Int) + 1) = ((i + 1 : Nat) : Int) := wrap_id (by omega) (by omega)
        have hli : ((l.take i).map (·.name)).length ≤ 1048576 := by rw [List.length_map, List.length_take]; omega
        obtain ⟨u', σ', ha, hg', hk⟩ := hg.app (bytes := 16) (Chunks.one (P := StrRep) (cs := [.str x.name]) (x := x.name) rfl) (by simp only [List.length_singleton]; omega) (by simp only [List.length_singleton]; omega)
        have ha' : vappend 1 16 σi u 1 [.str x.name] = some (u', σ') := ha
        refine .inr ⟨(i + 1, u', σ'), ⟨hlt, hk σ (Nat.le_refl _) hle, ?_⟩, by simp only; omega, Ev.now fun k m => ?_⟩
        · simp only
          rw [ht, List.map_append]
          exact hg'
        · rw [impl_argNames.L0_step]
          simp [hlt, hv, hr, ha']
          rw [hw]
          rfl
      · refine .inl ⟨u, σi, ⟨hle, ?_⟩, Ev.now fun k m => ?_⟩
        · rw [List.take_of_length_le (by omega)] at hg
          exact hg.rep fun cs x _ hc => hc
        · rw [impl_argNames.L0_step]
          simp [hlt, impl_argNames.A0_x0]) (0, .sl σ.length 0 0 true, hnew σ 1 []) ⟨Nat.zero_le _, Lh.new _ _ _, Grown.start σ 1 StrRep true⟩
  refine ⟨w, σ', hl, hg, Runs.mk ((Ev.far l.length he).mono fun k ⟨e, hk⟩ => ?_)⟩
  rw [impl_argNames.eq, h.vlen]
  exact e k (by simpa using hk)
theorem containsArg_gives {σ : Heap} {v : V} {l : List TreeArg} (hf : l.length ≤ 9223372036854775807) (h : RepS 2 (TreeArg.Rep σ) σ v l) (f : FuncId) (P : TreeArg → Prop)
    (hx : ∀ x, x ∈ l → ∀ σ cs, TreeArg.Rep σ cs x → ∃ b, (b = true ↔ P x) ∧ Gives G f [.agg cs] σ (.bool b)) : Gives G n_slices_ContainsFunc_impl_TreeArg_impl_TreeArg [v, .fn f []] σ (.bool (has P l)) := by
  obtain ⟨w, σ', ⟨hl, n, hn, rfl⟩, he⟩ := loop (L := slices_IndexFunc_impl_TreeArg_impl_TreeArg.L0) (A := slices_IndexFunc_impl_TreeArg_impl_TreeArg.A0) (S := Nat × Heap)
    (Inv := fun s => s.1 ≤ l.length ∧ Lh σ s.2 ∧ ∀ x, x ∈ l.take s.1 → ¬ P x) (Good := fun w σ' => Lh σ σ' ∧ ∃ n : Int, (0 ≤ n ↔ ∃ x, x ∈ l ∧ P x) ∧ w = .int .i64 n)
    (vals := fun s => [.v v, .v (.fn f []), .v (.int .i64 (l.length : Int)), .v (.int .i64 (s.1 : Int))]) (hp := fun s => s.2) (far := fun s => l.length - s.1) (fun ⟨i, σi⟩ ⟨hi, hle, hok⟩ => by
      simp only at hi hle hok ⊢
      have hle' : RepS 2 (TreeArg.Rep σi) σi v l := h.mono hle fun cs x _ hc => TreeArg.Rep.le hle hc
      by_cases hlt : i < l.length
      · obtain ⟨r, o, hv, cs, hr, hP⟩ := hle'.at hlt
        have hm : l[i] ∈ l := List.getElem_mem hlt
        obtain ⟨b, hb, σ1, l1, c1⟩ := hx _ hm σi cs hP
        have ht := take_next hlt
        generalize l[i] = x at hP hm hb ht
        cases hP with
        | mk =>
        have hw : IntKind.wrap .i64 ((i : Int) + 1) = ((i + 1 : Nat) : Int) := wrap_id (by omega) (by omega)
        cases b with
        | true =>
          refine .inl ⟨.int .i64 (i : Int), σ1, ⟨hle.trans l1, (i : Int), ?_, rfl⟩, c1.mono fun k e1 m => ?_⟩
          · exact ⟨fun _ => ⟨x, hm, hb.1 rfl⟩, fun _ => by omega⟩
          · rw [slices_IndexFunc_impl_TreeArg_impl_TreeArg.L0_step]
            simp [hlt, hv, hr, e1, slices_IndexFunc_impl_TreeArg_impl_TreeArg.A0_ret]
        | false =>
          refine .inr ⟨(i + 1, σ1), ⟨hlt, hle.trans l1, fun y hy => ?_⟩, by simp only; omega, c1.mono fun k e1 m => ?_⟩
          · rw [ht] at hy
            rcases List.mem_append.1 hy with h1 | h1
            · exact hok y h1
            · simp at h1; rw [h1]; intro hc; have := hb.2 hc; cases this
          · rw [slices_IndexFunc_impl_TreeArg_impl_TreeArg.L0_step]
            simp [hlt, hv, hr, e1]
            rw [hw]
            rfl
      · refine .inl ⟨.int .i64 (-1), σi, ⟨hle, -1, ?_, rfl⟩, Ev.now fun k m => ?_⟩
        · rw [List.take_of_length_le (by omega)] at hok
          simp
          exact hok
        · rw [slices_IndexFunc_impl_TreeArg_impl_TreeArg.L0_step]
          simp [hlt, slices_IndexFunc_impl_TreeArg_impl_TreeArg.A0_x0]) (0, σ) ⟨Nat.zero_le _, Lh.refl _, fun x hx => by simp at hx⟩
  have c2 : Runs G n_slices_IndexFunc_impl_TreeArg_impl_TreeArg [v, .fn f []] σ (.int .i64 n) σ' := Runs.mk ((Ev.far l.length he).mono fun k ⟨e, hk⟩ => by
    rw [slices_IndexFunc_impl_TreeArg_impl_TreeArg.eq, h.vlen]
    exact e k (by simpa using hk))
  refine Gives.mk hl (c2.mono fun k e => ?_)
  rw [slices_ContainsFunc_impl_TreeArg_impl_TreeArg.eq, e]
  have : has P l = decide (0 ≤ n) := by
    by_cases h0 : 0 ≤ n
    · rw [has_true.2 (hn.1 h0)]; simp [h0]
    · rw [has_false.2 fun x hx hp => h0 (hn.2 ⟨x, hx, hp⟩)]; simp [h0]
  rw [this]
  rfl
def IsType (n : Int) : Prop := 1 ≤ n ∧ n ≤ 3
theorem treeOk1_gives (x : TreeArg) (σ : Heap) (cs : List V) (hr : TreeArg.Rep σ cs x) : ∃ b, (b = true ↔ ¬ IsType x.type) ∧ Gives G n_impl_TreeOk_1 [.agg cs] σ (.bool b) := by
  cases hr with
  | mk =>
  refine ⟨!decide (1 ≤ x.type ∧ x.type ≤ 3), by simp [IsType]; omega, Gives.mk (Lh.refl σ) ((isType_runs (σ := σ) x.type).mono fun k e => ?_)⟩
  rw [impl_TreeOk_1.eq, e]
  rfl
def bodies (m : TreeMod) : List TreeExpr := m.funs.map (·.body) ++ m.main
theorem bodies_runs {σ : Heap} {m : TreeMod} (hf : m.funs.length ≤ 1048576) (hm : m.main.length ≤ 1048576) {cs : List V} (hr : TreeMod.Rep σ cs m) :
    ∃ v' σ', Lh σ σ' ∧ RepS 5 (TreeExpr.Rep σ') σ' v' (bodies m) ∧ Runs G n_impl_TreeMod_bodies [.agg cs] σ v' σ' := by
  cases hr with
  | mk h0 h1 h2 =>
  rename_i a0 a1 a2
  obtain ⟨w, σ', ⟨hl, hg⟩, he⟩ := loop (L := impl_TreeMod_bodies.L0) (A := impl_TreeMod_bodies.A0) (S := Nat × V × Heap)
    (Inv := fun s => s.1 ≤ m.funs.length ∧ Lh σ s.2.2 ∧ Grown σ.length 5 (TreeExpr.Rep σ) s.2.2 s.2.1 ((m.funs.take s.1).map (·.body))) (Good := fun w σ' => Lh σ σ' ∧ RepS 5 (TreeExpr.Rep σ') σ' w (bodies m))
    (vals := fun s => [.box [a0, a1, a2], .v s.2.1, .v a1, .v (.int .i64 (m.funs.length : Int)), .v (.int .i64 (s.1 : Int))]) (hp := fun s => s.2.2) (far := fun s => m.funs.length - s.1) (fun ⟨i, u, σi⟩ ⟨hi, hle, hg⟩ => by
      simp only at hi hle hg ⊢
      by_cases hlt : i < m.funs.length
      · obtain ⟨r, o, hv, cs, hr, hP⟩ := h1.at hlt
        have hr2 := hle.rdc hr
        have ht := take_next hlt
        generalize m.funs[i] = x at hP ht
        cases hP with
        | mk k0 k1 =>
        rename_i b0 b1
        have hw : IntKind.wrap .i64 ((i : Int) + 1) = ((i + 1 : Nat) : Int) := wrap_id (by omega) (by omega)
        have hli : ((m.funs.take i).map (·.body)).length ≤ 1048576 := by rw [List.length_map, List.length_take]; omega
        obtain ⟨u', σ', ha, hg', hk⟩ := hg.app (bytes := 72) (Chunks.one (P := TreeExpr.Rep σ) (cs := [.int .i64 x.body.kind, .int .i64 x.body.num, .str x.body.name, .str x.body.mod, b1]) (x := x.body) (.mk k1)) (by simp only [List.length_singleton]; omega) (by simp only [List.length_singleton]; omega)
        have ha' : vappend 5 72 σi u 1 [.int .i64 x.body.kind, .int .i64 x.body.num, .str x.body.name, .str x.body.mod, b1] = some (u', σ') := ha
        refine .inr ⟨(i + 1, u', σ'), ⟨hlt, hk σ (Nat.le_refl _) hle, ?_⟩, by simp only; omega, Ev.now fun k m => ?_⟩
        · simp only
          rw [ht, List.map_append]
          exact hg'
        · rw [impl_TreeMod_bodies.L0_step]
          simp [hlt, hv, hr2, ha']
          rw [hw]
          rfl
      · rw [List.take_of_length_le (by omega)] at hg
        obtain ⟨cs, hc, hch⟩ := (h2.le hle).cells
        obtain ⟨u', σ', ha, hg', hk⟩ := hg.app (bytes := 72) hch (by rw [List.length_map]; omega) (by rw [List.length_map]; omega)
        have hl' := hk σ (Nat.le_refl _) hle
        refine .inl ⟨u', σ', ⟨hl', hg'.rep fun cs x _ hc => TreeExpr.Rep.le hl' x hc⟩, Ev.now fun k m => ?_⟩
        rw [impl_TreeMod_bodies.L0_step]
        simp [hlt, impl_TreeMod_bodies.A0_x0, hc, ha]) (0, .sl σ.length 0 0 true, hnew σ 5 []) ⟨Nat.zero_le _, Lh.new _ _ _, Grown.start σ 5 (TreeExpr.Rep σ) true⟩
  refine ⟨w, σ', hl, hg, Runs.mk ((Ev.far m.funs.length he).mono fun k ⟨e, hk⟩ => ?_)⟩
  rw [impl_TreeMod_bodies.eq, h1.vlen]
  exact e k (by simpa using hk)
end Go.G

/- What the reference asks of a function and of the module's size. -/
set_option linter.unusedVariables false
set_option linter.unusedSimpArgs false
namespace Go.G
open Go.HM Go.Proofs
def FunOk (f : TreeFun) : Prop := IsName f.name ∧ f.args.length ≤ 4 ∧ IsType f.type ∧ Right f.body ∧ (∀ x, x ∈ f.args → IsType x.type) ∧ AllNames (f.args.map (·.name))
noncomputable instance (f : TreeFun) : Decidable (FunOk f) := Classical.propDecidable _
/-- The sizes, as they come. -/
def sizesOk : Nat → List TreeExpr → Prop
  | _, [] => True
  | n, e :: es => n + e.many ≤ 150 ∧ e.deep ≤ 16 ∧ sizesOk (n + e.many) es
noncomputable instance (n : Nat) (l : List TreeExpr) : Decidable (sizesOk n l) := Classical.propDecidable _
theorem l2Size_runs {σ : Heap} {m : TreeMod} (ht : m.total ≤ 1048576) {cs : List V} (hr : TreeMod.Rep σ cs m) : Runs G n_spec_l2Size [.agg cs] σ (.bool (decide (sizesOk 0 (bodies m)))) σ := by
  have hl1 : m.funs.length ≤ 1048576 := by rw [TreeMod.total_eq] at ht; omega
  have hl2 : m.main.length ≤ 1048576 := by rw [TreeMod.total_eq] at ht; omega
  have hb : ∀ x, x ∈ bodies m → x.total ≤ 1048576 := by
    intro x hx
    rw [TreeMod.total_eq] at ht
    rcases List.mem_append.1 hx with h | h
    · obtain ⟨f, hf, rfl⟩ := List.mem_map.1 h
      have h1 := totS_mem TreeFun.total hf
      rw [TreeFun.total_eq f] at h1
      omega
    · have := totS_mem TreeExpr.total h
      omega
  cases hr with
  | mk h0 h1 h2 =>
  rename_i a0 a1 a2
  have hlen : (bodies m).length = m.funs.length + m.main.length := by simp [bodies]
  have hw0 : IntKind.wrap .i64 ((m.funs.length : Int) + (m.main.length : Int)) = (((bodies m).length : Nat) : Int) := by rw [wrap_id (by omega) (by omega), hlen]; omega
  obtain ⟨w, σ', ⟨rfl, rfl⟩, he⟩ := loop (L := spec_l2Size.L0) (A := spec_l2Size.A0) (S := Nat × Nat)
    (Inv := fun s => s.1 ≤ (bodies m).length ∧ s.2 ≤ 150 ∧ (sizesOk 0 (bodies m) ↔ sizesOk s.2 ((bodies m).drop s.1))) (Good := fun w σ' => σ' = σ ∧ w = .bool (decide (sizesOk 0 (bodies m))))
    (vals := fun s => [.box [a0, a1, a2], .v (.int .i64 (s.2 : Int)), .v (.int .i64 (s.1 : Int))]) (hp := fun s => σ) (far := fun s => (bodies m).length - s.1) (fun ⟨i, n⟩ ⟨hi, hn, hok⟩ => by
      simp only at hi hn hok ⊢
      by_cases hlt : i < (bodies m).length
      · have hd : (bodies m).drop i = (bodies m)[i] :: (bodies m).drop (i + 1) := List.drop_eq_getElem_cons hlt
        have hm := hb _ (List.getElem_mem hlt)
        have hmem := TreeExpr.many_le (bodies m)[i]
        have hw : IntKind.wrap .i64 ((i : Int) + 1) = ((i + 1 : Nat) : Int) := wrap_id (by omega) (by omega)
        by_cases hf : i < m.funs.length
        · obtain ⟨r, o, hv, cs, hr, hP⟩ := h1.at hf
          have he : (bodies m)[i] = m.funs[i].body := by simp [bodies, List.getElem_append_left, hf]
          have hr4 := rdc_sub hr 4 5 (by omega)
          rw [he] at hd hm hmem
          generalize m.funs[i] = fn at hP hd hm hmem
          cases hP with
          | mk q0 q1 =>
          have c := specTreeNodes_runs (σ := σ) fn.body hm (.mk q1)
          generalize hx : fn.body = x at hd hm hmem c hr4
          have hr5 : rdc σ r (o + 4) 5 = some [.int .i64 x.kind, .int .i64 x.num, .str x.name, .str x.mod, _] := hr4
          have hlf : (i : Int) < (m.funs.length : Int) := by omega
          have hlb : (i : Int) < (((bodies m).length : Nat) : Int) := by omega
          have hw1 : IntKind.wrap .i64 ((n : Int) + (x.many : Int)) = ((n + x.many : Nat) : Int) := by rw [wrap_id (by omega) (by omega)]; omega
          by_cases g1 : n + x.many ≤ 150
          · have g1' : ¬ (150 : Int) < ((n + x.many : Nat) : Int) := by omega
            by_cases g2 : x.deep ≤ 16
            · have g2' : ¬ (16 : Int) < (x.deep : Int) := by omega
              refine .inr ⟨(i + 1, n + x.many), ⟨hlt, g1, ?_⟩, by simp only; omega, c.mono fun k e1 m' => ?_⟩
              · rw [hok, hd]; simp [sizesOk, g1, g2]
              · rw [spec_l2Size.L0_step, h1.vlen, h2.vlen]
                simp only [Option.bind_some, hw0, hlb, hlf, hv, hr5, e1, uncons_cons, castInt_int, castStr_str, castBool_bool, isNil_nil, castTuple_tuple, hw1, g1', g2', decide_false, cond_false, decide_true, cond_true, hw]
            · have g2' : (16 : Int) < (x.deep : Int) := by omega
              have hno : ¬ sizesOk 0 (bodies m) := by rw [hok, hd]; simp [sizesOk, g2]
              refine .inl ⟨_, σ, ⟨rfl, rfl⟩, c.mono fun k e1 m' => ?_⟩
              rw [spec_l2Size.L0_step, h1.vlen, h2.vlen]
              simp only [Option.bind_some, hw0, hlb, hlf, hv, hr5, e1, uncons_cons, castInt_int, castStr_str, castBool_bool, isNil_nil, castTuple_tuple, hw1, g1', g2', decide_false, cond_false, decide_true, cond_true, spec_l2Size.A0_ret, hno]
          · have g1' : (150 : Int) < ((n + x.many : Nat) : Int) := by omega
            have hno : ¬ sizesOk 0 (bodies m) := by rw [hok, hd]; simp [sizesOk, g1]
            refine .inl ⟨_, σ, ⟨rfl, rfl⟩, c.mono fun k e1 m' => ?_⟩
            rw [spec_l2Size.L0_step, h1.vlen, h2.vlen]
            simp only [Option.bind_some, hw0, hlb, hlf, hv, hr5, e1, uncons_cons, castInt_int, castStr_str, castBool_bool, isNil_nil, castTuple_tuple, hw1, g1', decide_false, cond_false, decide_true, cond_true, spec_l2Size.A0_ret, hno]
        · have hi2 : i - m.funs.length < m.main.length := by omega
          obtain ⟨r, o, hv, cs, hr, hP⟩ := h2.at hi2
          have he : (bodies m)[i] = m.main[i - m.funs.length] := by
            simp only [bodies]
            rw [List.getElem_append_right (by rw [List.length_map]; omega)]
            simp only [List.length_map]
          rw [he] at hd hm hmem
          generalize m.main[i - m.funs.length] = x at hP hd hm hmem
          have c := specTreeNodes_runs (σ := σ) x hm hP
          cases hP with
          | mk q1 =>
          have hlf : ¬ (i : Int) < (m.funs.length : Int) := by omega
          have hlb : (i : Int) < (((bodies m).length : Nat) : Int) := by omega
          have hws : IntKind.wrap .i64 ((i : Int) - (m.funs.length : Int)) = ((i - m.funs.length : Nat) : Int) := by rw [wrap_id (by omega) (by omega)]; omega
          have hw1 : IntKind.wrap .i64 ((n : Int) + (x.many : Int)) = ((n + x.many : Nat) : Int) := by rw [wrap_id (by omega) (by omega)]; omega
          by_cases g1 : n + x.many ≤ 150
          · have g1' : ¬ (150 : Int) < ((n + x.many : Nat) : Int) := by omega
            by_cases g2 : x.deep ≤ 16
            · have g2' : ¬ (16 : Int) < (x.deep : Int) := by omega
              refine .inr ⟨(i + 1, n + x.many), ⟨hlt, g1, ?_⟩, by simp only; omega, c.mono fun k e1 m' => ?_⟩
              · rw [hok, hd]; simp [sizesOk, g1, g2]
              · rw [spec_l2Size.L0_step, h1.vlen, h2.vlen]
                simp only [Option.bind_some, hw0, hlb, hlf, hws, hv, hr, e1, uncons_cons, castInt_int, castStr_str, castBool_bool, isNil_nil, castTuple_tuple, hw1, g1', g2', decide_false, cond_false, decide_true, cond_true, hw]
            · have g2' : (16 : Int) < (x.deep : Int) := by omega
              have hno : ¬ sizesOk 0 (bodies m) := by rw [hok, hd]; simp [sizesOk, g2]
              refine .inl ⟨_, σ, ⟨rfl, rfl⟩, c.mono fun k e1 m' => ?_⟩
              rw [spec_l2Size.L0_step, h1.vlen, h2.vlen]
              simp only [Option.bind_some, hw0, hlb, hlf, hws, hv, hr, e1, uncons_cons, castInt_int, castStr_str, castBool_bool, isNil_nil, castTuple_tuple, hw1, g1', g2', decide_false, cond_false, decide_true, cond_true, spec_l2Size.A0_ret, hno]
          · have g1' : (150 : Int) < ((n + x.many : Nat) : Int) := by omega
            have hno : ¬ sizesOk 0 (bodies m) := by rw [hok, hd]; simp [sizesOk, g1]
            refine .inl ⟨_, σ, ⟨rfl, rfl⟩, c.mono fun k e1 m' => ?_⟩
            rw [spec_l2Size.L0_step, h1.vlen, h2.vlen]
            simp only [Option.bind_some, hw0, hlb, hlf, hws, hv, hr, e1, uncons_cons, castInt_int, castStr_str, castBool_bool, isNil_nil, castTuple_tuple, hw1, g1', decide_false, cond_false, decide_true, cond_true, spec_l2Size.A0_ret, hno]
      · refine .inl ⟨_, σ, ⟨rfl, rfl⟩, Ev.now fun k m' => ?_⟩
        rw [List.drop_eq_nil_of_le (by omega)] at hok
        have : sizesOk 0 (bodies m) := hok.2 trivial
        rw [spec_l2Size.L0_step, h1.vlen, h2.vlen]
        simp only [Option.bind_some, hw0, Int.ofNat_lt, hlt, decide_false, cond_false, spec_l2Size.A0_x0]
        simp [this]) (0, 0) ⟨Nat.zero_le _, Nat.zero_le _, Iff.rfl⟩
  refine Runs.mk ((Ev.far (bodies m).length he).mono fun k ⟨e, hk⟩ => ?_)
  rw [spec_l2Size.eq]
  exact e k (by simpa using hk)
end Go.G

/- What the reference asks of a function. -/
set_option linter.unusedVariables false
set_option linter.unusedSimpArgs false
namespace Go.G
open Go.HM Go.Proofs
theorem l2Fun_gives {σ : Heap} {f : TreeFun} (hF : f.Fit) {cs : List V} (hr : TreeFun.Rep σ cs f) : Gives G n_spec_l2Fun [.agg cs] σ (.bool (decide (FunOk f))) := by
  cases hF with
  | mk f0 f1 f2 f3 f4 =>
  cases hr with
  | mk h1 h2 =>
  rename_i a3 a9
  have hargs : ∀ x, x ∈ f.args → x.name.size ≤ 9223372036854775807 := fun x hx => by have := f2 x hx; cases this with | mk g0 g1 => exact g0
  obtain ⟨σ1, l1, c1⟩ := specLexName_gives σ f.name f0
  by_cases hn : IsName f.name
  rotate_left
  · refine Gives.mk l1 (c1.mono fun k e1 => ?_)
    have : ¬ FunOk f := fun h => hn h.1
    rw [spec_l2Fun.eq]; simp [e1, hn, this]
  by_cases h4 : 4 < f.args.length
  · refine Gives.mk l1 (c1.mono fun k e1 => ?_)
    have : ¬ FunOk f := fun h => by have := h.2.1; omega
    have h4' : (4 : Int) < (f.args.length : Int) := by omega
    rw [spec_l2Fun.eq, h1.vlen]; simp only [e1, hn, decide_true, Bool.not_true, cond_false, Option.bind_some, castBool_bool, h4', cond_true]; simp [this]
  have h4' : ¬ (4 : Int) < (f.args.length : Int) := by omega
  obtain ⟨s, hs, σ2, l2, c2⟩ := treeType_gives σ1 f.type
  by_cases ht : IsType f.type
  rotate_left
  · refine Gives.mk (l1.trans l2) ((c1.and c2).mono fun k ⟨e1, e2⟩ => ?_)
    have : ¬ FunOk f := fun h => ht h.2.2.1
    have hs' := hs.2 ht
    rw [spec_l2Fun.eq, h1.vlen]; simp only [e1, hn, decide_true, Bool.not_true, cond_false, Option.bind_some, castBool_bool, h4', decide_false, e2, castStr_str, hs', cond_true]; simp [this]
  have hs' : ¬ s = ⟨#[]⟩ := fun hc => hs.1 hc ht
  have l12 := l1.trans l2
  obtain ⟨σ3, l3, c3⟩ := l2Expr_gives f.body f4 (σ := σ2) (.mk (h2.mono l12 fun cs x _ hc => TreeExpr.Rep.le l12 x hc))
  by_cases hb : Right f.body
  rotate_left
  · refine Gives.mk (l12.trans l3) ((c1.and (c2.and c3)).mono fun k ⟨e1, e2, e3⟩ => ?_)
    have : ¬ FunOk f := fun h => hb h.2.2.2.1
    rw [spec_l2Fun.eq, h1.vlen]; simp only [e1, hn, decide_true, Bool.not_true, cond_false, Option.bind_some, castBool_bool, h4', decide_false, e2, castStr_str, hs', e3, hb, Bool.not_false, cond_true]; simp [this]
  have lenle : f.args.length ≤ 4 := by omega
  have inner : ∀ (i : Nat) (hlt : i < f.args.length) (σi : Heap), Lh σ σi → ∀ d j, j + d = i → (∀ q y, q < j → f.args[q]? = some y → y.name ≠ f.args[i].name) → ∀ k m0 m, d < m →
      (spec_l2Fun.L1 k m [.box [.str f.name, .bool f.pub, a3, .int .i64 f.type, .int .i64 f.body.kind, .int .i64 f.body.num, .str f.body.name, .str f.body.mod, a9], .v (.int .i64 (i : Int)), .v (.int .i64 (j : Int))] σi).bind (spec_l2Fun.A1 k m0) =
        if f.args[i].name ∈ (f.args.take i).map (·.name) then some (.ret, [.v (.bool false)], σi) else spec_l2Fun.L0 k m0 [.box [.str f.name, .bool f.pub, a3, .int .i64 f.type, .int .i64 f.body.kind, .int .i64 f.body.num, .str f.body.name, .str f.body.mod, a9], .v (.int .i64 (IntKind.wrap .i64 ((i : Int) + 1)))] σi := by
    intro i hlt σi hle d
    have h1' : RepS 2 (TreeArg.Rep σi) σi a3 f.args := h1.mono hle fun cs x _ hc => TreeArg.Rep.le hle hc
    induction d with
    | zero =>
      intro j hj hne k m0 m hm
      obtain ⟨m, rfl⟩ : ∃ j, m = j + 1 := ⟨m - 1, by omega⟩
      have hc : ¬ f.args[i].name ∈ (f.args.take i).map (·.name) := fun hc => by
        obtain ⟨y, hy, hyn⟩ := List.mem_map.1 hc
        obtain ⟨q, hq, hqs⟩ := List.getElem_of_mem hy
        rw [List.getElem_take] at hqs
        rw [List.length_take] at hq
        exact hne q y (by omega) (by rw [← hqs]; exact List.getElem?_eq_getElem (by omega)) hyn
      have : ¬ j < i := by omega
      rw [spec_l2Fun.L1_step, if_neg hc]
      simp [this, spec_l2Fun.A1_x2]
    | succ d ih =>
      intro j hj hne k m0 m hm
      obtain ⟨m, rfl⟩ : ∃ j, m = j + 1 := ⟨m - 1, by omega⟩
      have hji : j < i := by omega
      have hjl : j < f.args.length := by omega
      obtain ⟨r, o, hv, cs, hr, hP⟩ := h1'.at hjl
      obtain ⟨r', o', hv', cs', hr', hP'⟩ := h1'.at hlt
      have g1 : rdc σi r (o + 0) 1 = some [.str f.args[j].name] := by
        have := rdc_sub hr 0 1 (by omega)
        generalize f.args[j] = x at hP
        cases hP with | mk => exact this
      have g2 : rdc σi r' (o' + 0) 1 = some [.str f.args[i].name] := by
        have := rdc_sub hr' 0 1 (by omega)
        generalize f.args[i] = x at hP'
        cases hP' with | mk => exact this
      have hw : IntKind.wrap .i64 ((j : Int) + 1) = ((j + 1 : Nat) : Int) := wrap_id (by omega) (by omega)
      rw [spec_l2Fun.L1_step]
      by_cases hs : f.args[j].name = f.args[i].name
      · have hc : f.args[i].name ∈ (f.args.take i).map (·.name) := by
          refine List.mem_map.2 ⟨f.args[j], ?_, hs⟩
          have : f.args[j] = (f.args.take i)[j]'(by rw [List.length_take]; omega) := by rw [List.getElem_take]
          rw [this]
          exact List.getElem_mem _
        rw [if_pos hc]
        simp only [Int.ofNat_lt, hji, decide_true, cond_true, hv, g1, hv', g2, Option.bind_some, uncons_cons, castStr_str, isNil_nil, hs, spec_l2Fun.A1_ret]
      · simp only [Int.ofNat_lt, hji, decide_true, cond_true, hv, g1, hv', g2, Option.bind_some, uncons_cons, castStr_str, isNil_nil, hs, decide_false, cond_false, hw]
        refine ih (j + 1) (by omega) (fun q y hq hy => ?_) k m0 m (by omega)
        by_cases hqj : q = j
        · subst hqj
          rw [List.getElem?_eq_getElem hjl] at hy
          injection hy with hy
          rw [← hy]; exact hs
        · exact hne q y (by omega) hy
  have l13 := l12.trans l3
  obtain ⟨w, σ', ⟨hl, rfl⟩, he⟩ := loop (L := spec_l2Fun.L0) (A := spec_l2Fun.A0) (S := Nat × Heap)
    (Inv := fun s => s.1 ≤ f.args.length ∧ Lh σ s.2 ∧ (∀ x, x ∈ f.args.take s.1 → IsType x.type) ∧ AllNames ((f.args.take s.1).map (·.name))) (Good := fun w σ' => Lh σ σ' ∧ w = .bool (decide (FunOk f)))
    (vals := fun s => [.box [.str f.name, .bool f.pub, a3, .int .i64 f.type, .int .i64 f.body.kind, .int .i64 f.body.num, .str f.body.name, .str f.body.mod, a9], .v (.int .i64 (s.1 : Int))]) (hp := fun s => s.2) (far := fun s => f.args.length - s.1) (fun ⟨i, σi⟩ ⟨hi, hle, hty, hok⟩ => by
      simp only at hi hle hty hok ⊢
      have h1' : RepS 2 (TreeArg.Rep σi) σi a3 f.args := h1.mono hle fun cs x _ hc => TreeArg.Rep.le hle hc
      by_cases hlt : i < f.args.length
      · obtain ⟨r, o, hv, cs, hr, hP⟩ := h1'.at hlt
        have hm : f.args[i] ∈ f.args := List.getElem_mem hlt
        have g1 : rdc σi r (o + 0) 1 = some [.str f.args[i].name] := by
          have := rdc_sub hr 0 1 (by omega)
          generalize f.args[i] = x at hP
          cases hP with | mk => exact this
        have g2 : rdc σi r (o + 1) 1 = some [.int .i64 f.args[i].type] := by
          have := rdc_sub hr 1 1 (by omega)
          generalize f.args[i] = x at hP
          cases hP with | mk => exact this
        obtain ⟨σ4, l4, c4⟩ := specLexName_gives σi f.args[i].name (hargs _ hm)
        by_cases hN : IsName f.args[i].name
        rotate_left
        · refine .inl ⟨_, σ4, ⟨hle.trans l4, rfl⟩, c4.mono fun k e4 m => ?_⟩
          have : ¬ FunOk f := fun h => hN (h.2.2.2.2.2.1 _ (List.mem_map.2 ⟨_, hm, rfl⟩))
          rw [spec_l2Fun.L0_step, h1.vlen]
          simp only [Option.bind_some, Int.ofNat_lt, hlt, decide_true, cond_true, hv, g1, uncons_cons, castStr_str, isNil_nil, e4, castBool_bool, hN, decide_false, Bool.not_false, spec_l2Fun.A0_ret, this]
        obtain ⟨s5, hs5, σ5, l5, c5⟩ := treeType_gives σ4 f.args[i].type
        have g2' := l4.rdc g2
        have l45 := hle.trans (l4.trans l5)
        by_cases hT : IsType f.args[i].type
        rotate_left
        · refine .inl ⟨_, σ5, ⟨l45, rfl⟩, (c4.and c5).mono fun k ⟨e4, e5⟩ m => ?_⟩
          have : ¬ FunOk f := fun h => hT (h.2.2.2.2.1 _ hm)
          have hs6 := hs5.2 hT
          rw [spec_l2Fun.L0_step, h1.vlen]
          simp only [Option.bind_some, Int.ofNat_lt, hlt, decide_true, cond_true, hv, g1, g2', uncons_cons, castStr_str, castInt_int, isNil_nil, e4, castBool_bool, hN, Bool.not_true, cond_false, e5, hs6, spec_l2Fun.A0_ret, this, decide_false]
        have hs6 : ¬ s5 = ⟨#[]⟩ := fun hc => hs5.1 hc hT
        have ht := take_next hlt
        have hinn := inner i hlt σ5 l45 i 0 (by omega) (fun q y hq => absurd hq (by omega))
        by_cases hc : f.args[i].name ∈ (f.args.take i).map (·.name)
        · refine .inl ⟨_, σ5, ⟨l45, rfl⟩, (Ev.far i (c4.and c5)).mono fun k ⟨⟨e4, e5⟩, hk⟩ m => ?_⟩
          have : ¬ FunOk f := fun h => by
            have h7 := h.2.2.2.2.2.take (i + 1)
            rw [← List.map_take, ht, List.map_append] at h7
            exact (List.nodup_append.1 h7.2).2.2 _ hc _ (by simp) rfl
          have e6 := hinn k m k hk
          rw [if_pos hc] at e6
          rw [spec_l2Fun.L0_step, h1.vlen]
          simp only [Option.bind_some, Int.ofNat_lt, hlt, decide_true, cond_true, hv, g1, g2', uncons_cons, castStr_str, castInt_int, isNil_nil, e4, castBool_bool, hN, Bool.not_true, cond_false, e5, hs6, decide_false]
          rw [show ((0 : Int)) = ((0 : Nat) : Int) from rfl, e6]
          simp [spec_l2Fun.A0_ret, this]
        · refine .inr ⟨(i + 1, σ5), ⟨hlt, l45, ?_, ?_⟩, by simp only; omega, (Ev.far i (c4.and c5)).mono fun k ⟨⟨e4, e5⟩, hk⟩ m => ?_⟩
          · intro x hx
            rw [ht] at hx
            rcases List.mem_append.1 hx with h | h
            · exact hty x h
            · simp at h; rw [h]; exact hT
          · simp only
            rw [ht, List.map_append]
            refine ⟨fun x hx => ?_, ?_⟩
            · rcases List.mem_append.1 hx with h | h
              · exact hok.1 x h
              · simp at h; rw [h]; exact hN
            · rw [List.nodup_append]
              refine ⟨hok.2, by simp, fun a ha b hb hab => ?_⟩
              simp at hb
              exact hc (hb ▸ hab ▸ ha)
          · have hw : IntKind.wrap .i64 ((i : Int) + 1) = ((i + 1 : Nat) : Int) := wrap_id (by omega) (by omega)
            have e6 := hinn k m k hk
            rw [if_neg hc, hw] at e6
            rw [spec_l2Fun.L0_step, h1.vlen]
            simp only [Option.bind_some, Int.ofNat_lt, hlt, decide_true, cond_true, hv, g1, g2', uncons_cons, castStr_str, castInt_int, isNil_nil, e4, castBool_bool, hN, Bool.not_true, cond_false, e5, hs6, decide_false]
            rw [show ((0 : Int)) = ((0 : Nat) : Int) from rfl, e6]
      · refine .inl ⟨_, σi, ⟨hle, rfl⟩, Ev.now fun k m => ?_⟩
        rw [List.take_of_length_le (by omega)] at hok hty
        have : FunOk f := ⟨hn, lenle, ht, hb, hty, hok⟩
        rw [spec_l2Fun.L0_step, h1.vlen]
        simp [hlt, spec_l2Fun.A0_x0, this]) (0, σ3) ⟨Nat.zero_le _, l13, fun x hx => by simp at hx, fun x hx => by simp at hx, by simp⟩
  refine Gives.mk hl ((Ev.and c1 (Ev.and c2 (Ev.and c3 (Ev.far f.args.length he)))).mono fun k ⟨e1, e2, e3, e4, hk⟩ => ?_)
  rw [spec_l2Fun.eq, h1.vlen]
  simp only [e1, hn, decide_true, Bool.not_true, cond_false, Option.bind_some, castBool_bool, h4', decide_false, e2, castStr_str, hs', e3, hb]
  exact e4 k (by simpa using hk)
end Go.G

/- TreeOk of the reference. -/
set_option linter.unusedVariables false
set_option linter.unusedSimpArgs false
namespace Go.G
open Go.HM Go.Proofs
def ModOk (m : TreeMod) : Prop := m.uses.length ≤ 4 ∧ m.funs.length ≤ 8 ∧ m.main.length ≤ 1 ∧ AllNames m.uses ∧ sizesOk 0 (bodies m) ∧ (∀ f, f ∈ m.funs → FunOk f) ∧ AllNames (m.funs.map (·.name)) ∧ ∀ e, e ∈ m.main → Right e
noncomputable instance (m : TreeMod) : Decidable (ModOk m) := Classical.propDecidable _
theorem specTreeOk_gives {σ : Heap} {m : TreeMod} (hF : m.Fit) (htot : m.total ≤ 1048576) {cs : List V} (hr : TreeMod.Rep σ cs m) : Gives G n_spec_TreeOk [.agg cs] σ (.bool (decide (ModOk m))) := by
  have c2 : ∀ σ', Lh σ σ' → Runs G n_spec_l2Size [.agg cs] σ' (.bool (decide (sizesOk 0 (bodies m)))) σ' := fun σ' hl => l2Size_runs htot (TreeMod.Rep.le hl hr)
  cases hF with
  | mk f0 f1 f2 f3 f4 f5 =>
  cases hr with
  | mk h0 h1 h2 =>
  rename_i a1 a2 a3
  by_cases k1 : 4 < m.uses.length
  · refine Gives.mk (Lh.refl σ) (Ev.now fun k => ?_)
    have : ¬ ModOk m := fun h => by have := h.1; omega
    have k1' : (4 : Int) < (m.uses.length : Int) := by omega
    rw [spec_TreeOk.eq, h0.vlen]; simp only [Option.bind_some, k1', decide_true, cond_true, this, decide_false]
  by_cases k2 : 8 < m.funs.length
  · refine Gives.mk (Lh.refl σ) (Ev.now fun k => ?_)
    have : ¬ ModOk m := fun h => by have := h.2.1; omega
    have k1' : ¬ (4 : Int) < (m.uses.length : Int) := by omega
    have k2' : (8 : Int) < (m.funs.length : Int) := by omega
    rw [spec_TreeOk.eq, h0.vlen, h1.vlen]; simp only [Option.bind_some, k1', k2', decide_true, cond_true, this, decide_false, cond_false]
  by_cases k3 : 1 < m.main.length
  · refine Gives.mk (Lh.refl σ) (Ev.now fun k => ?_)
    have : ¬ ModOk m := fun h => by have := h.2.2.1; omega
    have k1' : ¬ (4 : Int) < (m.uses.length : Int) := by omega
    have k2' : ¬ (8 : Int) < (m.funs.length : Int) := by omega
    have k3' : (1 : Int) < (m.main.length : Int) := by omega
    rw [spec_TreeOk.eq, h0.vlen, h1.vlen, h2.vlen]; simp only [Option.bind_some, k1', k2', k3', decide_true, cond_true, this, decide_false, cond_false]
  have k1' : ¬ (4 : Int) < (m.uses.length : Int) := by omega
  have k2' : ¬ (8 : Int) < (m.funs.length : Int) := by omega
  have k3' : ¬ (1 : Int) < (m.main.length : Int) := by omega
  obtain ⟨σ1, l1, c1⟩ := l2Uses_gives σ h0 f0 f1
  by_cases hU : AllNames m.uses
  rotate_left
  · refine Gives.mk l1 (c1.mono fun k e1 => ?_)
    have : ¬ ModOk m := fun h => hU h.2.2.2.1
    rw [spec_TreeOk.eq, h0.vlen, h1.vlen, h2.vlen]; simp only [Option.bind_some, k1', k2', k3', decide_false, cond_false, e1, castBool_bool, hU, Bool.not_false, cond_true, this]
  have c2' := c2 σ1 l1
  by_cases hS : sizesOk 0 (bodies m)
  rotate_left
  · refine Gives.mk l1 ((c1.and c2').mono fun k ⟨e1, e2⟩ => ?_)
    have : ¬ ModOk m := fun h => hS h.2.2.2.2.1
    rw [spec_TreeOk.eq, h0.vlen, h1.vlen, h2.vlen]; simp only [Option.bind_some, k1', k2', k3', decide_false, cond_false, e1, castBool_bool, hU, decide_true, Bool.not_true, e2, hS, Bool.not_false, cond_true, this]
  obtain ⟨w, σ', ⟨hl, rfl⟩, he⟩ := loop (L := spec_TreeOk.L0) (A := spec_TreeOk.A0) (S := Nat × V × Heap)
    (Inv := fun s => s.1 ≤ m.funs.length ∧ Lh σ1 s.2.2 ∧ Grown σ1.length 1 StrRep s.2.2 s.2.1 ((m.funs.take s.1).map (·.name)) ∧ ∀ f, f ∈ m.funs.take s.1 → FunOk f) (Good := fun w σ' => Lh σ σ' ∧ w = .bool (decide (ModOk m)))
    (vals := fun s => [.box [a1, a2, a3], .v s.2.1, .v (.int .i64 (s.1 : Int))]) (hp := fun s => s.2.2) (far := fun s => m.funs.length - s.1) (fun ⟨i, u, σi⟩ ⟨hi, hle, hg, hok⟩ => by
      simp only at hi hle hg hok ⊢
      have hle0 := l1.trans hle
      by_cases hlt : i < m.funs.length
      · obtain ⟨r, o, hv, cs, hr, hP⟩ := h1.at hlt
        have hm : m.funs[i] ∈ m.funs := List.getElem_mem hlt
        have hfit := f3 _ hm
        have ht := take_next hlt
        have hw : IntKind.wrap .i64 ((i : Int) + 1) = ((i + 1 : Nat) : Int) := wrap_id (by omega) (by omega)
        have hli : ((m.funs.take i).map (·.name)).length ≤ 8 := by rw [List.length_map, List.length_take]; omega
        generalize m.funs[i] = x at hP ht hm hfit
        obtain ⟨u', σ2, ha, hg', hk⟩ := hg.app (bytes := 16) (Chunks.one (P := StrRep) (cs := [.str x.name]) (x := x.name) rfl) (by simp only [List.length_singleton]; omega) (by simp only [List.length_singleton]; omega)
        have ha' : vappend 1 16 σi u 1 [.str x.name] = some (u', σ2) := ha
        have hl2 := hk σ1 (Nat.le_refl _) hle
        have hl3 := l1.trans hl2
        obtain ⟨σ3, l3, c3⟩ := l2Fun_gives hfit (TreeFun.Rep.le hl3 hP)
        have g1 := rdc_sub (hle0.rdc hr) 0 1 (by omega)
        have g2 := hl3.rdc hr
        cases hP with
        | mk q0 q1 =>
        have g1' : rdc σi r (o + 0) 1 = some [.str x.name] := g1
        by_cases hFk : FunOk x
        · refine .inr ⟨(i + 1, u', σ3), ⟨hlt, hl2.trans l3, ?_, fun y hy => ?_⟩, by simp only; omega, c3.mono fun k e3 m => ?_⟩
          · simp only
            rw [ht, List.map_append]
            exact hg'.le l3
          · rw [ht] at hy
            rcases List.mem_append.1 hy with h | h
            · exact hok y h
            · simp at h; rw [h]; exact hFk
          · rw [spec_TreeOk.L0_step, h1.vlen]
            simp only [Option.bind_some, Int.ofNat_lt, hlt, decide_true, cond_true, hv, g1', ha', g2, uncons_cons, castStr_str, castBool_bool, castInt_int, isNil_nil, e3, hFk, Bool.not_true, cond_false, hw]
        · refine .inl ⟨_, σ3, ⟨hl3.trans l3, rfl⟩, c3.mono fun k e3 m' => ?_⟩
          have : ¬ ModOk m := fun h => hFk (h.2.2.2.2.2.1 _ hm)
          rw [spec_TreeOk.L0_step, h1.vlen]
          simp only [Option.bind_some, Int.ofNat_lt, hlt, decide_true, cond_true, hv, g1', ha', g2, uncons_cons, castStr_str, castBool_bool, castInt_int, isNil_nil, e3, hFk, decide_false, Bool.not_false, spec_TreeOk.A0_ret, this]
      · rw [List.take_of_length_le (by omega)] at hg hok
        have hR : RepS 1 StrRep σi u (m.funs.map (·.name)) := hg.rep fun cs x _ h => h
        obtain ⟨σ2, l2, c4⟩ := l2Uses_gives σi hR (by rw [List.length_map]; omega) (fun x hx => by
          obtain ⟨f, hf, rfl⟩ := List.mem_map.1 hx
          have := f3 f hf
          cases this with | mk g0 => exact g0)
        have hlt' : ¬ (i : Int) < (m.funs.length : Int) := by omega
        by_cases hN : AllNames (m.funs.map (·.name))
        rotate_left
        · refine .inl ⟨_, σ2, ⟨hle0.trans l2, rfl⟩, c4.mono fun k e4 m' => ?_⟩
          have : ¬ ModOk m := fun h => hN h.2.2.2.2.2.2.1
          rw [spec_TreeOk.L0_step, h1.vlen]
          simp only [Option.bind_some, hlt', decide_false, cond_false, spec_TreeOk.A0_x0, e4, castBool_bool, hN, this]
        by_cases hm0 : m.main.length = 0
        · refine .inl ⟨_, σ2, ⟨hle0.trans l2, rfl⟩, c4.mono fun k e4 m' => ?_⟩
          have hnil : m.main = [] := List.length_eq_zero_iff.1 hm0
          have : ModOk m := ⟨by omega, by omega, by omega, hU, hS, hok, hN, fun e he => by rw [hnil] at he; cases he⟩
          have hm0' : (m.main.length : Int) = 0 := by omega
          rw [spec_TreeOk.L0_step, h1.vlen]
          simp only [Option.bind_some, hlt', decide_false, cond_false, spec_TreeOk.A0_x0, e4, castBool_bool, hN, decide_true, cond_true, h2.vlen, hm0', this]
        · have h0l : 0 < m.main.length := by omega
          have l02 := hle0.trans l2
          obtain ⟨r, o, hv, cs, hr, hP⟩ := h2.at h0l
          obtain ⟨σ3, l3, c5⟩ := l2Expr_gives m.main[0] (f5 _ (List.getElem_mem h0l)) (σ := σ2) (TreeExpr.Rep.le l02 _ hP)
          have hr2 := l02.rdc hr
          have hall : (∀ e, e ∈ m.main → Right e) ↔ Right m.main[0] := by
            constructor
            · intro h; exact h _ (List.getElem_mem h0l)
            · intro h e he
              obtain ⟨j, hj, rfl⟩ := List.getElem_of_mem he
              have : j = 0 := by omega
              subst this
              exact h
          have hmk : ModOk m ↔ Right m.main[0] := ⟨fun h => hall.1 h.2.2.2.2.2.2.2, fun h => ⟨by omega, by omega, by omega, hU, hS, hok, hN, hall.2 h⟩⟩
          have hdec : decide (ModOk m) = decide (Right m.main[0]) := by simp [hmk]
          rw [hdec]
          generalize m.main[0] = x at hP c5
          cases hP with
          | mk q =>
          refine .inl ⟨_, σ3, ⟨l02.trans l3, rfl⟩, (c4.and c5).mono fun k ⟨e4, e5⟩ m' => ?_⟩
          have hm0' : ¬ (m.main.length : Int) = 0 := by omega
          have hv' : vidx 5 a3 0 = some (r, o) := hv
          rw [spec_TreeOk.L0_step, h1.vlen]
          simp only [Option.bind_some, hlt', decide_false, cond_false, spec_TreeOk.A0_x0, e4, castBool_bool, hN, decide_true, cond_true, h2.vlen, hm0', hv', hr2, uncons_cons, castInt_int, castStr_str, isNil_nil, e5]) (0, .sl σ1.length 0 0 true, hnew σ1 1 []) ⟨Nat.zero_le _, Lh.new _ _ _, Grown.start σ1 1 StrRep true, fun f hf => by simp at hf⟩
  refine Gives.mk hl ((Ev.and c1 (Ev.and c2' (Ev.far m.funs.length he))).mono fun k ⟨e1, e2, e3, hk⟩ => ?_)
  rw [spec_TreeOk.eq, h0.vlen, h1.vlen, h2.vlen]; simp only [Option.bind_some, k1', k2', k3', decide_false, cond_false, e1, castBool_bool, hU, decide_true, Bool.not_true, e2, hS]
  exact e3 k (by simpa using hk)
end Go.G

/- TreeOk of the program (begun: modOk_iff builds). -/
set_option linter.unusedVariables false
set_option linter.unusedSimpArgs false
namespace Go.G
open Go.HM Go.Proofs
/-- What the program asks of a function before it looks at bodies. -/
def HeadOk (f : TreeFun) : Prop := f.args.length ≤ 4 ∧ AllNames (f.args.map (·.name)) ∧ IsType f.type ∧ ∀ x, x ∈ f.args → IsType x.type
theorem modOk_iff (m : TreeMod) : ModOk m ↔ m.uses.length ≤ 4 ∧ m.funs.length ≤ 8 ∧ m.main.length ≤ 1 ∧ AllNames m.uses ∧ (∀ f, f ∈ m.funs → HeadOk f) ∧ sizesOk 0 (bodies m) ∧ (∀ e, e ∈ bodies m → Right e) ∧ AllNames (m.funs.map (·.name)) := by
  constructor
  · rintro ⟨h1, h2, h3, h4, h5, h6, h7, h8⟩
    refine ⟨h1, h2, h3, h4, fun f hf => ⟨(h6 f hf).2.1, (h6 f hf).2.2.2.2.2, (h6 f hf).2.2.1, (h6 f hf).2.2.2.2.1⟩, h5, fun e he => ?_, h7⟩
    rcases List.mem_append.1 he with h | h
    · obtain ⟨f, hf, rfl⟩ := List.mem_map.1 h
      exact (h6 f hf).2.2.2.1
    · exact h8 e h
  · rintro ⟨h1, h2, h3, h4, h5, h6, h7, h8⟩
    exact ⟨h1, h2, h3, h4, h6, fun f hf => ⟨h8.1 _ (List.mem_map.2 ⟨f, hf, rfl⟩), (h5 f hf).1, (h5 f hf).2.2.1, h7 _ (List.mem_append.2 (.inl (List.mem_map.2 ⟨f, hf, rfl⟩))), (h5 f hf).2.2.2, (h5 f hf).2.1⟩, h8, fun e he => h7 e (List.mem_append.2 (.inr he))⟩
/-- The first loop's test of one function. -/
theorem headOk_step {σ : Heap} {f : TreeFun} (hF : f.Fit) (ht : f.total ≤ 1048576) {v : V} (h : RepS 2 (TreeArg.Rep σ) σ v f.args) (hlen : f.args.length ≤ 4) :
    ∃ v1 σ1 σ2 σ3 b, Lh σ σ1 ∧ Lh σ1 σ2 ∧ Lh σ2 σ3 ∧ Runs G n_impl_argNames [v] σ v1 σ1 ∧ Runs G n_impl_areNames [v1] σ1 (.bool (decide (AllNames (f.args.map (·.name))))) σ2 ∧
      Runs G n_slices_ContainsFunc_impl_TreeArg_impl_TreeArg [v, .fn n_impl_TreeOk_1 []] σ2 (.bool b) σ3 ∧ (b = false ↔ ∀ x, x ∈ f.args → IsType x.type) := by
  obtain ⟨v1, σ1, l1, r1, c1⟩ := argNames_runs (by omega) h
  cases hF with
  | mk f0 f1 f2 f3 f4 =>
  obtain ⟨σ2, l2, c2⟩ := areNames_gives σ1 r1 (by rw [List.length_map]; omega) (fun x hx => by
    obtain ⟨a, ha, rfl⟩ := List.mem_map.1 hx
    have := f2 a ha
    cases this with | mk g0 g1 => exact g0)
  have l12 := l1.trans l2
  obtain ⟨σ3, l3, c3⟩ := containsArg_gives (σ := σ2) f1 (h.mono l12 fun cs x _ hc => TreeArg.Rep.le l12 hc) n_impl_TreeOk_1 (fun x => ¬ IsType x.type) (fun x _ σ cs hr => treeOk1_gives x σ cs hr)
  refine ⟨v1, σ1, σ2, σ3, _, l1, l2, l3, c1, c2, c3, ?_⟩
  rw [has_false]
  exact ⟨fun h x hx => Classical.not_not.1 (h x hx), fun h x hx hc => hc (h x hx)⟩
end Go.G
