/- Arities, types, lists of parameters. -/
import Derived.Test.YthcinellhbmcoaaM
set_option linter.unusedVariables false
set_option linter.unusedSimpArgs false
set_option maxRecDepth 100000
namespace Go.X3
open Go.HM Go.Proofs
theorem isType_runs {σ : Heap} (n : Int) : Runs G n_impl_isType [.int .i64 n] σ (.bool (decide (1 ≤ n ∧ n ≤ 3))) σ :=
  Runs.mk ((inRange_runs (σ := σ) n 1 3).mono fun k e => by rw [impl_isType.eq]; simp only [e, Option.bind_some, castBool_bool])
theorem isShort_runs {σ : Heap} (n : Int) : Runs G n_impl_isShort [.int .i64 n] σ (.bool (decide (-99999999999999999 ≤ n ∧ n ≤ 99999999999999999))) σ :=
  Runs.mk ((inRange_runs (σ := σ) n (-99999999999999999) 99999999999999999).mono fun k e => by rw [impl_isShort.eq]; simp only [e, Option.bind_some, castBool_bool])
def arity (s : ByteArray) : Int :=
  if s = ⟨#[110, 111, 116]⟩ then 1 else if s = ⟨#[108, 101, 110]⟩ then 1 else if s = ⟨#[112, 114, 105, 110, 116]⟩ then 1 else if s = ⟨#[112, 117, 116]⟩ then 3 else
  if s = ⟨#[43]⟩ then 2 else if s = ⟨#[45]⟩ then 2 else if s = ⟨#[42]⟩ then 2 else if s = ⟨#[47]⟩ then 2 else if s = ⟨#[37]⟩ then 2 else if s = ⟨#[60]⟩ then 2 else if s = ⟨#[60, 61]⟩ then 2 else if s = ⟨#[61]⟩ then 2 else
  if s = ⟨#[97, 116]⟩ then 2 else if s = ⟨#[106, 111, 105, 110]⟩ then 2 else if s = ⟨#[97, 110, 100]⟩ then 2 else if s = ⟨#[111, 114]⟩ then 2 else -1
theorem implArity_runs {σ : Heap} (s : ByteArray) : Runs G n_impl_TreeArity [.str s] σ (.int .i64 (arity s)) σ := Runs.mk (Ev.now fun k => by
  rw [impl_TreeArity.eq]
  by_cases h1 : s = ⟨#[110, 111, 116]⟩
  · subst h1; kernel_rfl
  by_cases h2 : s = ⟨#[108, 101, 110]⟩
  · subst h2; kernel_rfl
  by_cases h3 : s = ⟨#[112, 114, 105, 110, 116]⟩
  · subst h3; kernel_rfl
  by_cases h4 : s = ⟨#[112, 117, 116]⟩
  · subst h4; kernel_rfl
  by_cases h5 : s = ⟨#[43]⟩
  · subst h5; kernel_rfl
  by_cases h6 : s = ⟨#[45]⟩
  · subst h6; kernel_rfl
  by_cases h7 : s = ⟨#[42]⟩
  · subst h7; kernel_rfl
  by_cases h8 : s = ⟨#[47]⟩
  · subst h8; kernel_rfl
  by_cases h9 : s = ⟨#[37]⟩
  · subst h9; kernel_rfl
  by_cases h10 : s = ⟨#[60]⟩
  · subst h10; kernel_rfl
  by_cases h11 : s = ⟨#[60, 61]⟩
  · subst h11; kernel_rfl
  by_cases h12 : s = ⟨#[61]⟩
  · subst h12; kernel_rfl
  by_cases h13 : s = ⟨#[97, 116]⟩
  · subst h13; kernel_rfl
  by_cases h14 : s = ⟨#[106, 111, 105, 110]⟩
  · subst h14; kernel_rfl
  by_cases h15 : s = ⟨#[97, 110, 100]⟩
  · subst h15; kernel_rfl
  by_cases h16 : s = ⟨#[111, 114]⟩
  · subst h16; kernel_rfl
  simp only [arity, h1, h2, h3, h4, h5, h6, h7, h8, h9, h10, h11, h12, h13, h14, h15, h16, decide_false, cond_false, if_false])
def prims : List ByteArray := [⟨#[43]⟩, ⟨#[45]⟩, ⟨#[42]⟩, ⟨#[47]⟩, ⟨#[37]⟩, ⟨#[60]⟩, ⟨#[60, 61]⟩, ⟨#[61]⟩, ⟨#[110, 111, 116]⟩, ⟨#[97, 116]⟩, ⟨#[108, 101, 110]⟩, ⟨#[112, 117, 116]⟩, ⟨#[106, 111, 105, 110]⟩, ⟨#[112, 114, 105, 110, 116]⟩, ⟨#[97, 110, 100]⟩, ⟨#[111, 114]⟩]
theorem prims_runs (σ : Heap) : Runs G n_spec_l2Prims [] σ (.sl σ.length 0 16 true) (hnew σ 1 (prims.map .str)) := Runs.mk (Ev.now fun k => by rw [spec_l2Prims.eq]; rfl)
theorem l2Prim_gives (σ : Heap) (s : ByteArray) : ∃ n : Int, ((n = 0 ∧ ∀ x, x ∈ prims → x ≠ s) ∨ (∃ i, ∃ h : i < prims.length, prims[i] = s ∧ n = (i : Int) + 1)) ∧ Gives G n_spec_l2Prim [.str s] σ (.int .i64 n) := by
  have h : RepS 1 StrRep (hnew σ 1 (prims.map .str)) (.sl σ.length 0 16 true) prims := RepS.lit σ prims .str (fun _ => rfl) true 16 rfl
  have hp : prims.length = 16 := rfl
  obtain ⟨w, σ', ⟨hl, n, hn, rfl⟩, he⟩ := loop (L := spec_l2Prim.L0) (A := spec_l2Prim.A0) (S := Nat)
    (Inv := fun i => i ≤ prims.length ∧ ∀ j x, j < i → prims[j]? = some x → x ≠ s) (Good := fun w σ' => Lh σ σ' ∧ ∃ n : Int, ((n = 0 ∧ ∀ x, x ∈ prims → x ≠ s) ∨ (∃ i, ∃ h : i < prims.length, prims[i] = s ∧ n = (i : Int) + 1)) ∧ w = .int .i64 n)
    (vals := fun i => [.v (.str s), .v (.sl σ.length 0 16 true), .v (.int .i64 (i : Int))]) (hp := fun _ => hnew σ 1 (prims.map .str)) (far := fun i => prims.length - i) (fun i ⟨hi, hne⟩ => by
      by_cases hlt : i < prims.length
      · obtain ⟨r, o, hv, cs, hr, hP⟩ := h.at hlt
        unfold StrRep at hP
        subst hP
        have hw : IntKind.wrap .i64 ((i : Int) + 1) = ((i + 1 : Nat) : Int) := wrap_id (by omega) (by omega)
        by_cases hs : prims[i] = s
        · refine .inl ⟨.int .i64 ((i : Int) + 1), hnew σ 1 (prims.map .str), ⟨Lh.new _ _ _, _, .inr ⟨i, hlt, hs, rfl⟩, rfl⟩, Ev.now fun k m => ?_⟩
          rw [spec_l2Prim.L0_step, h.vlen]
          simp [hlt, hv, hr, hs, spec_l2Prim.A0_ret, hw]
        · refine .inr ⟨i + 1, ⟨hlt, fun j x hj hx => ?_⟩, by omega, Ev.now fun k m => ?_⟩
          · by_cases hji : j = i
            · subst hji
              rw [List.getElem?_eq_getElem hlt] at hx
              injection hx with hx
              rw [← hx]; exact hs
            · exact hne j x (by omega) hx
          · rw [spec_l2Prim.L0_step, h.vlen]
            simp [hlt, hv, hr, hs]
            rw [hw]
            rfl
      · refine .inl ⟨.int .i64 0, hnew σ 1 (prims.map .str), ⟨Lh.new _ _ _, 0, .inl ⟨rfl, fun x hx hc => ?_⟩, rfl⟩, Ev.now fun k m => ?_⟩
        · obtain ⟨j, hj, hjs⟩ := List.getElem_of_mem hx
          exact hne j _ (by omega) (List.getElem?_eq_getElem hj) (hjs.trans hc)
        · rw [spec_l2Prim.L0_step, h.vlen]
          simp [hlt, spec_l2Prim.A0_x0]) 0 ⟨Nat.zero_le _, fun j x hj => absurd hj (by omega)⟩
  refine ⟨n, hn, Gives.mk hl (((prims_runs σ).and (Ev.far prims.length he)).mono fun k ⟨e1, e, hk⟩ => ?_)⟩
  rw [spec_l2Prim.eq, e1]
  exact e k (by omega)
theorem specArity_gives (σ : Heap) (s : ByteArray) : Gives G n_spec_TreeArity [.str s] σ (.int .i64 (arity s)) := by
  obtain ⟨n, hn, σ1, l1, c1⟩ := l2Prim_gives σ s
  refine Gives.mk l1 (c1.mono fun k e => ?_)
  rw [spec_TreeArity.eq, e]
  rcases hn with ⟨rfl, hn⟩ | ⟨i, hi, hs, rfl⟩
  · have h : ∀ x, x ∈ prims → ¬ s = x := fun x hx hc => hn x hx hc.symm
    have ha : arity s = -1 := by
      simp only [prims, List.mem_cons, List.not_mem_nil, or_false, forall_eq_or_imp, forall_eq] at h
      simp [arity, h]
    rw [ha]
    rfl
  · have hp : prims.length = 16 := rfl
    have : i = 0 ∨ i = 1 ∨ i = 2 ∨ i = 3 ∨ i = 4 ∨ i = 5 ∨ i = 6 ∨ i = 7 ∨ i = 8 ∨ i = 9 ∨ i = 10 ∨ i = 11 ∨ i = 12 ∨ i = 13 ∨ i = 14 ∨ i = 15 := by omega
    subst hs
    rcases this with rfl | rfl | rfl | rfl | rfl | rfl | rfl | rfl | rfl | rfl | rfl | rfl | rfl | rfl | rfl | rfl <;> (first | rfl | (show (_ : Option (V × Heap)) = _; kernel_rfl))
theorem treeType_gives (σ : Heap) (n : Int) : ∃ s : ByteArray, (s = ⟨#[]⟩ ↔ ¬ (1 ≤ n ∧ n ≤ 3)) ∧ Gives G n_spec_TreeType [.int .i64 n] σ (.str s) := by
  by_cases h1 : n < 1
  · refine ⟨⟨#[]⟩, by simp; omega, Gives.mk (Lh.refl σ) (Ev.now fun k => ?_)⟩
    rw [spec_TreeType.eq]
    simp only [h1, decide_true, cond_true]
  by_cases h2 : 3 < n
  · refine ⟨⟨#[]⟩, by simp; omega, Gives.mk (Lh.refl σ) (Ev.now fun k => ?_)⟩
    rw [spec_TreeType.eq]
    simp only [h1, h2, decide_true, cond_true, decide_false, cond_false]
  have hl : RepS 1 StrRep (hnew σ 1 (([⟨#[105, 110, 116]⟩, ⟨#[98, 111, 111, 108]⟩, ⟨#[114, 111, 119]⟩] : List ByteArray).map .str)) (.sl σ.length 0 3 true) [⟨#[105, 110, 116]⟩, ⟨#[98, 111, 111, 108]⟩, ⟨#[114, 111, 119]⟩] := RepS.lit σ _ .str (fun _ => rfl) true 3 rfl
  obtain ⟨i, rfl⟩ : ∃ i : Nat, n = (i : Int) + 1 := ⟨(n - 1).toNat, by omega⟩
  have hi : i < 3 := by omega
  obtain ⟨r, o, hv, cs, hr, hP⟩ := hl.at (i := i) hi
  unfold StrRep at hP
  subst hP
  have hw : IntKind.wrap .i64 ((i : Int) + 1 - 1) = (i : Int) := by rw [wrap_id (by omega) (by omega)]; omega
  refine ⟨([⟨#[105, 110, 116]⟩, ⟨#[98, 111, 111, 108]⟩, ⟨#[114, 111, 119]⟩] : List ByteArray)[i]'hi, ?_, Gives.mk (σ' := hnew σ 1 (([⟨#[105, 110, 116]⟩, ⟨#[98, 111, 111, 108]⟩, ⟨#[114, 111, 119]⟩] : List ByteArray).map .str)) (Lh.new _ _ _) (Ev.now fun k => ?_)⟩
  · have : i = 0 ∨ i = 1 ∨ i = 2 := by omega
    rcases this with rfl | rfl | rfl <;> simp <;> decide
  · rw [spec_TreeType.eq]
    simp only [h1, h2, decide_false, cond_false, hw, hv, Option.bind_some]
    change (rdc (hnew σ 1 (([⟨#[105, 110, 116]⟩, ⟨#[98, 111, 111, 108]⟩, ⟨#[114, 111, 119]⟩] : List ByteArray).map .str)) r o 1).bind _ = _
    rw [hr]
    rfl
end Go.X3
