/- The program's TypePrim and the reference's answer the same types at every word of at most 2^20 bytes, in memory of their own, and again the same at a second call; at longer words the law says nothing. -/
import Derived.Test.YtoffgpomodijoaaPFnExactTypePrimx2
import Derived.Test.YtoffgpomodijoaaLib
namespace Go.Proofs.Ytoffgpomodijoaa.Pure
open Go.RowKit Go.Proofs.Ytoffgpomodijoaa.PFnExactTypePrim Go.Proofs.YtoffgpomodijoaaW.PrintWords Go.Proofs.YtoffgpomodijoaaW.PrintLast Go.Proofs.Ytoffgpomodijoaa.Lib

/-! ### primitives -/
/-- The number of a word in a list, from n on; 0, if it isn't there. -/
def idx (l : List UInt8) : List ByteArray → Nat → Nat
  | [], _ => 0
  | x :: r, n => if x.toList = l then n else idx l r (n + 1)
theorem prim_loop (s : ByteArray) (xs : List ByteArray) (hx : xs.length ≤ 1000) : ∀ (d k i : Nat), xs.length = i + d → d < k → spec_l2Prim.l0 k s xs (i : Int) = some ((idx s.toList (xs.drop i) (i + 1) : Nat) : Int) := by
  intro d
  induction d with
  | zero =>
    intro k i hi hk
    obtain ⟨k, rfl⟩ := less k (by omega)
    simp only [spec_l2Prim.l0]
    rw [if_neg (by omega), drop_end (by omega)]
    rfl
  | succ d ih =>
    intro k i hi hk
    obtain ⟨k, rfl⟩ := less k (by omega)
    have hl : i < xs.length := by omega
    simp only [spec_l2Prim.l0]
    rw [if_pos (by omega), if_pos (by omega), rdOf_get hl, drop_cons hl, wrap_succ hl (by omega), ih k (i + 1) (by omega) (by omega)]
    rw [idx]
    split <;> rfl
/-- The number of a primitive. -/
def primNo (l : List UInt8) : Nat := if l = [43] then 1 else if l = [45] then 2 else if l = [42] then 3 else if l = [47] then 4 else if l = [37] then 5 else if l = [60] then 6 else if l = [60, 61] then 7 else if l = [61] then 8 else if l = [110, 111, 116] then 9 else if l = [97, 116] then 10 else if l = [108, 101, 110] then 11 else if l = [112, 117, 116] then 12 else if l = [106, 111, 105, 110] then 13 else if l = [112, 114, 105, 110, 116] then 14 else if l = [97, 110, 100] then 15 else if l = [111, 114] then 16 else 0
theorem if_flip {α : Type} (a b : List UInt8) (x y : α) : (if a = b then x else y) = (if b = a then x else y) := by
  by_cases h : a = b
  · rw [if_pos h, if_pos h.symm]
  · rw [if_neg h, if_neg (Ne.symm h)]
theorem prim_ev (s : ByteArray) {k : Nat} (hk : 16 < k) : spec_l2Prim.f k s = some ((primNo s.toList : Nat) : Int) := by
  unfold spec_l2Prim.f spec_l2Prims.f
  rw [Option.bind_some, show (0 : Int) = ((0 : Nat) : Int) from rfl, prim_loop s _ (by simp) 16 k 0 rfl hk]
  simp only [List.drop_zero, idx, toList_mk]
  generalize s.toList = l
  unfold primNo
  rw [if_flip [43] l, if_flip [45] l, if_flip [42] l, if_flip [47] l, if_flip [37] l, if_flip [60] l, if_flip [60, 61] l, if_flip [61] l, if_flip [110, 111, 116] l, if_flip [97, 116] l, if_flip [108, 101, 110] l, if_flip [112, 117, 116] l, if_flip [106, 111, 105, 110] l, if_flip [112, 114, 105, 110, 116] l, if_flip [97, 110, 100] l, if_flip [111, 114] l]
def prims : List (List UInt8) := [[43], [45], [42], [47], [37], [60], [60, 61], [61], [110, 111, 116], [97, 116], [108, 101, 110], [112, 117, 116], [106, 111, 105, 110], [112, 114, 105, 110, 116], [97, 110, 100], [111, 114]]
theorem by_prims {P : List UInt8 → Prop} (h : ∀ w, w ∈ prims → P w) (h0 : ∀ l, l ∉ prims → P l) (l : List UInt8) : P l := by
  by_cases e : l ∈ prims
  · exact h l e
  · exact h0 l e

/-- The types of a primitive's operands, and its own. -/
def T (l : List UInt8) : List Int × Int := if l = [43] then ([1, 1], 1) else if l = [45] then ([1, 1], 1) else if l = [42] then ([1, 1], 1) else if l = [47] then ([1, 1], 1) else if l = [37] then ([1, 1], 1) else if l = [60] then ([1, 1], 2) else if l = [60, 61] then ([1, 1], 2) else if l = [61] then ([1, 1], 2) else if l = [110, 111, 116] then ([2], 2) else if l = [97, 116] then ([3, 1], 1) else if l = [108, 101, 110] then ([3], 1) else if l = [112, 117, 116] then ([3, 1, 1], 3) else if l = [106, 111, 105, 110] then ([3, 3], 3) else if l = [112, 114, 105, 110, 116] then ([1], 1) else if l = [97, 110, 100] then ([2, 2], 2) else if l = [111, 114] then ([2, 2], 2) else ([], 0)
theorem implT (s : ByteArray) (k : Nat) : impl_TypePrim.f (k + 3) s = some (T s.toList) := by
  unfold impl_TypePrim.f
  simp only [impl_TypePrim.j0, impl_TypePrim.j1, T]
  generalize s.toList = l
  revert l
  refine by_prims (by decide +kernel) (fun l h => ?_)
  simp only [prims, List.mem_cons, List.not_mem_nil, or_false, not_or] at h
  obtain ⟨h1, h2, h3, h4, h5, h6, h7, h8, h9, h10, h11, h12, h13, h14, h15, h16⟩ := h
  simp [h1, h2, h3, h4, h5, h6, h7, h8, h9, h10, h11, h12, h13, h14, h15, h16]
theorem specT (s : ByteArray) (k : Nat) : spec_TypePrim.f (k + 30) s = some (T s.toList) := by
  unfold spec_TypePrim.f
  rw [prim_ev s (by omega), Option.bind_some]
  unfold T primNo
  generalize s.toList = l
  revert l
  refine by_prims (by decide +kernel) (fun l h => ?_)
  simp only [prims, List.mem_cons, List.not_mem_nil, or_false, not_or] at h
  obtain ⟨h1, h2, h3, h4, h5, h6, h7, h8, h9, h10, h11, h12, h13, h14, h15, h16⟩ := h
  simp [h1, h2, h3, h4, h5, h6, h7, h8, h9, h10, h11, h12, h13, h14, h15, h16]
def outs : List (List Int × Int) := [([1, 1], 1), ([1, 1], 2), ([2], 2), ([3, 1], 1), ([3], 1), ([3, 1, 1], 3), ([3, 3], 3), ([1], 1), ([2, 2], 2), ([], 0)]
theorem T_out (l : List UInt8) : T l ∈ outs := by
  revert l
  refine by_prims (by decide +kernel) (fun l h => ?_)
  simp only [prims, List.mem_cons, List.not_mem_nil, or_false, not_or] at h
  obtain ⟨h1, h2, h3, h4, h5, h6, h7, h8, h9, h10, h11, h12, h13, h14, h15, h16⟩ := h
  simp [T, outs, h1, h2, h3, h4, h5, h6, h7, h8, h9, h10, h11, h12, h13, h14, h15, h16]
theorem FnExactTypePrim : laws_FnExactTypePrim.Pure := by
  intro s hn
  refine ⟨60, ?_⟩
  unfold laws_FnExactTypePrim.f
  split
  · rfl
  · simp only [laws_FnExactTypePrim.j0, laws_FnExactTypePrim.j1, implT, specT, Option.bind_some]
    have h := T_out s.toList
    generalize T s.toList = p at h
    revert p
    decide +kernel

end Go.Proofs.Ytoffgpomodijoaa.Pure
