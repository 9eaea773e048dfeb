/- strings.Builder: what is written and read. -/
import Derived.Test.YtjadancpencnnaaK
import Derived.Test.YtjadancpencnnaaEF0
import Derived.Test.YtjadancpencnnaaEF1
import Derived.Test.YtjadancpencnnaaHMStr
set_option linter.unusedVariables false
set_option linter.unusedSimpArgs false
namespace Go.A
open Go.HM Go.Proofs
def u8c (s : ByteArray) : List V := s.data.toList.map fun c => V.int .u8 c.toNat
theorem u8c_len (s : ByteArray) : (u8c s).length = s.size := by
  unfold u8c
  rw [List.length_map, Array.length_toList]
  rfl
theorem u8c_app (s t : ByteArray) : u8c (s ++ t) = u8c s ++ u8c t := by
  unfold u8c
  rw [ByteArray.data_append, Array.toList_append, List.map_append]
theorem u8s_map : ∀ (l : List UInt8), u8s (l.map fun c => V.int .u8 c.toNat) = some l
  | [] => rfl
  | c :: l => by
    have h : (0 : Int) ≤ (c.toNat : Int) ∧ (c.toNat : Int) < 256 := ⟨by omega, by have := c.toNat_lt; omega⟩
    have e : UInt8.ofNat ((c.toNat : Int)).toNat = c := by simp
    simp only [List.map_cons, u8s, if_pos h, u8s_map l, Option.bind_some, e]
/-- A builder in row b that holds the bytes s; they lie in a row from F on. -/
def Bld (F : Nat) (σ : Heap) (b : Nat) (s : ByteArray) : Prop := ∃ x v, σ[b]? = some (some ⟨[x, v], 2, false, hbT + 1⟩) ∧ (x = .nilp ∨ x = .ptr b 0) ∧
  ((s = ⟨#[]⟩ ∧ v = .nils) ∨ ∃ r, v = .sl r 0 s.size false ∧ F ≤ r ∧ r ≠ b ∧ s.size ≠ 0 ∧ σ[r]? = some (some ⟨u8c s, 1, false, hbU + 1⟩))
/-- What lies below F stays, but for the builder. -/
def KeepF (F b : Nat) (σ σ' : Heap) : Prop := σ.length ≤ σ'.length ∧ ∀ j, j < F → j ≠ b → σ'[j]? = σ[j]?
theorem KeepF.refl (F b : Nat) (σ : Heap) : KeepF F b σ σ := ⟨Nat.le_refl _, fun _ _ _ => rfl⟩
theorem KeepF.trans {F b : Nat} {a c d : Heap} (h : KeepF F b a c) (g : KeepF F b c d) : KeepF F b a d := ⟨Nat.le_trans h.1 g.1, fun j h1 h2 => (g.2 j h1 h2).trans (h.2 j h1 h2)⟩
theorem KeepF.lh {F b : Nat} {σ0 σ σ' : Heap} (h : KeepF F b σ σ') (hl : Lh σ0 σ) (hF : σ0.length ≤ F) (hb : ∀ row, σ0[b]? ≠ some (some row)) : Lh σ0 σ' := ⟨Nat.le_trans hl.len h.1, fun j row hj => by
  have hlt := get_lt hj
  rw [h.2 j (by omega) (fun hc => by subst hc; exact hb row hj)]
  exact hl.row _ _ hj⟩
theorem Bld.new (σ : Heap) : Bld (σ.length + 1) (hnewT σ (hbT + 1) 2 [.nilp, .nils]) σ.length ⟨#[]⟩ := ⟨.nilp, .nils, by simp [hnewT], .inl rfl, .inl ⟨rfl, rfl⟩⟩
theorem Bld.up {F F' : Nat} {σ : Heap} {b : Nat} (h : Bld F σ b ⟨#[]⟩) : Bld F' σ b ⟨#[]⟩ := by
  obtain ⟨x, v, h1, h2, h3⟩ := h
  refine ⟨x, v, h1, h2, .inl ⟨rfl, ?_⟩⟩
  rcases h3 with ⟨_, h⟩ | ⟨r, _, _, _, h, _⟩
  · exact h
  · exact absurd rfl h
theorem Bld.keep {F : Nat} {σ σ' : Heap} {b : Nat} {s : ByteArray} (h : Bld F σ b s) (hl : Lh σ σ') : Bld F σ' b s := by
  obtain ⟨x, v, h1, h2, h3⟩ := h
  refine ⟨x, v, hl.row _ _ h1, h2, ?_⟩
  rcases h3 with h | ⟨r, g1, g2, g3, g4, g5⟩
  · exact .inl h
  · exact .inr ⟨r, g1, g2, g3, g4, hl.row _ _ g5⟩
theorem copyCheck_bld {F : Nat} {σ : Heap} {b : Nat} {s : ByteArray} (h : Bld F σ b s) : ∃ σ' v, Runs G n_pstrings_Builder_copyCheck [.ptr b 0] σ (.tuple []) σ' ∧ σ'.length = σ.length ∧ (∀ j, j ≠ b → σ'[j]? = σ[j]?) ∧ σ'[b]? = some (some ⟨[.ptr b 0, v], 2, false, hbT + 1⟩) ∧
    ((s = ⟨#[]⟩ ∧ v = .nils) ∨ ∃ r, v = .sl r 0 s.size false ∧ F ≤ r ∧ r ≠ b ∧ s.size ≠ 0 ∧ σ'[r]? = some (some ⟨u8c s, 1, false, hbU + 1⟩)) := by
  obtain ⟨x, v, h1, h2, h3⟩ := h
  have hlt := get_lt h1
  rcases h2 with rfl | rfl
  · refine ⟨σ.set b (some ⟨[.ptr b 0, v], 2, false, hbT + 1⟩), v, hook_runs (h := hkCopy hbT) rfl (by simp [hkCopy, h1]), by simp, fun j hj => by rw [List.getElem?_set, if_neg (Ne.symm hj)], by simp [hlt], ?_⟩
    rcases h3 with h | ⟨r, g1, g2, g3, g4, g5⟩
    · exact .inl h
    · exact .inr ⟨r, g1, g2, g3, g4, by rw [List.getElem?_set, if_neg (Ne.symm g3)]; exact g5⟩
  · exact ⟨σ, v, hook_runs (h := hkCopy hbT) rfl (by simp [hkCopy, h1]), rfl, fun _ _ => rfl, h1, h3⟩
/-- Bytes put behind. -/
theorem app_bld {F : Nat} {σ : Heap} {b : Nat} {s t : ByteArray} {v : V} (hF : F ≤ σ.length) (hb : b < σ.length) (h : (s = ⟨#[]⟩ ∧ v = .nils) ∨ ∃ r, v = .sl r 0 s.size false ∧ F ≤ r ∧ r ≠ b ∧ s.size ≠ 0 ∧ σ[r]? = some (some ⟨u8c s, 1, false, hbU + 1⟩)) (hs : s.size + t.size ≤ 1099511627776) :
    ∃ v' σ', vappendT (hbU + 1) 1 1 σ v t.size (u8c t) = some (v', σ') ∧ v'.flat = true ∧ σ.length ≤ σ'.length ∧ (∀ j, j < F → σ'[j]? = σ[j]?) ∧ σ'[b]? = σ[b]? ∧
      ((s ++ t = ⟨#[]⟩ ∧ v' = .nils) ∨ ∃ r, v' = .sl r 0 (s ++ t).size false ∧ F ≤ r ∧ r ≠ b ∧ (s ++ t).size ≠ 0 ∧ σ'[r]? = some (some ⟨u8c (s ++ t), 1, false, hbU + 1⟩)) := by
  have e46 : (2 : Nat) ^ 46 = 70368744177664 := by decide
  have hsz : (s ++ t).size = s.size + t.size := ByteArray.size_append
  rcases h with ⟨rfl, rfl⟩ | ⟨r, rfl, hr, hrb, hs0, hrow⟩
  · have he : (⟨#[]⟩ : ByteArray) ++ t = t := ByteArray.empty_append
    rw [he]
    by_cases h0 : t.size = 0
    · refine ⟨.nils, σ, by simp [vappendT, h0], rfl, Nat.le_refl _, fun _ _ => rfl, rfl, .inl ⟨?_, rfl⟩⟩
      obtain ⟨d⟩ := t
      have : d = #[] := Array.eq_empty_of_size_eq_zero h0
      rw [this]
    · refine ⟨.sl σ.length 0 t.size false, hnewT σ (hbU + 1) 1 (u8c t), ?_, rfl, by simp [hnewT], fun j hj => by rw [hnewT, List.getElem?_append_left (by omega)], by rw [hnewT, List.getElem?_append_left hb], .inr ⟨σ.length, rfl, hF, by omega, h0, by simp [hnewT]⟩⟩
      have hz : (⟨#[]⟩ : ByteArray).size = 0 := rfl
      simp only [vappendT, if_neg h0]
      rw [if_pos ⟨by omega, by omega⟩]
  · have hrl := get_lt hrow
    refine ⟨.sl σ.length 0 (s ++ t).size false, hnewT (σ.set r none) (hbU + 1) 1 (u8c (s ++ t)), ?_, rfl, by simp [hnewT], fun j hj => ?_, ?_, .inr ⟨σ.length, rfl, hF, by omega, by omega, by simp [hnewT]⟩⟩
    · simp only [vappendT, hrow]
      have h1 : True ∧ 0 + s.size * 1 ≤ (u8c s).length ∧ (s.size + t.size) * 1 ≤ 2 ^ 46 ∧ s.size + t.size ≤ 2 ^ 46 := ⟨trivial, by rw [u8c_len]; omega, by omega, by omega⟩
      rw [if_pos h1]
      have h2 : (u8c s).take (s.size * 1) = u8c s := List.take_of_length_le (by rw [u8c_len]; omega)
      simp only [Bool.false_eq_true, if_false, true_and, and_self, if_true, h2, hsz, u8c_app]
    · rw [hnewT, List.getElem?_append_left (by simp; omega), List.getElem?_set, if_neg (by omega)]
    · rw [hnewT, List.getElem?_append_left (by simpa using hb), List.getElem?_set, if_neg hrb]
theorem put_bld {F : Nat} {σ : Heap} {b : Nat} {s : ByteArray} {v v' : V} (hF : F ≤ σ.length) (hrow : σ[b]? = some (some ⟨[.ptr b 0, v], 2, false, hbT + 1⟩))
    (h : (s = ⟨#[]⟩ ∧ v' = .nils) ∨ ∃ r, v' = .sl r 0 s.size false ∧ F ≤ r ∧ r ≠ b ∧ s.size ≠ 0 ∧ σ[r]? = some (some ⟨u8c s, 1, false, hbU + 1⟩)) :
    ∃ σ', wrc σ b (0 + 1) [v'] = some σ' ∧ Bld F σ' b s ∧ KeepF F b σ σ' := by
  have hlt := get_lt hrow
  refine ⟨σ.set b (some ⟨[.ptr b 0, v'], 2, false, hbT + 1⟩), by simp [wrc, hrow, setCells], ⟨.ptr b 0, v', by simp [hlt], .inr rfl, ?_⟩, by simp, fun j _ hj => by rw [List.getElem?_set, if_neg (Ne.symm hj)]⟩
  rcases h with h | ⟨r, g1, g2, g3, g4, g5⟩
  · exact .inl h
  · exact .inr ⟨r, g1, g2, g3, g4, by rw [List.getElem?_set, if_neg (Ne.symm g3)]; exact g5⟩
theorem writeString_runs {F : Nat} {σ : Heap} {b : Nat} {s : ByteArray} (hF : F ≤ σ.length) (h : Bld F σ b s) (t : ByteArray) (hs : s.size + t.size ≤ 1099511627776) :
    ∃ σ', Runs G n_pstrings_Builder_WriteString [.ptr b 0, .str t] σ (.tuple [.int .i64 (t.size : Int), .nili]) σ' ∧ Bld F σ' b (s ++ t) ∧ KeepF F b σ σ' := by
  obtain ⟨σ1, v, c1, l1, o1, r1, h1⟩ := copyCheck_bld h
  obtain ⟨v', σ2, a1, a2, a3, a4, a5, a6⟩ := app_bld (t := t) (by rw [l1]; exact hF) (get_lt r1) h1 hs
  obtain ⟨σ3, w1, w2, w3⟩ := put_bld (F := F) (σ := σ2) (b := b) (v := v) (v' := v') (by omega) (by rw [a5]; exact r1) a6
  refine ⟨σ3, Runs.of (W.to (fun k _ => pstrings_Builder_WriteString.eq k _ _ _) ?_), w2, ⟨by have := w3.1; omega, fun j hj hjb => by rw [w3.2 j hj hjb, a4 j hj, o1 j hjb]⟩⟩
  refine W.run c1 ?_
  have e1 : rdc σ1 b (0 + 1) 1 = some [v] := by simp [rdc, r1]
  have a1' : vappendT 6 1 1 σ1 v t.size (t.data.toList.map fun c => V.int .u8 c.toNat) = some (v', σ2) := a1
  have ho : ∀ {β : Type} (K : Option β), one v' K = K := fun K => one_of a2 K
  try simp only [q_bind_some, castInt_int, q_castBool, q_castStr, q_castPtr, q_castFn, q_castAgg, q_castTuple, q_uncons, q_isNil, q_sl, q_nils, q_emp, q_ptr, q_nilp, q_fn, q_cond_true, q_cond_false, Bool.not_true, Bool.not_false, decide_true, decide_false, List.cons_append, List.nil_append, e1, a1', ho, w1]
  exact W.ret ⟨rfl, rfl⟩
theorem writeByte_runs {F : Nat} {σ : Heap} {b : Nat} {s : ByteArray} (hF : F ≤ σ.length) (h : Bld F σ b s) (c : UInt8) (hs : s.size + 1 ≤ 1099511627776) :
    ∃ σ', Runs G n_pstrings_Builder_WriteByte [.ptr b 0, .int .u8 (c.toNat : Int)] σ .nili σ' ∧ Bld F σ' b (s ++ ⟨#[c]⟩) ∧ KeepF F b σ σ' := by
  obtain ⟨σ1, v, c1, l1, o1, r1, h1⟩ := copyCheck_bld h
  obtain ⟨v', σ2, a1, a2, a3, a4, a5, a6⟩ := app_bld (t := ⟨#[c]⟩) (by rw [l1]; exact hF) (get_lt r1) h1 hs
  obtain ⟨σ3, w1, w2, w3⟩ := put_bld (F := F) (σ := σ2) (b := b) (v := v) (v' := v') (by omega) (by rw [a5]; exact r1) a6
  refine ⟨σ3, Runs.of (W.to (fun k _ => pstrings_Builder_WriteByte.eq k _ _ _) ?_), w2, ⟨by have := w3.1; omega, fun j hj hjb => by rw [w3.2 j hj hjb, a4 j hj, o1 j hjb]⟩⟩
  refine W.run c1 ?_
  have e1 : rdc σ1 b (0 + 1) 1 = some [v] := by simp [rdc, r1]
  have a1' : vappendT 6 1 1 σ1 v 1 [.int .u8 (c.toNat : Int)] = some (v', σ2) := a1
  have ho : ∀ {β : Type} (K : Option β), one v' K = K := fun K => one_of a2 K
  try simp only [q_bind_some, castInt_int, q_castBool, q_castStr, q_castPtr, q_castFn, q_castAgg, q_castTuple, q_uncons, q_isNil, q_sl, q_nils, q_emp, q_ptr, q_nilp, q_fn, q_cond_true, q_cond_false, Bool.not_true, Bool.not_false, decide_true, decide_false, List.cons_append, List.nil_append, e1, a1', ho, w1]
  exact W.ret ⟨rfl, rfl⟩
theorem builderText_runs {F : Nat} {σ : Heap} {b : Nat} {s : ByteArray} (h : Bld F σ b s) (hs : s.size ≤ 1099511627776) :
    ∃ σ', Runs G n_pstrings_Builder_String [.ptr b 0] σ (.str s) σ' ∧ KeepF F b σ σ' := by
  obtain ⟨x, v, h1, h2, h3⟩ := h
  rcases h3 with ⟨rfl, rfl⟩ | ⟨r, rfl, hr, hrb, hs0, hrow⟩
  · exact ⟨σ, hook_runs (h := hkText hbT hbU) rfl (by simp [hkText, h1]), KeepF.refl _ _ _⟩
  · refine ⟨σ.set r none, hook_runs (h := hkText hbT hbU) rfl ?_, by simp, fun j hj _ => by rw [List.getElem?_set, if_neg (by omega)]⟩
    have e1 : (u8c s).take s.size = u8c s := List.take_of_length_le (by rw [u8c_len]; omega)
    have e2 : u8s (u8c s) = some s.data.toList := u8s_map _
    have e3 : (⟨s.data.toList.toArray⟩ : ByteArray) = s := by simp
    have e4 : s.size ≤ (u8c s).length := by rw [u8c_len]; omega
    have e5 : s.size ≤ 4611686018427387904 := by omega
    simp [hkText, h1, hrow, e1, e2, e3, hs0, e4, e5]
end Go.A
