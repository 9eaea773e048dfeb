/- Numbers written in ten digits by the reference. -/
import Derived.Test.YtbkbdpdfcannfaaDoorBa
import Derived.Test.YtbkbdpdfcannfaaDoorLexNum
import Derived.Lib.ItoaLen
set_option linter.unusedVariables false
set_option linter.unusedSimpArgs false
namespace Go.L
open Go.HM Go.Proofs
theorem dec_next {m : Nat} (h : 9 < m) : Lib.decDigits m = Lib.decDigits (m / 10) ++ [UInt8.ofNat (48 + m % 10)] := by
  rw [Lib.decDigits, dif_neg (by omega)]
theorem push_ba (c : UInt8) : ByteArray.empty.push c = ba [c] := rfl
theorem l23Dec_loop {σ : Heap} (u : Nat) (hu : u ≤ 9223372036854775807) :
    W (ι := Unit) (fun w σ' => w = .str (ba (Lib.decDigits u)) ∧ Lh σ σ') (fun _ => False) (fun k _ => (spec_l23Dec.L0 k k [.v (.int .i64 (u : Int)), .v (.str (⟨#[]⟩ : ByteArray))] σ).bind (spec_l23Dec.A0 k)) := by
  have h0 : (⟨#[]⟩ : ByteArray) = ba [] := rfl
  have e62 : (2 : Nat) ^ 62 = 4611686018427387904 := by decide
  have hlen : (Lib.decDigits u).length ≤ 21 := by
    have := Lib.itoa_length_le (u : Int) (by omega) (by omega)
    unfold Lib.itoa at this
    rw [if_neg (by omega)] at this
    simpa using this
  rw [h0]
  refine W.loop (S := Nat × List UInt8) (fun s => s.1 ≤ u ∧ Lib.decDigits u = Lib.decDigits s.1 ++ s.2) (fun s => [.v (.int .i64 (s.1 : Int)), .v (.str (ba s.2))]) (fun _ => σ) (fun s => s.1) (fun ⟨m, L⟩ ⟨hm, hL⟩ => ?_)
    (u, []) ⟨Nat.le_refl _, by simp⟩
  simp only at hm hL ⊢
  have hl : L.length ≤ 21 := by
    have := congrArg List.length hL
    rw [List.length_append] at this
    omega
  refine W.to (fun k _ => by rw [spec_l23Dec.L0_step]) ?_
  refine B.ite (fun hlt => ?_) fun hlt => ?_
  · have hmm : 9 < m := by omega
    have h1 : Int.tmod (m : Int) 10 = ((m % 10 : Nat) : Int) := by rw [Int.tmod_eq_emod_of_nonneg (by omega)]; omega
    have h2 : Int.tdiv (m : Int) 10 = ((m / 10 : Nat) : Int) := by rw [Int.tdiv_eq_ediv_of_nonneg (by omega)]; omega
    have h3 : IntKind.wrap .u8 (IntKind.wrap .i64 (48 + ((m % 10 : Nat) : Int))) = ((48 + m % 10 : Nat) : Int) := by
      rw [wrap_id (by omega) (by omega)]
      have h4 : m % 10 < 10 := Nat.mod_lt _ (by omega)
      generalize m % 10 = d at h4
      have : d = 0 ∨ d = 1 ∨ d = 2 ∨ d = 3 ∨ d = 4 ∨ d = 5 ∨ d = 6 ∨ d = 7 ∨ d = 8 ∨ d = 9 := by omega
      rcases this with rfl | rfl | rfl | rfl | rfl | rfl | rfl | rfl | rfl | rfl <;> decide
    have h5 : IntKind.wrap .i64 ((m / 10 : Nat) : Int) = ((m / 10 : Nat) : Int) := wrap_id (by omega) (by omega)
    have z : (ba [UInt8.ofNat (48 + m % 10)]).size + (ba L).size ≤ 2 ^ 62 := by rw [ba_size, ba_size, e62]; simp only [List.length_cons, List.length_nil]; omega
    have d1 : ∀ L : List UInt8, (ba L).data.toList = L := fun L => rfl
    try simp only [q_bind_some, castInt_int, q_castBool, q_castStr, q_castPtr, q_castFn, q_castAgg, q_castTuple, q_uncons, q_isNil, q_sl, q_nils, q_emp, q_ptr, q_nilp, q_fn, q_cond_true, q_cond_false, Bool.not_true, Bool.not_false, decide_true, decide_false, List.cons_append, List.nil_append, h1, h2, h3, h5, bytesOf, Int.toNat_natCast, push_ba, z, if_true, ba_app, d1]
    exact W.again (m / 10, UInt8.ofNat (48 + m % 10) :: L) ⟨by show m / 10 ≤ u; omega, by rw [hL, dec_next hmm]; simp⟩ (by simp only; omega) rfl rfl
  · have hm9 : m < 10 := by omega
    have h3 : IntKind.wrap .u8 (IntKind.wrap .i64 (48 + (m : Int))) = ((48 + m : Nat) : Int) := by
      rw [wrap_id (by omega) (by omega)]
      have : m = 0 ∨ m = 1 ∨ m = 2 ∨ m = 3 ∨ m = 4 ∨ m = 5 ∨ m = 6 ∨ m = 7 ∨ m = 8 ∨ m = 9 := by omega
      rcases this with rfl | rfl | rfl | rfl | rfl | rfl | rfl | rfl | rfl | rfl <;> decide
    have z : (ba [UInt8.ofNat (48 + m)]).size + (ba L).size ≤ 2 ^ 62 := by rw [ba_size, ba_size, e62]; simp only [List.length_cons, List.length_nil]; omega
    have d1 : ∀ L : List UInt8, (ba L).data.toList = L := fun L => rfl
    try simp only [q_bind_some, castInt_int, q_castBool, q_castStr, q_castPtr, q_castFn, q_castAgg, q_castTuple, q_uncons, q_isNil, q_sl, q_nils, q_emp, q_ptr, q_nilp, q_fn, q_cond_true, q_cond_false, Bool.not_true, Bool.not_false, decide_true, decide_false, List.cons_append, List.nil_append, spec_l23Dec.A0_x0, h3, bytesOf, Int.toNat_natCast, push_ba, z, if_true, ba_app, d1]
    exact W.ret ⟨by rw [hL, Lib.decDigits_one hm9]; rfl, Lh.refl _⟩
theorem l23Dec_gives (σ : Heap) {n : Int} (h0 : -9223372036854775808 ≤ n) (h1 : n ≤ 9223372036854775807) : Gives G n_spec_l23Dec [.int .i64 n] σ (.str (ba (Lib.itoa n))) := by
  have pos : ∀ u : Nat, u ≤ 9223372036854775807 → Gives G n_spec_l23Dec [.int .i64 (u : Int)] σ (.str (ba (Lib.decDigits u))) := fun u hu => by
    refine Gives.of (W.to (fun k _ => spec_l23Dec.eq k _ _) ?_)
    refine W.ite (fun hc => by omega) fun _ => ?_
    refine W.ite (fun hc => by omega) fun _ => ?_
    exact l23Dec_loop u hu
  by_cases hn : n < 0
  rotate_left
  · obtain ⟨u, rfl⟩ : ∃ u : Nat, n = (u : Int) := ⟨n.toNat, by omega⟩
    rw [Lib.itoa_nonneg]
    exact pos u (by omega)
  have e62 : (2 : Nat) ^ 62 = 4611686018427387904 := by decide
  refine Gives.of (W.to (fun k _ => spec_l23Dec.eq k _ _) ?_)
  refine W.ite (fun hc => ?_) fun hc => ?_
  · obtain rfl : n = -9223372036854775808 := by omega
    refine W.ret ⟨?_, Lh.refl _⟩
    have : Lib.itoa (-9223372036854775808) = [45, 57, 50, 50, 51, 51, 55, 50, 48, 51, 54, 56, 53, 52, 55, 55, 53, 56, 48, 56] := by
      unfold Lib.itoa
      rw [if_pos (by omega)]
      show 45 :: Lib.decDigits 9223372036854775808 = _
      rw [dec_next (by decide), dec_next (by decide), dec_next (by decide), dec_next (by decide), dec_next (by decide), dec_next (by decide), dec_next (by decide), dec_next (by decide), dec_next (by decide), dec_next (by decide), dec_next (by decide), dec_next (by decide), dec_next (by decide), dec_next (by decide), dec_next (by decide), dec_next (by decide), dec_next (by decide), dec_next (by decide), Lib.decDigits_one (by decide)]
      decide
    rw [this]
    rfl
  obtain ⟨u, rfl⟩ : ∃ u : Nat, n = -(u : Int) := ⟨(-n).toNat, by omega⟩
  refine W.ite (fun _ => ?_) fun hc => by omega
  have hw : IntKind.wrap .i64 (0 - -(u : Int)) = (u : Int) := by rw [wrap_id (by omega) (by omega)]; omega
  try simp only [q_bind_some, castInt_int, q_castBool, q_castStr, q_castPtr, q_castFn, q_castAgg, q_castTuple, q_uncons, q_isNil, q_sl, q_nils, q_emp, q_ptr, q_nilp, q_fn, q_cond_true, q_cond_false, Bool.not_true, Bool.not_false, decide_true, decide_false, List.cons_append, List.nil_append, hw]
  refine W.give (pos u (by omega)) fun σ1 l1 => ?_
  have hlen : (Lib.decDigits u).length ≤ 21 := by
    have := Lib.itoa_length_le (u : Int) (by omega) (by omega)
    rw [Lib.itoa_nonneg] at this
    exact this
  have k1 : (⟨#[45]⟩ : ByteArray) = ba [45] := rfl
  have z : (ba [45]).size + (ba (Lib.decDigits u)).size ≤ 2 ^ 62 := by rw [ba_size, ba_size, e62]; simp only [List.length_cons, List.length_nil]; omega
  have d1 : ∀ L : List UInt8, (ba L).data.toList = L := fun L => rfl
  try simp only [q_bind_some, castInt_int, q_castBool, q_castStr, q_castPtr, q_castFn, q_castAgg, q_castTuple, q_uncons, q_isNil, q_sl, q_nils, q_emp, q_ptr, q_nilp, q_fn, q_cond_true, q_cond_false, Bool.not_true, Bool.not_false, decide_true, decide_false, List.cons_append, List.nil_append, k1, z, if_true, ba_app, d1]
  exact W.ret ⟨by rw [Lib.itoa_neg u (by omega)], l1⟩
end Go.L
