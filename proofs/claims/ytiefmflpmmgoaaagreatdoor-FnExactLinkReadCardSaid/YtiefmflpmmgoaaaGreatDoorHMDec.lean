/- Decimal numerals: those that have one spelling. -/
import Derived.Lib.AtoiTie
import Derived.Lib.AtoiAllCases
import Derived.Lib.ItoaNum
set_option linter.unusedVariables false
set_option linter.unusedSimpArgs false
namespace Go.HM
open Go.Lib
theorem decFrom_app (acc : Nat) (l r : List UInt8) : decFrom acc (l ++ r) = (decFrom acc l).bind fun a => decFrom a r := by
  induction l generalizing acc with
  | nil => rfl
  | cons b l ih =>
    simp only [List.cons_append, decFrom]
    cases digitVal b with
    | none => rfl
    | some d => exact ih _
theorem digit_of {b : UInt8} {d : Nat} (h : digitVal b = some d) : d < 10 ∧ b = UInt8.ofNat (48 + d) := by
  unfold digitVal at h
  split at h
  · rename_i hh
    injection h with h
    subst h
    refine ⟨by omega, ?_⟩
    apply UInt8.toNat_inj.1
    rw [UInt8.toNat_ofNat']
    omega
  · cases h
theorem digit_ofNat {d : Nat} (h : d < 10) : digitVal (UInt8.ofNat (48 + d)) = some d := by
  have h1 : (UInt8.ofNat (48 + d)).toNat = 48 + d := by rw [UInt8.toNat_ofNat']; omega
  unfold digitVal
  rw [h1, if_pos (by omega)]
  congr 1
  omega
theorem dec_self (u : Nat) : decFrom 0 (decDigits u) = some u := by
  induction u using Nat.strongRecOn with
  | _ u ih =>
    rw [decDigits]
    split
    · rename_i h
      simp only [decFrom, digit_ofNat h]
      congr 1
      omega
    · rename_i h
      rw [decFrom_app, ih (u / 10) (by omega)]
      simp only [Option.bind_some, decFrom, digit_ofNat (Nat.mod_lt u (by decide : 0 < 10))]
      congr 1
      omega
theorem dec_ne (u : Nat) : decDigits u ≠ [] := by
  rw [decDigits]
  split <;> simp
theorem dec_head (u : Nat) (h0 : u ≠ 0) : (decDigits u).head? ≠ some 48 := by
  induction u using Nat.strongRecOn with
  | _ u ih =>
    rw [decDigits]
    split
    · rename_i h
      simp only [List.head?_cons]
      intro hc
      injection hc with hc
      have : (UInt8.ofNat (48 + u)).toNat = 48 := by rw [hc]; rfl
      rw [UInt8.toNat_ofNat'] at this
      omega
    · rename_i h
      have h1 := ih (u / 10) (by omega) (by omega)
      rw [List.head?_append]
      cases hd : (decDigits (u / 10)).head? with
      | none => exact absurd (List.head?_eq_none_iff.1 hd) (dec_ne _)
      | some b => rw [hd] at h1; simpa using h1
theorem nDigits_le : ∀ (k u : Nat), u < 10 ^ (k + 1) → nDigits u ≤ k + 1
  | 0, u, h => by rw [nDigits_small (by simpa using h)]; exact Nat.le_refl _
  | k + 1, u, h => by
    by_cases h9 : u < 10
    · rw [nDigits_small h9]; omega
    · rw [nDigits_big h9]
      have := nDigits_le k (u / 10) (by rw [Nat.pow_succ] at h; omega)
      omega
/-- A row of digits that does not begin with a nought is its number's numeral. -/
theorem dec_back : ∀ (n : Nat) (ds : List UInt8) (m : Nat), ds.length = n → decFrom 0 ds = some m → ds ≠ [] → (ds.head? ≠ some 48 ∨ ds.length = 1) → decDigits m = ds
  | 0, ds, m, hn, h, hne, _ => absurd (List.eq_nil_of_length_eq_zero hn) hne
  | n + 1, ds, m, hn, h, hne, hh => by
    obtain ⟨init, b, rfl⟩ : ∃ init b, ds = init ++ [b] := ⟨ds.dropLast, ds.getLast hne, (List.dropLast_concat_getLast hne).symm⟩
    rw [decFrom_app] at h
    obtain ⟨m', h1, h2⟩ := Option.bind_eq_some_iff.1 h
    simp only [decFrom] at h2
    cases hd : digitVal b with
    | none => rw [hd] at h2; cases h2
    | some d =>
      rw [hd] at h2
      injection h2 with h2
      obtain ⟨d1, rfl⟩ := digit_of hd
      cases init with
      | nil =>
        injection h1 with h1
        subst h1
        obtain rfl : d = m := by omega
        rw [decDigits, dif_pos d1]
        rfl
      | cons c r =>
        have hc : (c :: r).head? ≠ some 48 := by
          rcases hh with hh | hh
          · simpa using hh
          · simp at hh
        have hback := dec_back n (c :: r) m' (by simpa using hn) h1 (by simp) (.inl hc)
        have hm : m' ≠ 0 := fun h0 => by
          subst h0
          rw [decDigits, dif_pos (by decide)] at hback
          rw [← hback] at hc
          exact hc rfl
        rw [decDigits, dif_neg (by omega), show m / 10 = m' by omega, hback, show m % 10 = d by omega]
/-- What the reference reads behind the sign. -/
def numD (neg : Bool) (ds : List UInt8) : Int × Bool :=
  if ds = [] then (0, false) else if 17 < ds.length then (0, false) else if ds.head? = some 48 ∧ (1 < ds.length ∨ neg = true) then (0, false) else
  match decFrom 0 ds with
  | none => (0, false)
  | some m => (bif neg then -(m : Int) else (m : Int), true)
/-- What the reference reads. -/
def num (l : List UInt8) : Int × Bool := numD (l.head? == some 45) (bif l.head? == some 45 then l.tail else l)
theorem numD_cases (neg : Bool) (ds : List UInt8) : (numD neg ds = (0, false)) ∨ ∃ n, numD neg ds = (n, true) := by
  unfold numD
  split
  · exact .inl rfl
  split
  · exact .inl rfl
  split
  · exact .inl rfl
  split
  · exact .inl rfl
  · exact .inr ⟨_, rfl⟩
theorem numD_some {neg : Bool} {ds : List UInt8} {n : Int} (h : numD neg ds = (n, true)) : ∃ m : Nat, n = (bif neg then -(m : Int) else (m : Int)) ∧ decDigits m = ds ∧ m < 100000000000000000 ∧ ds.length ≤ 17 ∧ (neg = true → 1 ≤ m) := by
  unfold numD at h
  split at h
  · cases h
  rename_i h0
  split at h
  · cases h
  rename_i h1
  split at h
  · cases h
  rename_i h2
  split at h
  · cases h
  rename_i m hm
  injection h with h h'
  have hlt : m < 100000000000000000 := decFrom_take_lt (l := ds) (k := ds.length) (acc := m) (by rw [List.take_length]; exact hm) (by omega)
  have hb := dec_back _ ds m rfl hm h0 (by
    by_cases hc : ds.head? = some 48
    · right
      have : ¬ 1 < ds.length := fun hx => h2 ⟨hc, .inl hx⟩
      have : ds.length ≠ 0 := fun hx => h0 (List.eq_nil_of_length_eq_zero hx)
      omega
    · exact .inl hc)
  refine ⟨m, h.symm, hb, hlt, by omega, fun hn => ?_⟩
  rcases Nat.eq_zero_or_pos m with rfl | hp
  · exfalso
    rw [decDigits, dif_pos (by decide)] at hb
    exact h2 ⟨by rw [← hb]; rfl, .inr hn⟩
  · exact hp
theorem num_cases (l : List UInt8) : (num l = (0, false)) ∨ ∃ n, num l = (n, true) := numD_cases _ _
theorem num_some {l : List UInt8} {n : Int} (h : num l = (n, true)) : itoa n = l ∧ -99999999999999999 ≤ n ∧ n ≤ 99999999999999999 ∧ l.length ≤ 18 := by
  unfold num at h
  obtain ⟨m, e1, e2, e3, e4, e5⟩ := numD_some h
  by_cases hn : (l.head? == some 45) = true
  · rw [hn] at e1 e2 e4 e5
    simp only [cond_true] at e1 e2 e4
    have hl : l = 45 :: l.tail := by
      cases l with
      | nil => simp at hn
      | cons c r => simp at hn; rw [hn]; rfl
    have hm1 := e5 rfl
    subst e1
    refine ⟨?_, by omega, by omega, by rw [hl]; simp only [List.length_cons]; omega⟩
    unfold itoa
    rw [if_pos (by omega), show (-(m : Int)).natAbs = m by omega, e2, ← hl]
  · have hn' : (l.head? == some 45) = false := by simpa using hn
    rw [hn'] at e1 e2 e4
    simp only [cond_false] at e1 e2 e4
    subst e1
    refine ⟨?_, by omega, by omega, by omega⟩
    unfold itoa
    rw [if_neg (by omega), show ((m : Int)).toNat = m by omega, e2]
theorem num_itoa {n : Int} (h1 : -99999999999999999 ≤ n) (h2 : n ≤ 99999999999999999) : num (itoa n) = (n, true) := by
  have hlen : ∀ u : Nat, u < 100000000000000000 → (decDigits u).length ≤ 17 := fun u hu => by
    rw [decDigits_length]
    exact nDigits_le 16 u (by simpa using hu)
  unfold itoa
  split
  · rename_i hn
    have hl := hlen n.natAbs (by omega)
    have hh := dec_head n.natAbs (by omega)
    unfold num
    simp only [List.head?_cons, List.tail_cons, beq_self_eq_true, cond_true]
    unfold numD
    rw [if_neg (dec_ne _), if_neg (by omega), if_neg (fun hc => hh hc.1), dec_self]
    simp only [cond_true]
    congr 1
    omega
  · rename_i hn
    have hl := hlen n.toNat (by omega)
    have hnm : ((decDigits n.toNat).head? == some 45) = false := by
      cases hd : (decDigits n.toNat) with
      | nil => rfl
      | cons b r =>
        obtain ⟨d, hdig⟩ := digit_of_decFrom _ 0 _ (dec_self n.toNat) 0 b (by rw [hd]; rfl)
        obtain ⟨d1, rfl⟩ := digit_of hdig
        simp only [List.head?_cons]
        rw [beq_eq_false_iff_ne]
        intro hc
        injection hc with hc
        have : (UInt8.ofNat (48 + d)).toNat = 45 := by rw [hc]; rfl
        rw [UInt8.toNat_ofNat'] at this
        omega
    unfold num
    simp only [hnm, cond_false]
    unfold numD
    rw [if_neg (dec_ne _), if_neg (by omega), if_neg (fun hc => ?_), dec_self]
    · simp only [cond_false]
      congr 1
      omega
    · rcases hc with ⟨hc, hx | hx⟩
      · by_cases h0 : n.toNat = 0
        · rw [h0, decDigits, dif_pos (by decide)] at hx
          simp at hx
        · exact dec_head _ h0 hc
      · cases hx
theorem atoi_itoa {n : Int} : atoi (itoa n) = some n := by
  unfold itoa
  split
  · rename_i hn
    have : decNat (decDigits n.natAbs) = some n.natAbs := by
      unfold decNat
      rw [if_neg (by simpa using dec_ne _), dec_self]
    have h45 : ((45 : UInt8) == 45) = true := rfl
    simp only [atoi, h45, if_true, this, Option.map_some]
    congr 1
    omega
  · rename_i hn
    have hd2 : decNat (decDigits n.toNat) = some n.toNat := by
      unfold decNat
      rw [if_neg (by simpa using dec_ne _), dec_self]
    have hself := dec_self n.toNat
    cases hd : (decDigits n.toNat) with
    | nil => exact absurd hd (dec_ne _)
    | cons b r =>
      rw [hd] at hd2 hself
      obtain ⟨d, hdig⟩ := digit_of_decFrom _ 0 _ hself 0 b rfl
      obtain ⟨d1, rfl⟩ := digit_of hdig
      have hne : ∀ k : Nat, k < 48 → ((UInt8.ofNat (48 + d)) == UInt8.ofNat k) = false := fun k hk => by
        rw [beq_eq_false_iff_ne]
        intro hc
        have := congrArg UInt8.toNat hc
        rw [UInt8.toNat_ofNat', UInt8.toNat_ofNat'] at this
        omega
      have e45 : (UInt8.ofNat (48 + d) == 45) = false := hne 45 (by decide)
      have e43 : (UInt8.ofNat (48 + d) == 43) = false := hne 43 (by decide)
      simp only [atoi, e45, e43, Bool.false_eq_true, if_false, hd2, Option.map_some]
      congr 1
      omega
/-- What the program reads. -/
def numI (l : List UInt8) : Int × Bool := match atoiAll l with
  | .ok n => if itoa n = l ∧ -99999999999999999 ≤ n ∧ n ≤ 99999999999999999 then (n, true) else (0, false)
  | _ => (0, false)
theorem num_eq (l : List UInt8) : num l = numI l := by
  rcases num_cases l with h | ⟨n, h⟩
  · rw [h]
    unfold numI
    split
    · rename_i n hn
      split
      · rename_i hh
        rw [← hh.1, num_itoa hh.2.1 hh.2.2] at h
        cases h
      · rfl
    · rfl
  · obtain ⟨h1, h2, h3, h4⟩ := num_some h
    rw [h]
    have ha : atoiAll l = .ok n := by
      rw [atoiAll_short l h4, ← h1, atoi_itoa]
      rfl
    unfold numI
    rw [ha]
    simp only
    rw [if_pos ⟨h1, h2, h3⟩]
end Go.HM
