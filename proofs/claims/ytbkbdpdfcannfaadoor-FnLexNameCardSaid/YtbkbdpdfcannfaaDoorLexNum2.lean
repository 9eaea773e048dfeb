/- LexNum: the reference's. -/
import Derived.Test.YtbkbdpdfcannfaaDoorLexNum
set_option linter.unusedVariables false
set_option linter.unusedSimpArgs false
namespace Go.L
open Go.HM Go.Proofs
def digs (neg : Bool) (l : List UInt8) : Int × Bool := match Lib.decFrom 0 l with
  | none => (0, false)
  | some m => (bif neg then -(m : Int) else (m : Int), true)
theorem numD_digs {neg : Bool} {ds : List UInt8} (h0 : ds ≠ []) (h1 : ¬ 17 < ds.length) (h2 : ¬ (ds.head? = some 48 ∧ (1 < ds.length ∨ neg = true))) : numD neg ds = digs neg ds := by
  unfold numD
  rw [if_neg h0, if_neg h1, if_neg h2]
  rfl
theorem ba_get {s : ByteArray} {i : Nat} (h : i < s.size) : s.data.toList[i]? = some s[i] := by
  have h' : i < s.data.toList.length := by simpa using h
  rw [List.getElem?_eq_getElem h']
  rfl
theorem ba_head (s : ByteArray) (h : 0 < s.size) : s.data.toList.head? = some s[0] := by
  rw [List.head?_eq_getElem?]
  exact ba_get h
theorem l23_loop {σ : Heap} {s : ByteArray} (hs : s.size ≤ 17) (neg : Bool) : W (ι := Unit) (fun w σ' => w = .tuple [.int .i64 (digs neg s.data.toList).1, .bool (digs neg s.data.toList).2] ∧ Lh σ σ') (fun _ => False)
    (fun k _ => (spec_l23Num.L0 k k [.v (.str s), .v (.bool neg), .v (.int .i64 0), .v (.int .i64 0)] σ).bind (spec_l23Num.A0 k)) := by
  have hlen : s.data.toList.length = s.size := by simp
  refine W.loop (S := Nat × Nat) (fun p => p.1 ≤ s.size ∧ Lib.decFrom 0 (s.data.toList.take p.1) = some p.2) (fun p => [.v (.str s), .v (.bool neg), .v (.int .i64 (p.2 : Int)), .v (.int .i64 (p.1 : Int))]) (fun _ => σ) (fun p => s.size - p.1)
    (fun ⟨i, acc⟩ ⟨hi, hd⟩ => ?_) (0, 0) ⟨Nat.zero_le _, rfl⟩
  simp only at hi hd ⊢
  refine W.to (fun k _ => by rw [spec_l23Num.L0_step]) ?_
  by_cases hlt : i < s.size
  · have hlt' : (i : Int) < (s.size : Int) := by omega
    try simp only [q_bind_some, castInt_int, q_castBool, q_castStr, q_castPtr, q_castFn, q_castAgg, q_castTuple, q_uncons, q_isNil, q_sl, q_nils, q_emp, q_ptr, q_nilp, q_fn, q_cond_true, q_cond_false, Bool.not_true, Bool.not_false, decide_true, decide_false, List.cons_append, List.nil_append, hlt']
    have hb := ba_get hlt
    refine B.byte hlt ?_
    have bad : Lib.digitVal s[i] = none → digs neg s.data.toList = (0, false) := fun hn => by
      unfold digs
      cases hx : Lib.decFrom 0 s.data.toList with
      | none => rfl
      | some n =>
        obtain ⟨d, hd⟩ := Lib.digit_of_decFrom _ 0 n hx i _ hb
        rw [hn] at hd
        cases hd
    by_cases h48 : (s[i].toNat : Int) < 48
    · try simp only [q_bind_some, castInt_int, q_castBool, q_castStr, q_castPtr, q_castFn, q_castAgg, q_castTuple, q_uncons, q_isNil, q_sl, q_nils, q_emp, q_ptr, q_nilp, q_fn, q_cond_true, q_cond_false, Bool.not_true, Bool.not_false, decide_true, decide_false, List.cons_append, List.nil_append, h48, spec_l23Num.A0_ret]
      exact W.ret ⟨by rw [bad (by unfold Lib.digitVal; rw [if_neg (by omega)])], Lh.refl _⟩
    try simp only [q_bind_some, castInt_int, q_castBool, q_castStr, q_castPtr, q_castFn, q_castAgg, q_castTuple, q_uncons, q_isNil, q_sl, q_nils, q_emp, q_ptr, q_nilp, q_fn, q_cond_true, q_cond_false, Bool.not_true, Bool.not_false, decide_true, decide_false, List.cons_append, List.nil_append, h48]
    refine B.byte hlt ?_
    by_cases h57 : (57 : Int) < (s[i].toNat : Int)
    · try simp only [q_bind_some, castInt_int, q_castBool, q_castStr, q_castPtr, q_castFn, q_castAgg, q_castTuple, q_uncons, q_isNil, q_sl, q_nils, q_emp, q_ptr, q_nilp, q_fn, q_cond_true, q_cond_false, Bool.not_true, Bool.not_false, decide_true, decide_false, List.cons_append, List.nil_append, h57, spec_l23Num.A0_ret]
      exact W.ret ⟨by rw [bad (by unfold Lib.digitVal; rw [if_neg (by omega)])], Lh.refl _⟩
    try simp only [q_bind_some, castInt_int, q_castBool, q_castStr, q_castPtr, q_castFn, q_castAgg, q_castTuple, q_uncons, q_isNil, q_sl, q_nils, q_emp, q_ptr, q_nilp, q_fn, q_cond_true, q_cond_false, Bool.not_true, Bool.not_false, decide_true, decide_false, List.cons_append, List.nil_append, h57]
    refine B.byte hlt ?_
    have hdig : Lib.digitVal s[i] = some (s[i].toNat - 48) := by unfold Lib.digitVal; rw [if_pos (by omega)]
    have hnext := Lib.decFrom_take s.data.toList i 0 acc s[i] _ hd hb hdig
    have hacc : acc < 100000000000000000 := Lib.decFrom_take_lt hd (by omega)
    generalize s[i] = b at h48 h57 hdig hnext
    have w1 : IntKind.wrap .u8 ((b.toNat : Int) - 48) = ((b.toNat - 48 : Nat) : Int) := by
      have hall : ∀ x : Fin 10, IntKind.wrap .u8 (x.val : Int) = (x.val : Int) := by decide
      have : IntKind.wrap .u8 (((b.toNat - 48 : Nat)) : Int) = ((b.toNat - 48 : Nat) : Int) := hall ⟨b.toNat - 48, by omega⟩
      rw [show (b.toNat : Int) - 48 = ((b.toNat - 48 : Nat) : Int) by omega, this]
    have w2 : IntKind.wrap .i64 ((b.toNat - 48 : Nat) : Int) = ((b.toNat - 48 : Nat) : Int) := wrap_id (by omega) (by omega)
    have w3 : IntKind.wrap .i64 ((acc : Int) * 10) = ((acc * 10 : Nat) : Int) := by rw [wrap_id (by omega) (by omega)]; omega
    have w4 : IntKind.wrap .i64 (((acc * 10 : Nat) : Int) + ((b.toNat - 48 : Nat) : Int)) = ((acc * 10 + (b.toNat - 48) : Nat) : Int) := by rw [wrap_id (by omega) (by omega)]; omega
    have w5 : IntKind.wrap .i64 ((i : Int) + 1) = ((i + 1 : Nat) : Int) := wrap_id (by omega) (by omega)
    rw [w1, w2, w3, w4, w5]
    exact W.again (i + 1, acc * 10 + (b.toNat - 48)) ⟨by show i + 1 ≤ s.size; omega, hnext⟩ (by simp only; omega) rfl rfl
  · obtain rfl : i = s.size := by omega
    have hdd : Lib.decFrom 0 s.data.toList = some acc := by
      rw [← hd, ← hlen, List.take_length]
    have hacc : acc < 100000000000000000 := Lib.decFrom_take_lt hd hs
    have hg : digs neg s.data.toList = (bif neg then -(acc : Int) else (acc : Int), true) := by unfold digs; rw [hdd]
    have hnl : ¬ ((s.size : Nat) : Int) < (s.size : Int) := by omega
    try simp only [q_bind_some, castInt_int, q_castBool, q_castStr, q_castPtr, q_castFn, q_castAgg, q_castTuple, q_uncons, q_isNil, q_sl, q_nils, q_emp, q_ptr, q_nilp, q_fn, q_cond_true, q_cond_false, Bool.not_true, Bool.not_false, decide_true, decide_false, List.cons_append, List.nil_append, hnl, spec_l23Num.A0_x0]
    have w1 : IntKind.wrap .i64 (0 - (acc : Int)) = -(acc : Int) := by rw [wrap_id (by omega) (by omega)]; omega
    cases neg
    · try simp only [q_bind_some, castInt_int, q_castBool, q_castStr, q_castPtr, q_castFn, q_castAgg, q_castTuple, q_uncons, q_isNil, q_sl, q_nils, q_emp, q_ptr, q_nilp, q_fn, q_cond_true, q_cond_false, Bool.not_true, Bool.not_false, decide_true, decide_false, List.cons_append, List.nil_append]
      exact W.ret ⟨by rw [hg]; rfl, Lh.refl _⟩
    · try simp only [q_bind_some, castInt_int, q_castBool, q_castStr, q_castPtr, q_castFn, q_castAgg, q_castTuple, q_uncons, q_isNil, q_sl, q_nils, q_emp, q_ptr, q_nilp, q_fn, q_cond_true, q_cond_false, Bool.not_true, Bool.not_false, decide_true, decide_false, List.cons_append, List.nil_append, w1]
      exact W.ret ⟨by rw [hg]; rfl, Lh.refl _⟩
theorem ext_tail (s : ByteArray) : (s.extract 1 s.size).data.toList = s.data.toList.tail := by
  obtain ⟨⟨l⟩⟩ := s
  show (ByteArray.extract ⟨⟨l⟩⟩ 1 l.length).data.toList = l.tail
  rw [ByteArray.data_extract]
  cases l <;> simp
theorem l23Num_gives (σ : Heap) {s : ByteArray} (hs : s.size ≤ 1048576) : Gives G n_spec_l23Num [.str s] σ (.tuple [.int .i64 (num s.data.toList).1, .bool (num s.data.toList).2]) := by
  have hlen : s.data.toList.length = s.size := by simp
  refine Gives.of (W.to (fun k _ => spec_l23Num.eq k _ _) ?_)
  have fin : ∀ (neg : Bool) (t : ByteArray), t.size ≤ 17 → num s.data.toList = digs neg t.data.toList → W (ι := Unit) (fun w σ' => w = .tuple [.int .i64 (num s.data.toList).1, .bool (num s.data.toList).2] ∧ Lh σ σ') (fun _ => False)
      (fun k _ => (spec_l23Num.L0 k k [.v (.str t), .v (.bool neg), .v (.int .i64 0), .v (.int .i64 0)] σ).bind (spec_l23Num.A0 k)) := fun neg t ht he => by
    rw [he]
    exact l23_loop ht neg
  have bad : num s.data.toList = (0, false) → W (ι := Unit) (fun w σ' => w = .tuple [.int .i64 (num s.data.toList).1, .bool (num s.data.toList).2] ∧ Lh σ σ') (fun _ => False) (fun k _ => some (.tuple [.int .i64 0, .bool false], σ)) := fun h => by
    rw [h]
    exact W.ret ⟨rfl, Lh.refl _⟩
  by_cases h0 : s.size = 0
  · have hl : s.data.toList = [] := List.eq_nil_of_length_eq_zero (by omega)
    try simp only [q_bind_some, castInt_int, q_castBool, q_castStr, q_castPtr, q_castFn, q_castAgg, q_castTuple, q_uncons, q_isNil, q_sl, q_nils, q_emp, q_ptr, q_nilp, q_fn, q_cond_true, q_cond_false, Bool.not_true, Bool.not_false, decide_true, decide_false, List.cons_append, List.nil_append, h0]
    exact bad (by rw [hl]; rfl)
  have hp : (0 : Int) < (s.size : Int) := by omega
  have hp' : 0 < s.size := by omega
  have hb0 : sbyte s 0 = some (s[0].toNat : Int) := sbyte_at hp'
  have hhead := ba_head s hp'
  have hne : s.data.toList ≠ [] := fun hc => by rw [hc] at hlen; simp at hlen; omega
  try simp only [q_bind_some, castInt_int, q_castBool, q_castStr, q_castPtr, q_castFn, q_castAgg, q_castTuple, q_uncons, q_isNil, q_sl, q_nils, q_emp, q_ptr, q_nilp, q_fn, q_cond_true, q_cond_false, Bool.not_true, Bool.not_false, decide_true, decide_false, List.cons_append, List.nil_append, hp, hb0]
  by_cases h45 : (s[0].toNat : Int) = 45
  · have hn : (s.data.toList.head? == some 45) = true := by
      rw [hhead, beq_iff_eq]
      congr 1
      apply UInt8.toNat_inj.1
      show s[0].toNat = 45
      omega
    have hnum : num s.data.toList = numD true (s.extract 1 s.size).data.toList := by unfold num; rw [hn, ext_tail]; rfl
    have hsub : ssub s (some 1) none = some (s.extract 1 s.size) := by
      unfold ssub
      simp only [Option.getD]
      rw [if_pos (by omega)]
      congr 1
    try simp only [q_bind_some, castInt_int, q_castBool, q_castStr, q_castPtr, q_castFn, q_castAgg, q_castTuple, q_uncons, q_isNil, q_sl, q_nils, q_emp, q_ptr, q_nilp, q_fn, q_cond_true, q_cond_false, Bool.not_true, Bool.not_false, decide_true, decide_false, List.cons_append, List.nil_append, h45, hsub]
    have htl : (s.extract 1 s.size).size = s.size - 1 := by simp
    generalize s.extract 1 s.size = t at hnum htl
    have htlen : t.data.toList.length = t.size := by simp
    by_cases t0 : t.size = 0
    · try simp only [q_bind_some, castInt_int, q_castBool, q_castStr, q_castPtr, q_castFn, q_castAgg, q_castTuple, q_uncons, q_isNil, q_sl, q_nils, q_emp, q_ptr, q_nilp, q_fn, q_cond_true, q_cond_false, Bool.not_true, Bool.not_false, decide_true, decide_false, List.cons_append, List.nil_append, t0]
      refine bad ?_
      rw [hnum, List.eq_nil_of_length_eq_zero (htlen.trans t0)]
      rfl
    have t0' : ¬ (t.size : Int) = 0 := by omega
    have tne : t.data.toList ≠ [] := fun hc => by rw [hc] at htlen; simp at htlen; omega
    by_cases t17 : 17 < t.size
    · have t17' : (17 : Int) < (t.size : Int) := by omega
      try simp only [q_bind_some, castInt_int, q_castBool, q_castStr, q_castPtr, q_castFn, q_castAgg, q_castTuple, q_uncons, q_isNil, q_sl, q_nils, q_emp, q_ptr, q_nilp, q_fn, q_cond_true, q_cond_false, Bool.not_true, Bool.not_false, decide_true, decide_false, List.cons_append, List.nil_append, t0', t17']
      refine bad ?_
      rw [hnum]
      unfold numD
      rw [if_neg tne, if_pos (by omega)]
    have t17' : ¬ (17 : Int) < (t.size : Int) := by omega
    have tp' : 0 < t.size := by omega
    have tb0 : sbyte t 0 = some (t[0].toNat : Int) := sbyte_at tp'
    have thead := ba_head t tp'
    try simp only [q_bind_some, castInt_int, q_castBool, q_castStr, q_castPtr, q_castFn, q_castAgg, q_castTuple, q_uncons, q_isNil, q_sl, q_nils, q_emp, q_ptr, q_nilp, q_fn, q_cond_true, q_cond_false, Bool.not_true, Bool.not_false, decide_true, decide_false, List.cons_append, List.nil_append, t0', t17', tb0]
    by_cases t48 : (t[0].toNat : Int) = 48
    · have th : t.data.toList.head? = some 48 := by
        rw [thead]
        congr 1
        apply UInt8.toNat_inj.1
        show t[0].toNat = 48
        omega
      have hz : num s.data.toList = (0, false) := by
        rw [hnum]
        unfold numD
        rw [if_neg tne, if_neg (by omega), if_pos ⟨th, .inr rfl⟩]
      try simp only [q_bind_some, castInt_int, q_castBool, q_castStr, q_castPtr, q_castFn, q_castAgg, q_castTuple, q_uncons, q_isNil, q_sl, q_nils, q_emp, q_ptr, q_nilp, q_fn, q_cond_true, q_cond_false, Bool.not_true, Bool.not_false, decide_true, decide_false, List.cons_append, List.nil_append, t48]
      by_cases t1 : (1 : Int) < (t.size : Int)
      · try simp only [q_bind_some, castInt_int, q_castBool, q_castStr, q_castPtr, q_castFn, q_castAgg, q_castTuple, q_uncons, q_isNil, q_sl, q_nils, q_emp, q_ptr, q_nilp, q_fn, q_cond_true, q_cond_false, Bool.not_true, Bool.not_false, decide_true, decide_false, List.cons_append, List.nil_append, t1]
        exact bad hz
      · try simp only [q_bind_some, castInt_int, q_castBool, q_castStr, q_castPtr, q_castFn, q_castAgg, q_castTuple, q_uncons, q_isNil, q_sl, q_nils, q_emp, q_ptr, q_nilp, q_fn, q_cond_true, q_cond_false, Bool.not_true, Bool.not_false, decide_true, decide_false, List.cons_append, List.nil_append, t1]
        exact bad hz
    · try simp only [q_bind_some, castInt_int, q_castBool, q_castStr, q_castPtr, q_castFn, q_castAgg, q_castTuple, q_uncons, q_isNil, q_sl, q_nils, q_emp, q_ptr, q_nilp, q_fn, q_cond_true, q_cond_false, Bool.not_true, Bool.not_false, decide_true, decide_false, List.cons_append, List.nil_append, t48]
      refine fin true t (by omega) ?_
      rw [hnum]
      refine numD_digs tne (by omega) (fun hc => t48 ?_)
      have := hc.1
      rw [thead] at this
      injection this with this
      rw [this]
      rfl
  · have hn : (s.data.toList.head? == some 45) = false := by
      rw [hhead, beq_eq_false_iff_ne]
      intro hc
      injection hc with hc
      apply h45
      rw [hc]
      rfl
    have hnum : num s.data.toList = numD false s.data.toList := by unfold num; rw [hn]; rfl
    have s0' : ¬ (s.size : Int) = 0 := by omega
    by_cases s17 : 17 < s.size
    · have s17' : (17 : Int) < (s.size : Int) := by omega
      try simp only [q_bind_some, castInt_int, q_castBool, q_castStr, q_castPtr, q_castFn, q_castAgg, q_castTuple, q_uncons, q_isNil, q_sl, q_nils, q_emp, q_ptr, q_nilp, q_fn, q_cond_true, q_cond_false, Bool.not_true, Bool.not_false, decide_true, decide_false, List.cons_append, List.nil_append, h45, s0', s17']
      refine bad ?_
      rw [hnum]
      unfold numD
      rw [if_neg hne, if_pos (by omega)]
    have s17' : ¬ (17 : Int) < (s.size : Int) := by omega
    try simp only [q_bind_some, castInt_int, q_castBool, q_castStr, q_castPtr, q_castFn, q_castAgg, q_castTuple, q_uncons, q_isNil, q_sl, q_nils, q_emp, q_ptr, q_nilp, q_fn, q_cond_true, q_cond_false, Bool.not_true, Bool.not_false, decide_true, decide_false, List.cons_append, List.nil_append, h45, s0', s17']
    by_cases s48 : (s[0].toNat : Int) = 48
    · have sh : s.data.toList.head? = some 48 := by
        rw [hhead]
        congr 1
        apply UInt8.toNat_inj.1
        show s[0].toNat = 48
        omega
      try simp only [q_bind_some, castInt_int, q_castBool, q_castStr, q_castPtr, q_castFn, q_castAgg, q_castTuple, q_uncons, q_isNil, q_sl, q_nils, q_emp, q_ptr, q_nilp, q_fn, q_cond_true, q_cond_false, Bool.not_true, Bool.not_false, decide_true, decide_false, List.cons_append, List.nil_append, s48]
      by_cases s1 : (1 : Int) < (s.size : Int)
      · try simp only [q_bind_some, castInt_int, q_castBool, q_castStr, q_castPtr, q_castFn, q_castAgg, q_castTuple, q_uncons, q_isNil, q_sl, q_nils, q_emp, q_ptr, q_nilp, q_fn, q_cond_true, q_cond_false, Bool.not_true, Bool.not_false, decide_true, decide_false, List.cons_append, List.nil_append, s1]
        refine bad ?_
        rw [hnum]
        unfold numD
        rw [if_neg hne, if_neg (by omega), if_pos ⟨sh, .inl (by omega)⟩]
      · try simp only [q_bind_some, castInt_int, q_castBool, q_castStr, q_castPtr, q_castFn, q_castAgg, q_castTuple, q_uncons, q_isNil, q_sl, q_nils, q_emp, q_ptr, q_nilp, q_fn, q_cond_true, q_cond_false, Bool.not_true, Bool.not_false, decide_true, decide_false, List.cons_append, List.nil_append, s1]
        refine fin false s (by omega) ?_
        rw [hnum]
        exact numD_digs hne (by omega) (fun hc => by
          rcases hc.2 with hx | hx
          · omega
          · cases hx)
    · try simp only [q_bind_some, castInt_int, q_castBool, q_castStr, q_castPtr, q_castFn, q_castAgg, q_castTuple, q_uncons, q_isNil, q_sl, q_nils, q_emp, q_ptr, q_nilp, q_fn, q_cond_true, q_cond_false, Bool.not_true, Bool.not_false, decide_true, decide_false, List.cons_append, List.nil_append, s48]
      refine fin false s (by omega) ?_
      rw [hnum]
      refine numD_digs hne (by omega) (fun hc => s48 ?_)
      have := hc.1
      rw [hhead] at this
      injection this with this
      rw [this]
      rfl
theorem specLexNum_gives (σ : Heap) {s : ByteArray} (hs : s.size ≤ 1048576) : Gives G n_spec_LexNum [.str s] σ (.tuple [.int .i64 (num s.data.toList).1, .bool (num s.data.toList).2]) := by
  refine Gives.of (W.to (fun k _ => spec_LexNum.eq k _ _) ?_)
  refine W.give (l23Num_gives σ hs) fun σ1 l1 => ?_
  try simp only [q_bind_some, castInt_int, q_castBool, q_castStr, q_castPtr, q_castFn, q_castAgg, q_castTuple, q_uncons, q_isNil, q_sl, q_nils, q_emp, q_ptr, q_nilp, q_fn, q_cond_true, q_cond_false, Bool.not_true, Bool.not_false, decide_true, decide_false, List.cons_append, List.nil_append]
  exact W.ret ⟨rfl, l1⟩
end Go.L
