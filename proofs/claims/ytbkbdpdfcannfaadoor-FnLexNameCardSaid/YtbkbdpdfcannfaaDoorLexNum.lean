/- LexNum: the program's and the reference's. -/
import Derived.Test.YtbkbdpdfcannfaaDoorEF0
import Derived.Test.YtbkbdpdfcannfaaDoorK
import Derived.Test.YtbkbdpdfcannfaaDoorN
import Derived.Test.YtbkbdpdfcannfaaDoorHMStd
import Derived.Test.YtbkbdpdfcannfaaDoorHMIdx
import Derived.Test.YtbkbdpdfcannfaaDoorHMDec
set_option linter.unusedVariables false
set_option linter.unusedSimpArgs false
namespace Go.L
open Go.HM Go.Proofs
/-- What strconv's variables hold. -/
structure NumV (σ : Heap) : Prop where
  tab : σ[g_uint64pow10]? = some (some ⟨Lib.pow10Tab.map fun z => .int .u64 z, 1, true, 0⟩)
  es : ∃ tp x, σ[g_ErrSyntax]? = some (some ⟨[.iface tp x], 1, true, 0⟩)
  er : ∃ tp x, σ[g_ErrRange]? = some (some ⟨[.iface tp x], 1, true, 0⟩)
theorem NumV.le {σ σ' : Heap} (hl : Lh σ σ') (h : NumV σ) : NumV σ' := ⟨hl.row _ _ h.tab, let ⟨tp, x, e⟩ := h.es; ⟨tp, x, hl.row _ _ e⟩, let ⟨tp, x, e⟩ := h.er; ⟨tp, x, hl.row _ _ e⟩⟩
theorem itoa_runs {σ : Heap} (h : σ[g_uint64pow10]? = some (some ⟨Lib.pow10Tab.map fun z => .int .u64 z, 1, true, 0⟩)) {n : Int} (h0 : -9223372036854775808 ≤ n) (h1 : n ≤ 9223372036854775807) : Runs G n_strconv_Itoa [.int .i64 n] σ (.str ⟨(Lib.itoa n).toArray⟩) σ := by
  refine hook_runs (h := hkItoa g_uint64pow10) rfl ?_
  unfold hkItoa
  exact if_pos ⟨⟨h0, h1⟩, h⟩
theorem ba_toList (s : ByteArray) (l : List UInt8) : ((⟨l.toArray⟩ : ByteArray) = s) ↔ l = s.data.toList := by
  obtain ⟨⟨d⟩⟩ := s
  constructor
  · intro h
    injection h with h
    injection h
  · intro h
    rw [h]
theorem decimal_ends {σ : Heap} (hv : NumV σ) {s : ByteArray} (hs : s.size ≤ 1048576) : HM.Ends G n_impl_decimal [.str s] σ (fun w σ' => Lh σ σ' ∧ ∃ n b, w = .tuple [.int .i64 n, .bool b] ∧
    ((b = false ∧ numI s.data.toList = (0, false) ∨ b = true ∧ Lib.atoiAll s.data.toList = .ok n ∧ Lib.itoa n = s.data.toList))) := by
  refine HM.Ends.mk (W.to (fun k _ => impl_decimal.eq k _ _) ?_)
  have err : ∀ n : Int, ∀ T, Runs G n_strconv_Atoi [.str s] σ (.tuple [.int .i64 n, .iface T (.ptr σ.length 0)]) (hnew σ 3 []) → numI s.data.toList = (0, false) → W (ι := Unit) (fun w σ' => Lh σ σ' ∧ ∃ n b, w = .tuple [.int .i64 n, .bool b] ∧
    ((b = false ∧ numI s.data.toList = (0, false) ∨ b = true ∧ Lib.atoiAll s.data.toList = .ok n ∧ Lib.itoa n = s.data.toList))) (fun _ => False) (fun k _ => ((hcall G k n_strconv_Atoi [.str s] σ).bind fun q2 => castTuple q2.1 fun l3 => uncons l3 fun c4 l5 => castInt .i64 c4 fun n6 => uncons l5 fun c7 l8 => isNil l8 <| (nilI c7).bind fun b9 => bif b9 then ((hcall G k n_strconv_Itoa [.int .i64 n6] q2.2).bind fun q10 => castStr q10.1 fun s11 => some (.tuple [.int .i64 n6, .bool (decide (s11 = s))], q10.2)) else (some (.tuple [.int .i64 n6, .bool false], q2.2)))) := fun n T hr hz => by
    refine W.run hr ?_
    try simp only [q_bind_some, castInt_int, q_castBool, q_castStr, q_castPtr, q_castFn, q_castAgg, q_castTuple, q_uncons, q_isNil, q_sl, q_nils, q_emp, q_ptr, q_nilp, q_fn, q_cond_true, q_cond_false, Bool.not_true, Bool.not_false, decide_true, decide_false, List.cons_append, List.nil_append, nilI]
    exact W.ret ⟨Lh.new _ _ _, _, _, rfl, .inl ⟨rfl, hz⟩⟩
  have h3 : (∃ n, Lib.atoiAll s.data.toList = .ok n) ∨ Lib.atoiAll s.data.toList = .range ∨ Lib.atoiAll s.data.toList = Lib.NumEnd.ofOption none := by
    cases Lib.atoiAll s.data.toList with
    | ok n => exact .inl ⟨n, rfl⟩
    | range => exact .inr (.inl rfl)
    | _ => exact .inr (.inr rfl)
  rcases h3 with ⟨n, ha⟩ | ha | ha
  · have hb := Lib.atoiAll_bounds ha
    have hr : Runs G n_strconv_Atoi [.str s] σ (.tuple [.int .i64 n, .nili]) σ := by
      refine hook_runs (h := hkAtoi g_ErrSyntax g_ErrRange _) rfl ?_
      unfold hkAtoi
      simp only
      rw [if_pos (by omega), ha]
    refine W.run hr ?_
    try simp only [q_bind_some, castInt_int, q_castBool, q_castStr, q_castPtr, q_castFn, q_castAgg, q_castTuple, q_uncons, q_isNil, q_sl, q_nils, q_emp, q_ptr, q_nilp, q_fn, q_cond_true, q_cond_false, Bool.not_true, Bool.not_false, decide_true, decide_false, List.cons_append, List.nil_append, nilI]
    refine W.run (itoa_runs hv.tab hb.1 hb.2) ?_
    try simp only [q_bind_some, castInt_int, q_castBool, q_castStr, q_castPtr, q_castFn, q_castAgg, q_castTuple, q_uncons, q_isNil, q_sl, q_nils, q_emp, q_ptr, q_nilp, q_fn, q_cond_true, q_cond_false, Bool.not_true, Bool.not_false, decide_true, decide_false, List.cons_append, List.nil_append]
    refine W.ret ⟨Lh.refl _, _, _, rfl, ?_⟩
    by_cases he : Lib.itoa n = s.data.toList
    · exact .inr ⟨decide_eq_true ((ba_toList _ _).2 he), ha, he⟩
    · refine .inl ⟨decide_eq_false (fun hc => he ((ba_toList _ _).1 hc)), ?_⟩
      unfold numI
      rw [ha]
      simp only
      rw [if_neg (fun hc => he hc.1)]
  · refine err (Lib.atoiSat s.data.toList) tNumErr (hook_runs (h := hkAtoi g_ErrSyntax g_ErrRange tNumErr) rfl ?_) (by unfold numI; rw [ha])
    unfold hkAtoi
    simp only
    rw [if_pos (by omega), ha]
    simp only
    rw [if_pos hv.er]
  · simp only [Lib.NumEnd.ofOption] at ha
    refine err 0 tNumErr (hook_runs (h := hkAtoi g_ErrSyntax g_ErrRange tNumErr) rfl ?_) (by unfold numI; rw [ha])
    unfold hkAtoi
    simp only
    rw [if_pos (by omega), ha]
    simp only
    rw [if_pos hv.es]
theorem implLexNum_gives {σ : Heap} (hv : NumV σ) {s : ByteArray} (hs : s.size ≤ 1048576) : Gives G n_impl_LexNum [.str s] σ (.tuple [.int .i64 (numI s.data.toList).1, .bool (numI s.data.toList).2]) := by
  refine Gives.of (W.to (fun k _ => impl_LexNum.eq k _ _) ?_)
  obtain ⟨w, σ', ⟨hl, n, b, rfl, hb⟩, hr⟩ := decimal_ends hv hs
  refine W.run hr ?_
  rcases hb with ⟨rfl, hz⟩ | ⟨rfl, ha, hi⟩
  · try simp only [q_bind_some, castInt_int, q_castBool, q_castStr, q_castPtr, q_castFn, q_castAgg, q_castTuple, q_uncons, q_isNil, q_sl, q_nils, q_emp, q_ptr, q_nilp, q_fn, q_cond_true, q_cond_false, Bool.not_true, Bool.not_false, decide_true, decide_false, List.cons_append, List.nil_append]
    exact W.ret ⟨by rw [hz], hl⟩
  · try simp only [q_bind_some, castInt_int, q_castBool, q_castStr, q_castPtr, q_castFn, q_castAgg, q_castTuple, q_uncons, q_isNil, q_sl, q_nils, q_emp, q_ptr, q_nilp, q_fn, q_cond_true, q_cond_false, Bool.not_true, Bool.not_false, decide_true, decide_false, List.cons_append, List.nil_append]
    have hsh : Runs G n_impl_isShort [.int .i64 n] σ' (.bool (decide (-99999999999999999 ≤ n ∧ n ≤ 99999999999999999))) σ' := by
      refine Runs.of (W.to (fun k _ => impl_isShort.eq k _ _) ?_)
      refine W.run (inRange_runs _ _ _) ?_
      try simp only [q_bind_some, castInt_int, q_castBool, q_castStr, q_castPtr, q_castFn, q_castAgg, q_castTuple, q_uncons, q_isNil, q_sl, q_nils, q_emp, q_ptr, q_nilp, q_fn, q_cond_true, q_cond_false, Bool.not_true, Bool.not_false, decide_true, decide_false, List.cons_append, List.nil_append]
      exact W.ret ⟨rfl, rfl⟩
    refine W.run hsh ?_
    by_cases hx : -99999999999999999 ≤ n ∧ n ≤ 99999999999999999
    · try simp only [q_bind_some, castInt_int, q_castBool, q_castStr, q_castPtr, q_castFn, q_castAgg, q_castTuple, q_uncons, q_isNil, q_sl, q_nils, q_emp, q_ptr, q_nilp, q_fn, q_cond_true, q_cond_false, Bool.not_true, Bool.not_false, decide_true, decide_false, List.cons_append, List.nil_append, decide_eq_true hx]
      refine W.ret ⟨?_, hl⟩
      unfold numI
      rw [ha]
      simp only
      rw [if_pos ⟨hi, hx⟩]
    · have hf := decide_eq_false hx
      try simp only [q_bind_some, castInt_int, q_castBool, q_castStr, q_castPtr, q_castFn, q_castAgg, q_castTuple, q_uncons, q_isNil, q_sl, q_nils, q_emp, q_ptr, q_nilp, q_fn, q_cond_true, q_cond_false, Bool.not_true, Bool.not_false, decide_true, decide_false, List.cons_append, List.nil_append, hf]
      refine W.ret ⟨?_, hl⟩
      unfold numI
      rw [ha]
      simp only
      rw [if_neg (fun hc => hx hc.2)]
end Go.L
