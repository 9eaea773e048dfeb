/- Drawn words and texts; whole words. -/
import Derived.Test.YtjadancpencnnaaLexCut2
import Derived.Test.YtjadancpencnnaaDraw
set_option linter.unusedVariables false
set_option linter.unusedSimpArgs false
namespace Go.A
open Go.HM Go.Proofs
theorem wlSame_runs {σ : Heap} {v w : V} {l : List ByteArray} (hl : l.length ≤ 1073741824) (h : RepS 1 StrRep σ v l) (g : RepS 1 StrRep σ w l) : Runs G n_laws_wlSame [v, w] σ (.bool true) σ := by
  refine Runs.of (W.to (fun k _ => laws_wlSame.eq k _ _ _) ?_)
  refine W.len h (W.len g ?_)
  try simp only [q_bind_some, castInt_int, q_castBool, q_castStr, q_castPtr, q_castFn, q_castAgg, q_castTuple, q_uncons, q_isNil, q_sl, q_nils, q_emp, q_ptr, q_nilp, q_fn, q_cond_true, q_cond_false, Bool.not_true, Bool.not_false, decide_true, decide_false, List.cons_append, List.nil_append, ]
  refine W.loop (S := Nat) (fun i => i ≤ l.length) (fun i => [.v v, .v w, .v (.int .i64 (i : Int))]) (fun _ => σ) (fun i => l.length - i) (fun i hi => ?_) 0 (Nat.zero_le _)
  refine W.to (fun k _ => by rw [laws_wlSame.L0_step]) ?_
  refine B.len h (B.ite (fun hlt => ?_) fun hlt => ?_)
  · have hil : i < l.length := by omega
    obtain ⟨r1, o1, hv1, c1, hr1, hp1⟩ := h.at hil
    obtain ⟨r2, o2, hv2, c2, hr2, hp2⟩ := g.at hil
    unfold StrRep at hp1 hp2
    subst hp1 hp2
    try simp only [q_bind_some, castInt_int, q_castBool, q_castStr, q_castPtr, q_castFn, q_castAgg, q_castTuple, q_uncons, q_isNil, q_sl, q_nils, q_emp, q_ptr, q_nilp, q_fn, q_cond_true, q_cond_false, Bool.not_true, Bool.not_false, decide_true, decide_false, List.cons_append, List.nil_append, hv1, hr1, hv2, hr2, wrap_next hil (by omega)]
    exact W.again (i + 1) (by show i + 1 ≤ l.length; omega) (by omega) rfl rfl
  · try simp only [q_bind_some, castInt_int, q_castBool, q_castStr, q_castPtr, q_castFn, q_castAgg, q_castTuple, q_uncons, q_isNil, q_sl, q_nils, q_emp, q_ptr, q_nilp, q_fn, q_cond_true, q_cond_false, Bool.not_true, Bool.not_false, decide_true, decide_false, List.cons_append, List.nil_append, laws_wlSame.A0_x0]
    exact W.ret ⟨rfl, rfl⟩
noncomputable def wholeB (l : List ByteArray) : Bool := @decide (∀ w, w ∈ l → WholeW w) (Classical.propDecidable _)
theorem wholeB_true {l : List ByteArray} : wholeB l = true ↔ ∀ w, w ∈ l → WholeW w := by unfold wholeB; exact @decide_eq_true_iff _ (Classical.propDecidable _)
theorem wholeB_false {l : List ByteArray} {w : ByteArray} (h : w ∈ l) (hn : ¬ WholeW w) : wholeB l = false := by
  cases hb : wholeB l with
  | false => rfl
  | true => exact absurd (wholeB_true.1 hb w h) hn
theorem wlWhole_runs {σ : Heap} {v : V} {l : List ByteArray} (hl : l.length ≤ 1073741824) (hs : ∀ w, w ∈ l → w.size ≤ 1073741824) (h : RepS 1 StrRep σ v l) : Runs G n_laws_wlWhole [v] σ (.bool (wholeB l)) σ := by
  refine Runs.of (W.to (fun k _ => laws_wlWhole.eq k _ _) ?_)
  refine W.loop (S := Nat) (fun i => i ≤ l.length ∧ ∀ w, w ∈ l.take i → WholeW w) (fun i => [.v v, .v (.int .i64 (i : Int))]) (fun _ => σ) (fun i => l.length - i) (fun i ⟨hi, hok⟩ => ?_) 0 ⟨Nat.zero_le _, fun w hw => by simp at hw⟩
  refine W.to (fun k _ => by rw [laws_wlWhole.L0_step]) ?_
  refine B.len h (B.ite (fun hlt => ?_) fun hlt => ?_)
  rotate_left
  · have hw : wholeB l = true := wholeB_true.2 fun w hw => hok w (by rw [List.take_of_length_le (by omega)]; exact hw)
    try simp only [q_bind_some, castInt_int, q_castBool, q_castStr, q_castPtr, q_castFn, q_castAgg, q_castTuple, q_uncons, q_isNil, q_sl, q_nils, q_emp, q_ptr, q_nilp, q_fn, q_cond_true, q_cond_false, Bool.not_true, Bool.not_false, decide_true, decide_false, List.cons_append, List.nil_append, laws_wlWhole.A0_x0]
    exact W.ret ⟨by rw [hw], rfl⟩
  have hil : i < l.length := by omega
  have hx : l[i]? = some l[i] := List.getElem?_eq_getElem hil
  generalize l[i] = x at hx
  have hm := List.mem_of_getElem? hx
  have hxs := hs x hm
  obtain ⟨r1, o1, hv1, c1, hr1, hp1⟩ := h.at' hx
  unfold StrRep at hp1
  subst hp1
  try simp only [q_bind_some, castInt_int, q_castBool, q_castStr, q_castPtr, q_castFn, q_castAgg, q_castTuple, q_uncons, q_isNil, q_sl, q_nils, q_emp, q_ptr, q_nilp, q_fn, q_cond_true, q_cond_false, Bool.not_true, Bool.not_false, decide_true, decide_false, List.cons_append, List.nil_append, hv1, hr1]
  refine B.assoc ?_
  refine W.loop (S := Nat) (fun j => j ≤ x.size ∧ ∀ c, c ∈ x.data.toList.take j → fineC c ∧ (1 < x.size → ¬ markC c)) (fun j => [.v v, .v (.int .i64 (i : Int)), .v (.str x), .v (.int .i64 (j : Int))]) (fun _ => σ) (fun j => x.size - j) (fun j ⟨hj, hokj⟩ => ?_) 0 ⟨Nat.zero_le _, fun c hc => by simp at hc⟩
  refine W.to (fun k _ => by rw [laws_wlWhole.L1_step]) ?_
  refine B.ite (fun hlt2 => ?_) fun hlt2 => ?_
  rotate_left
  · obtain rfl : j = x.size := by omega
    rw [List.take_of_length_le (by rw [sz_list]; omega)] at hokj
    try simp only [q_bind_some, castInt_int, q_castBool, q_castStr, q_castPtr, q_castFn, q_castAgg, q_castTuple, q_uncons, q_isNil, q_sl, q_nils, q_emp, q_ptr, q_nilp, q_fn, q_cond_true, q_cond_false, Bool.not_true, Bool.not_false, decide_true, decide_false, List.cons_append, List.nil_append, laws_wlWhole.A1_x2]
    by_cases he : x = (⟨#[]⟩ : ByteArray)
    · try simp only [q_bind_some, castInt_int, q_castBool, q_castStr, q_castPtr, q_castFn, q_castAgg, q_castTuple, q_uncons, q_isNil, q_sl, q_nils, q_emp, q_ptr, q_nilp, q_fn, q_cond_true, q_cond_false, Bool.not_true, Bool.not_false, decide_true, decide_false, List.cons_append, List.nil_append, decide_eq_true he, laws_wlWhole.A0_ret]
      refine W.ret ⟨by rw [wholeB_false hm fun hc => hc.1 (by rw [he])], rfl⟩
    · try simp only [q_bind_some, castInt_int, q_castBool, q_castStr, q_castPtr, q_castFn, q_castAgg, q_castTuple, q_uncons, q_isNil, q_sl, q_nils, q_emp, q_ptr, q_nilp, q_fn, q_cond_true, q_cond_false, Bool.not_true, Bool.not_false, decide_true, decide_false, List.cons_append, List.nil_append, decide_eq_false he, wrap_next hil (by omega)]
      refine W.out' _ (W.again (i + 1) ⟨by omega, fun w hw => ?_⟩ (by omega) rfl rfl) fun k j m => rfl
      rw [take_next' hx] at hw
      rcases List.mem_append.1 hw with hw | hw
      · exact hok w hw
      · simp at hw
        subst hw
        refine ⟨fun hc => he (ba_eq hc), fun c hc => (hokj c hc).1, fun h1 c hc => (hokj c hc).2 (by rw [sz_list] at h1; exact h1)⟩
  have hjl : j < x.size := by omega
  have hby : sbyte x (j : Int) = some (x[j].toNat : Int) := sbyte_at hjl
  have hmem : x[j] ∈ x.data.toList := List.mem_of_getElem? (byte_get hjl)
  have bad : ∀ {ι : Type} {Next : Cmp ι → Prop}, ¬ WholeW x → W (fun w σ' => w = .bool (wholeB l) ∧ σ' = σ) Next (fun k m => some (.bool false, σ)) := fun hn => W.ret ⟨by rw [wholeB_false hm hn], rfl⟩
  try simp only [q_bind_some, castInt_int, q_castBool, q_castStr, q_castPtr, q_castFn, q_castAgg, q_castTuple, q_uncons, q_isNil, q_sl, q_nils, q_emp, q_ptr, q_nilp, q_fn, q_cond_true, q_cond_false, Bool.not_true, Bool.not_false, decide_true, decide_false, List.cons_append, List.nil_append, hby]
  refine B.ite (fun k1 => ?_) fun k1 => ?_
  · try simp only [q_bind_some, castInt_int, q_castBool, q_castStr, q_castPtr, q_castFn, q_castAgg, q_castTuple, q_uncons, q_isNil, q_sl, q_nils, q_emp, q_ptr, q_nilp, q_fn, q_cond_true, q_cond_false, Bool.not_true, Bool.not_false, decide_true, decide_false, List.cons_append, List.nil_append, laws_wlWhole.A1_ret, laws_wlWhole.A0_ret]
    exact bad fun hw => by have := hw.2.1 _ hmem; unfold fineC at this; omega
  refine B.ite (fun k2 => ?_) fun k2 => ?_
  · try simp only [q_bind_some, castInt_int, q_castBool, q_castStr, q_castPtr, q_castFn, q_castAgg, q_castTuple, q_uncons, q_isNil, q_sl, q_nils, q_emp, q_ptr, q_nilp, q_fn, q_cond_true, q_cond_false, Bool.not_true, Bool.not_false, decide_true, decide_false, List.cons_append, List.nil_append, laws_wlWhole.A1_ret, laws_wlWhole.A0_ret]
    exact bad fun hw => by have := hw.2.1 _ hmem; unfold fineC at this; omega
  have hf : fineC x[j] := by unfold fineC; omega
  have next : (1 < x.size → ¬ markC x[j]) → ∀ c, c ∈ x.data.toList.take (j + 1) → fineC c ∧ (1 < x.size → ¬ markC c) := fun hm c hc => by
    rw [take_next' (byte_get hjl)] at hc
    rcases List.mem_append.1 hc with hc | hc
    · exact hokj c hc
    · simp at hc
      subst hc
      exact ⟨hf, hm⟩
  refine B.ite (fun k3 => ?_) fun k3 => ?_
  · refine B.ite (fun k4 => ?_) fun k4 => ?_
    · try simp only [q_bind_some, castInt_int, q_castBool, q_castStr, q_castPtr, q_castFn, q_castAgg, q_castTuple, q_uncons, q_isNil, q_sl, q_nils, q_emp, q_ptr, q_nilp, q_fn, q_cond_true, q_cond_false, Bool.not_true, Bool.not_false, decide_true, decide_false, List.cons_append, List.nil_append, laws_wlWhole.A1_ret, laws_wlWhole.A0_ret]
      exact bad fun hw => hw.2.2 (by rw [sz_list]; omega) _ hmem (.inl k4)
    refine B.ite (fun k5 => ?_) fun k5 => ?_
    · try simp only [q_bind_some, castInt_int, q_castBool, q_castStr, q_castPtr, q_castFn, q_castAgg, q_castTuple, q_uncons, q_isNil, q_sl, q_nils, q_emp, q_ptr, q_nilp, q_fn, q_cond_true, q_cond_false, Bool.not_true, Bool.not_false, decide_true, decide_false, List.cons_append, List.nil_append, laws_wlWhole.A1_ret, laws_wlWhole.A0_ret]
      exact bad fun hw => hw.2.2 (by rw [sz_list]; omega) _ hmem (.inr k5)
    try simp only [q_bind_some, castInt_int, q_castBool, q_castStr, q_castPtr, q_castFn, q_castAgg, q_castTuple, q_uncons, q_isNil, q_sl, q_nils, q_emp, q_ptr, q_nilp, q_fn, q_cond_true, q_cond_false, Bool.not_true, Bool.not_false, decide_true, decide_false, List.cons_append, List.nil_append, wrap_next hjl (by omega)]
    exact W.again (j + 1) ⟨by omega, next fun _ hc => hc.elim k4 k5⟩ (by omega) rfl rfl
  · try simp only [q_bind_some, castInt_int, q_castBool, q_castStr, q_castPtr, q_castFn, q_castAgg, q_castTuple, q_uncons, q_isNil, q_sl, q_nils, q_emp, q_ptr, q_nilp, q_fn, q_cond_true, q_cond_false, Bool.not_true, Bool.not_false, decide_true, decide_false, List.cons_append, List.nil_append, wrap_next hjl (by omega)]
    exact W.again (j + 1) ⟨by omega, next fun h1 => by omega⟩ (by omega) rfl rfl
/-! ### draws -/
def lits11 : List ByteArray := [⟨#[40]⟩, ⟨#[41]⟩, ⟨#[102]⟩, ⟨#[120]⟩, ⟨#[49, 50]⟩, ⟨#[43]⟩, ⟨#[97, 46, 98]⟩, ⟨#[40]⟩, ⟨#[41]⟩, ⟨#[]⟩, ⟨#[97, 32, 98]⟩]
def lits17 : List ByteArray := [⟨#[40]⟩, ⟨#[41]⟩, ⟨#[32]⟩, ⟨#[10]⟩, ⟨#[102]⟩, ⟨#[120]⟩, ⟨#[49, 50]⟩, ⟨#[45, 51]⟩, ⟨#[43]⟩, ⟨#[102, 117, 110]⟩, ⟨#[97, 46, 98]⟩, ⟨#[32]⟩, ⟨#[9]⟩, ⟨#[127]⟩, ⟨#[60, 61]⟩, ⟨#[40, 40]⟩, ⟨#[41, 41]⟩]
theorem lits11_small : ∀ x, x ∈ lits11 → x.size ≤ 3 := by decide
theorem lits17_small : ∀ x, x ∈ lits17 → x.size ≤ 3 := by decide
theorem drawJoin_step (k m : Nat) (a1 : V) (a2 : V) (n3 : Int) (σ : Heap) : spec_DrawLexJoin.L0 k (m + 1) [.v a1, .v a2, .v (.int .i64 n3)] σ = (bif decide (0 < n3) then ((hcall G k n_pspec_l23Rd_of [a1, (.sl σ.length 0 11 true)] (hnew σ 1 (lits11.map .str))).bind fun q4 => castStr q4.1 fun s5 => (vappend 1 16 q4.2 a2 1 [.str s5]).bind fun q6 => spec_DrawLexJoin.L0 k m [.v a1, .v q6.1, .v (.int .i64 (IntKind.wrap .i64 (n3 - 1)))] q6.2) else (some (.exit 0, [.bot, .v a2], σ))) := by
  rw [spec_DrawLexJoin.L0_step]
  rfl
theorem drawLexJoin_ends {σ : Heap} {v : V} {l : List Int} (h : RepS 1 U8P σ v l) (hl : ∀ x, x ∈ l → 0 ≤ x ∧ x ≤ 255) :
    HM.Ends G n_spec_DrawLexJoin [v] σ (fun w σ' => ∃ names, RepS 1 StrRep σ' w names ∧ names.length ≤ 12 ∧ (∀ x, x ∈ names → x.size ≤ 3) ∧ Lh σ σ') := by
  refine HM.Ends.mk (W.to (fun k _ => spec_DrawLexJoin.eq k _ _) ?_)
  obtain ⟨σ1, ub, lb, c1, d1, n1, l1⟩ := open_ends h hl
  refine W.run c1 ?_
  have hb1 : RepS 1 U8P σ1 ub lb := by obtain ⟨ty, _, hb, _⟩ := d1; exact hb
  have lN : Lh σ1 (hnew σ1 1 []) := Lh.new _ _ _
  obtain ⟨i0, σ2, c2, hi0, d2, o2⟩ := pick_ends (n := 12) (d1.le lN) (by omega) (by omega) (by omega)
  refine W.run c2 ?_
  try simp only [q_bind_some, castInt_int, q_castBool, q_castStr, q_castPtr, q_castFn, q_castAgg, q_castTuple, q_uncons, q_isNil, q_sl, q_nils, q_emp, q_ptr, q_nilp, q_fn, q_cond_true, q_cond_false, Bool.not_true, Bool.not_false, decide_true, decide_false, List.cons_append, List.nil_append]
  have hS0 : StrRow σ2 σ1.length [] := ⟨0, by rw [o2.2 _ (by omega)]; simp [hnew]⟩
  have low : ∀ {σ' : Heap}, σ.length ≤ σ'.length → (∀ j, j < σ.length → σ'[j]? = σ1[j]?) → Lh σ σ' := fun hlen hj => ⟨hlen, fun j row hr => by
    have := get_lt hr
    rw [hj j this]
    exact l1.row _ _ hr⟩
  refine W.loop (S := Nat × List ByteArray × V × Heap × Nat) (fun s => s.1 + s.2.1.length ≤ 12 ∧ (∀ x, x ∈ s.2.1 → x.size ≤ 3) ∧ GrS σ1.length s.2.2.2.1 s.2.2.1 s.2.1 ∧ K1 σ1 s.2.2.2.1 ∧ Dr ub lb s.2.2.2.1 σ.length s.2.2.2.2 ∧ s.2.2.2.2 + s.1 ≤ 20 ∧ ∀ j, j < σ.length → s.2.2.2.1[j]? = σ1[j]?)
    (fun s => [.v (.ptr σ.length 0), .v s.2.2.1, .v (.int .i64 (s.1 : Int))]) (fun s => s.2.2.2.1) (fun s => s.1) (fun ⟨m, names, u, σi, pi⟩ hI => ?_)
    (i0, [], .sl σ1.length 0 0 true, σ2, 0 + 1) ⟨by simp only [List.length_nil]; omega, fun x hx => by simp at hx, ⟨σ1.length, true, Nat.le_refl _, rfl, hS0⟩, (K1.lh lN).trans (K1.off (d1.le lN) o2), d2, by simp only; omega, fun j hj => by
      show σ2[j]? = _
      rw [o2.2 j (by omega), hnew, List.getElem?_append_left (by omega)]⟩
  obtain ⟨hm, hsz, hG, hk, hd, hp, hlow⟩ := hI
  simp only at hm hsz hG hk hd hp hlow ⊢
  refine W.to (fun k _ => by rw [drawJoin_step]) ?_
  refine B.ite (fun hm0 => ?_) fun hm0 => ?_
  · have lL : Lh σi (hnew σi 1 (lits11.map .str)) := Lh.new _ _ _
    have hlit : RepS 1 StrRep (hnew σi 1 (lits11.map .str)) (.sl σi.length 0 11 true) lits11 := RepS.lit (P := StrRep) σi lits11 .str (fun _ => rfl) true 11 rfl
    obtain ⟨s, σ3, c3, hs, d3, o3⟩ := of_ends (hd.le lL) (by omega) hlit (by decide) (by decide)
    refine B.run c3 ?_
    try simp only [q_bind_some, castInt_int, q_castBool, q_castStr, q_castPtr, q_castFn, q_castAgg, q_castTuple, q_uncons, q_isNil, q_sl, q_nils, q_emp, q_ptr, q_nilp, q_fn, q_cond_true, q_cond_false, Bool.not_true, Bool.not_false, decide_true, decide_false, List.cons_append, List.nil_append]
    obtain ⟨q, lim, hq, rfl, hS⟩ := hG.le lL
    have hS3 : StrRow σ3 q names := hS.keep (o3.2 q (by omega))
    have hk3 := hk.trans ((K1.lh lL).trans (K1.off (hd.le lL) o3))
    obtain ⟨σ4, ha, hS4, hl4, hk4⟩ := GrS.app (lim := lim) hS3 s (by omega)
    have em : IntKind.wrap .i64 ((m : Int) - 1) = ((m - 1 : Nat) : Int) := by rw [wrap_id (by omega) (by omega)]; omega
    have hlen3 := hk3.1
    have kk : K1 σ1 σ4 := ⟨by omega, fun j row hj he => by
      have := get_lt hj
      rw [hk4 j (by omega) (by omega)]
      exact hk3.2 j row hj he⟩
    try simp only [q_bind_some, castInt_int, q_castBool, q_castStr, q_castPtr, q_castFn, q_castAgg, q_castTuple, q_uncons, q_isNil, q_sl, q_nils, q_emp, q_ptr, q_nilp, q_fn, q_cond_true, q_cond_false, Bool.not_true, Bool.not_false, decide_true, decide_false, List.cons_append, List.nil_append, ha, em]
    refine W.again (m - 1, names ++ [s], _, σ4, pi + 1) ⟨by simp; omega, fun x hx => ?_, ⟨σ3.length, false, hlen3, rfl, hS4⟩, kk, ?_, by simp only; omega, fun j hj => ?_⟩ (by simp only; omega) rfl rfl
    · rcases List.mem_append.1 hx with hx | hx
      · exact hsz x hx
      · simp at hx
        subst hx
        exact lits11_small _ hs
    · obtain ⟨ty, g1, g2, g3⟩ := d3
      exact ⟨ty, by rw [hk4 _ (by omega) (by omega)]; exact g1, RepS.k1 hb1 kk, g3⟩
    · show σ4[j]? = _
      have hli := hk.1
      rw [hk4 j (by omega) (by omega), o3.2 j (by omega), hnew, List.getElem?_append_left (by omega)]
      exact hlow j hj
  · try simp only [q_bind_some, castInt_int, q_castBool, q_castStr, q_castPtr, q_castFn, q_castAgg, q_castTuple, q_uncons, q_isNil, q_sl, q_nils, q_emp, q_ptr, q_nilp, q_fn, q_cond_true, q_cond_false, Bool.not_true, Bool.not_false, decide_true, decide_false, List.cons_append, List.nil_append, spec_DrawLexJoin.A0_x0]
    exact W.ret ⟨names, hG.rep fun _ => rfl, by omega, hsz, low (by have := hk.1; omega) hlow⟩
theorem many_ends {σ : Heap} {s : ByteArray} {n : Nat} (h1 : n * s.size ≤ 100000) (h0 : 1 ≤ s.size) : HM.Ends G n_spec_l23Many [.str s, .int .i64 (n : Int)] σ (fun w σ' => σ' = σ ∧ ∃ t, w = .str t ∧ t.size ≤ 100000) := by
  refine HM.Ends.mk (W.to (fun k _ => spec_l23Many.eq k _ _ _) ?_)
  have e62 : (2 : Nat) ^ 62 = 4611686018427387904 := by decide
  have hn : n ≤ 100000 := Nat.le_trans (Nat.le_mul_of_pos_right n h0) h1
  refine W.loop (S := ByteArray × Nat × ByteArray) (fun x => x.2.1 * x.1.size + x.2.2.size ≤ 100000 ∧ x.2.1 ≤ 100000) (fun x => [.v (.str x.1), .v (.int .i64 (x.2.1 : Int)), .v (.str x.2.2)]) (fun _ => σ) (fun x => x.2.1) (fun ⟨a, m, b⟩ ⟨hI, hm⟩ => ?_)
    (s, n, ⟨#[]⟩) ⟨by show n * s.size + 0 ≤ _; omega, hn⟩
  simp only at hI hm ⊢
  refine W.to (fun k _ => by rw [spec_l23Many.L0_step]) ?_
  refine B.ite (fun hlt => ?_) fun hlt => ?_
  rotate_left
  · try simp only [q_bind_some, castInt_int, q_castBool, q_castStr, q_castPtr, q_castFn, q_castAgg, q_castTuple, q_uncons, q_isNil, q_sl, q_nils, q_emp, q_ptr, q_nilp, q_fn, q_cond_true, q_cond_false, Bool.not_true, Bool.not_false, decide_true, decide_false, List.cons_append, List.nil_append, spec_l23Many.A0_x0]
    exact W.ret ⟨rfl, b, rfl, by omega⟩
  have hm0 : 0 < m := by omega
  have ha : a.size ≤ m * a.size := Nat.le_mul_of_pos_left _ hm0
  have z1 : b.size + a.size ≤ 2 ^ 62 := by rw [e62]; omega
  have z2 : a.size + a.size ≤ 2 ^ 62 := by rw [e62]; omega
  have hw : IntKind.wrap .i64 (Int.tdiv (m : Int) 2) = ((m / 2 : Nat) : Int) := by
    rw [Int.tdiv_eq_ediv_of_nonneg (by omega), wrap_id (by omega) (by omega)]
    omega
  have hs : (a ++ a).size = a.size + a.size := ByteArray.size_append
  have hs2 : (b ++ a).size = b.size + a.size := ByteArray.size_append
  obtain ⟨q, hq⟩ : ∃ q, m / 2 = q := ⟨_, rfl⟩
  refine B.ite (fun ho => ?_) fun ho => ?_
  · rw [Int.tmod_eq_emod_of_nonneg (by omega)] at ho
    have hmq : m = 2 * q + 1 := by omega
    have e : m * a.size = 2 * (q * a.size) + a.size := by rw [hmq, Nat.add_mul, Nat.mul_assoc]; omega
    try simp only [q_bind_some, castInt_int, q_castBool, q_castStr, q_castPtr, q_castFn, q_castAgg, q_castTuple, q_uncons, q_isNil, q_sl, q_nils, q_emp, q_ptr, q_nilp, q_fn, q_cond_true, q_cond_false, Bool.not_true, Bool.not_false, decide_true, decide_false, List.cons_append, List.nil_append, if_pos z1, if_pos z2, hw]
    refine W.again (a ++ a, m / 2, b ++ a) ⟨?_, by show m / 2 ≤ _; omega⟩ (by simp only; omega) rfl rfl
    show m / 2 * (a ++ a).size + (b ++ a).size ≤ _
    rw [hs, hs2, hq, Nat.mul_add]
    omega
  · rw [Int.tmod_eq_emod_of_nonneg (by omega)] at ho
    have hmq : m = 2 * q := by omega
    have e : m * a.size = 2 * (q * a.size) := by rw [hmq, Nat.mul_assoc]
    try simp only [q_bind_some, castInt_int, q_castBool, q_castStr, q_castPtr, q_castFn, q_castAgg, q_castTuple, q_uncons, q_isNil, q_sl, q_nils, q_emp, q_ptr, q_nilp, q_fn, q_cond_true, q_cond_false, Bool.not_true, Bool.not_false, decide_true, decide_false, List.cons_append, List.nil_append, if_pos z2, hw]
    refine W.again (a ++ a, m / 2, b) ⟨?_, by show m / 2 ≤ _; omega⟩ (by simp only; omega) rfl rfl
    show m / 2 * (a ++ a).size + b.size ≤ _
    rw [hs, hq, Nat.mul_add]
    omega
theorem drawCut_step (k m : Nat) (a1 : V) (s2 : ByteArray) (n3 : Int) (σ : Heap) : spec_DrawLexCut.L0 k (m + 1) [.v a1, .v (.str s2), .v (.int .i64 n3)] σ = (bif decide (0 < n3) then ((hcall G k n_pspec_l23Rd_of [a1, (.sl σ.length 0 17 true)] (hnew σ 1 (lits17.map .str))).bind fun q4 => castStr q4.1 fun s5 => if s2.size + s5.size ≤ 2 ^ 62 then (spec_DrawLexCut.L0 k m [.v a1, .v (.str (s2 ++ s5)), .v (.int .i64 (IntKind.wrap .i64 (n3 - 1)))] q4.2) else none) else (some (.exit 0, [.bot, .v a1, .v (.str s2)], σ))) := by
  rw [spec_DrawLexCut.L0_step]
  rfl
theorem drawLexCut_ends {σ : Heap} {v : V} {l : List Int} (h : RepS 1 U8P σ v l) (hl : ∀ x, x ∈ l → 0 ≤ x ∧ x ≤ 255) :
    HM.Ends G n_spec_DrawLexCut [v] σ (fun w σ' => ∃ t, w = .str t ∧ Lh σ σ') := by
  refine HM.Ends.mk (W.to (fun k _ => spec_DrawLexCut.eq k _ _) ?_)
  have e62 : (2 : Nat) ^ 62 = 4611686018427387904 := by decide
  obtain ⟨σ1, ub, lb, c1, d1, n1, l1⟩ := open_ends h hl
  refine W.run c1 ?_
  obtain ⟨i0, σ2, c2, hi0, d2, o2⟩ := pick_ends (n := 20) d1 (by omega) (by omega) (by omega)
  refine W.run c2 ?_
  try simp only [q_bind_some, castInt_int, q_castBool, q_castStr, q_castPtr, q_castFn, q_castAgg, q_castTuple, q_uncons, q_isNil, q_sl, q_nils, q_emp, q_ptr, q_nilp, q_fn, q_cond_true, q_cond_false, Bool.not_true, Bool.not_false, decide_true, decide_false, List.cons_append, List.nil_append]
  have low : ∀ {σ' : Heap}, σ.length ≤ σ'.length → (∀ j, j < σ.length → σ'[j]? = σ1[j]?) → Lh σ σ' := fun hlen hj => ⟨hlen, fun j row hr => by
    have := get_lt hr
    rw [hj j this]
    exact l1.row _ _ hr⟩
  refine W.loop (S := Nat × ByteArray × Heap × Nat) (fun s => s.1 ≤ 20 ∧ s.2.1.size + 3 * s.1 ≤ 60 ∧ Dr ub lb s.2.2.1 σ.length s.2.2.2 ∧ s.2.2.2 + s.1 ≤ 30 ∧ σ1.length ≤ s.2.2.1.length ∧ ∀ j, j < σ.length → s.2.2.1[j]? = σ1[j]?)
    (fun s => [.v (.ptr σ.length 0), .v (.str s.2.1), .v (.int .i64 (s.1 : Int))]) (fun s => s.2.2.1) (fun s => s.1) (fun ⟨m, t, σi, pi⟩ hI => ?_)
    (i0, ⟨#[]⟩, σ2, 0 + 1) ⟨by simp only; omega, by show 0 + 3 * i0 ≤ 60; omega, d2, by simp only; omega, by show σ1.length ≤ σ2.length; rw [o2.1]; exact Nat.le_refl _, fun j hj => o2.2 j (by omega)⟩
  obtain ⟨hm, hsz, hd, hp, hlen, hlow⟩ := hI
  simp only at hm hsz hd hp hlen hlow ⊢
  refine W.to (fun k _ => by rw [drawCut_step]) ?_
  refine B.ite (fun hm0 => ?_) fun hm0 => ?_
  · have lL : Lh σi (hnew σi 1 (lits17.map .str)) := Lh.new _ _ _
    have hlit : RepS 1 StrRep (hnew σi 1 (lits17.map .str)) (.sl σi.length 0 17 true) lits17 := RepS.lit (P := StrRep) σi lits17 .str (fun _ => rfl) true 17 rfl
    obtain ⟨s, σ3, c3, hs, d3, o3⟩ := of_ends (hd.le lL) (by omega) hlit (by decide) (by decide)
    have hss := lits17_small _ hs
    have em : IntKind.wrap .i64 ((m : Int) - 1) = ((m - 1 : Nat) : Int) := by rw [wrap_id (by omega) (by omega)]; omega
    have z1 : t.size + s.size ≤ 2 ^ 62 := by rw [e62]; omega
    have hts : (t ++ s).size = t.size + s.size := ByteArray.size_append
    refine B.run c3 ?_
    try simp only [q_bind_some, castInt_int, q_castBool, q_castStr, q_castPtr, q_castFn, q_castAgg, q_castTuple, q_uncons, q_isNil, q_sl, q_nils, q_emp, q_ptr, q_nilp, q_fn, q_cond_true, q_cond_false, Bool.not_true, Bool.not_false, decide_true, decide_false, List.cons_append, List.nil_append, if_pos z1, em]
    refine W.again (m - 1, t ++ s, σ3, pi + 1) ⟨by show m - 1 ≤ 20; omega, by show (t ++ s).size + _ ≤ _; omega, d3, by simp only; omega, by show σ1.length ≤ σ3.length; rw [o3.1]; exact Nat.le_trans hlen lL.len, fun j hj => ?_⟩ (by simp only; omega) rfl rfl
    show σ3[j]? = _
    rw [o3.2 j (by omega), hnew, List.getElem?_append_left (by omega)]
    exact hlow j hj
  · try simp only [q_bind_some, castInt_int, q_castBool, q_castStr, q_castPtr, q_castFn, q_castAgg, q_castTuple, q_uncons, q_isNil, q_sl, q_nils, q_emp, q_ptr, q_nilp, q_fn, q_cond_true, q_cond_false, Bool.not_true, Bool.not_false, decide_true, decide_false, List.cons_append, List.nil_append, spec_DrawLexCut.A0_x0]
    obtain ⟨i3, σ3, c3, hi3, d3, o3⟩ := pick_ends (n := 40) hd (by omega) (by omega) (by omega)
    refine W.run c3 ?_
    try simp only [q_bind_some, castInt_int, q_castBool, q_castStr, q_castPtr, q_castFn, q_castAgg, q_castTuple, q_uncons, q_isNil, q_sl, q_nils, q_emp, q_ptr, q_nilp, q_fn, q_cond_true, q_cond_false, Bool.not_true, Bool.not_false, decide_true, decide_false, List.cons_append, List.nil_append]
    have low3 : ∀ j, j < σ.length → σ3[j]? = σ1[j]? := fun j hj => by rw [o3.2 j (by omega)]; exact hlow j hj
    have hlen3 : σ1.length ≤ σ3.length := by rw [o3.1]; exact hlen
    refine W.ite (fun k0 => ?_) fun k0 => W.ite (fun k1 => ?_) fun k1 => ?_
    · obtain ⟨i4, σ4, c4, hi4, d4, o4⟩ := pick_ends (n := 2) d3 (by omega) (by omega) (by omega)
      refine W.run c4 ?_
      have hw : IntKind.wrap .i64 ((IntKind.wrap .i64 (4000 - (t.size : Int))) + (i4 : Int)) = ((4000 - t.size + i4 : Nat) : Int) := by
        rw [wrap_id (n := 4000 - (t.size : Int)) (by omega) (by omega), wrap_id (by omega) (by omega)]
        omega
      try simp only [q_bind_some, castInt_int, q_castBool, q_castStr, q_castPtr, q_castFn, q_castAgg, q_castTuple, q_uncons, q_isNil, q_sl, q_nils, q_emp, q_ptr, q_nilp, q_fn, q_cond_true, q_cond_false, Bool.not_true, Bool.not_false, decide_true, decide_false, List.cons_append, List.nil_append, hw]
      refine W.call (many_ends (by show _ * 1 ≤ _; omega) (by decide)) ?_
      rintro _ _ ⟨rfl, b, rfl, hb⟩
      have z1 : t.size + b.size ≤ 2 ^ 62 := by rw [e62]; omega
      try simp only [q_bind_some, castInt_int, q_castBool, q_castStr, q_castPtr, q_castFn, q_castAgg, q_castTuple, q_uncons, q_isNil, q_sl, q_nils, q_emp, q_ptr, q_nilp, q_fn, q_cond_true, q_cond_false, Bool.not_true, Bool.not_false, decide_true, decide_false, List.cons_append, List.nil_append, if_pos z1]
      exact W.ret ⟨_, rfl, low (by rw [o4.1]; omega) fun j hj => by rw [o4.2 j (by omega)]; exact low3 j hj⟩
    · obtain ⟨i4, σ4, c4, hi4, d4, o4⟩ := pick_ends (n := 2) d3 (by omega) (by omega) (by omega)
      refine W.run c4 ?_
      have hw : IntKind.wrap .i64 (1500 + (i4 : Int)) = ((1500 + i4 : Nat) : Int) := by
        rw [wrap_id (by omega) (by omega)]
        omega
      try simp only [q_bind_some, castInt_int, q_castBool, q_castStr, q_castPtr, q_castFn, q_castAgg, q_castTuple, q_uncons, q_isNil, q_sl, q_nils, q_emp, q_ptr, q_nilp, q_fn, q_cond_true, q_cond_false, Bool.not_true, Bool.not_false, decide_true, decide_false, List.cons_append, List.nil_append, hw]
      refine W.call (many_ends (by show _ * 1 ≤ _; omega) (by decide)) ?_
      rintro _ _ ⟨rfl, b, rfl, hb⟩
      try simp only [q_bind_some, castInt_int, q_castBool, q_castStr, q_castPtr, q_castFn, q_castAgg, q_castTuple, q_uncons, q_isNil, q_sl, q_nils, q_emp, q_ptr, q_nilp, q_fn, q_cond_true, q_cond_false, Bool.not_true, Bool.not_false, decide_true, decide_false, List.cons_append, List.nil_append]
      exact W.ret ⟨_, rfl, low (by rw [o4.1]; omega) fun j hj => by rw [o4.2 j (by omega)]; exact low3 j hj⟩
    · exact W.ret ⟨_, rfl, low (by omega) low3⟩
end Go.A
