/- Lists that are the same; places of texts. -/
import Derived.Test.YtghkdjfgbaoplaaDraw2
set_option linter.unusedVariables false
set_option linter.unusedSimpArgs false
namespace Go.B
open Go.HM Go.Proofs
theorem wlSame_runs {σ : Heap} {v w : V} {l : List ByteArray} (hl : l.length ≤ 1073741824) (h : RepS 1 StrRep σ v l) (g : RepS 1 StrRep σ w l) : Runs G n_laws_wlSame [v, w] σ (.bool true) σ := by
  refine Runs.of (W.to (fun k _ => laws_wlSame.eq k _ _ _) ?_)
  refine W.len h (W.len g ?_)
  try simp only [q_bind_some, castInt_int, q_castBool, q_castStr, q_castPtr, q_castFn, q_castAgg, q_castTuple, q_uncons, q_isNil, q_sl, q_nils, q_emp, q_ptr, q_nilp, q_fn, q_cond_true, q_cond_false, Bool.not_true, Bool.not_false, decide_true, decide_false, List.cons_append, List.nil_append, ]
  refine W.loop (S := Nat) (fun i => i ≤ l.length) (fun i => [.v v, .v w, .v (.int .i64 (i : Int))]) (fun _ => σ) (fun i => l.length - i) (fun i hi => ?_) 0 (Nat.zero_le _)
  refine W.to (fun k _ => by rw [laws_wlSame.L0_step]) ?_
  refine B.len h (B.ite (fun hlt => ?_) fun hlt => ?_)
  · have hil : i < l.length := by omega
    obtain ⟨r1, o1, hv1, c1, hr1, hp1⟩ := h.at hil
    obtain ⟨r2, o2, hv2, c2, hr2, hp2⟩ := g.at hil
    unfold StrRep at hp1 hp2
    subst hp1 hp2
    try simp only [q_bind_some, castInt_int, q_castBool, q_castStr, q_castPtr, q_castFn, q_castAgg, q_castTuple, q_uncons, q_isNil, q_sl, q_nils, q_emp, q_ptr, q_nilp, q_fn, q_cond_true, q_cond_false, Bool.not_true, Bool.not_false, decide_true, decide_false, List.cons_append, List.nil_append, hv1, hr1, hv2, hr2, wrap_next hil (by omega)]
    exact W.again (i + 1) (by show i + 1 ≤ l.length; omega) (by omega) rfl rfl
  · try simp only [q_bind_some, castInt_int, q_castBool, q_castStr, q_castPtr, q_castFn, q_castAgg, q_castTuple, q_uncons, q_isNil, q_sl, q_nils, q_emp, q_ptr, q_nilp, q_fn, q_cond_true, q_cond_false, Bool.not_true, Bool.not_false, decide_true, decide_false, List.cons_append, List.nil_append, laws_wlSame.A0_x0]
    exact W.ret ⟨rfl, rfl⟩
theorem wgPlace_runs {σ : Heap} {v : V} {l : List ByteArray} (hl : l.length ≤ 1073741824) (h : RepS 1 StrRep σ v l) (s : ByteArray) : Runs G n_laws_wgPlace [v, .str s] σ (.int .i64 (fidx (fun x => decide (x = s)) l)) σ := by
  refine Runs.of (W.to (fun k _ => laws_wgPlace.eq k _ _ _) ?_)
  refine W.loop (S := Nat) (fun i => i ≤ l.length ∧ ∀ (j : Nat) x, j < i → l[j]? = some x → decide (x = s) = false) (fun i => [.v v, .v (.str s), .v (.int .i64 (i : Int))]) (fun _ => σ) (fun i => l.length - i) (fun i ⟨hi, hno⟩ => ?_) 0 ⟨Nat.zero_le _, fun j x hj => absurd hj (Nat.not_lt_zero _)⟩
  refine W.to (fun k _ => by rw [laws_wgPlace.L0_step]) ?_
  refine B.len h (B.ite (fun hlt => ?_) fun hlt => ?_)
  · have hil : i < l.length := by omega
    have hx : l[i]? = some l[i] := List.getElem?_eq_getElem hil
    obtain ⟨r1, o1, hv1, c1, hr1, hp1⟩ := h.at hil
    unfold StrRep at hp1
    subst hp1
    try simp only [q_bind_some, castInt_int, q_castBool, q_castStr, q_castPtr, q_castFn, q_castAgg, q_castTuple, q_uncons, q_isNil, q_sl, q_nils, q_emp, q_ptr, q_nilp, q_fn, q_cond_true, q_cond_false, Bool.not_true, Bool.not_false, decide_true, decide_false, List.cons_append, List.nil_append, hv1, hr1]
    refine B.ite (fun he => ?_) fun he => ?_
    · try simp only [q_bind_some, castInt_int, q_castBool, q_castStr, q_castPtr, q_castFn, q_castAgg, q_castTuple, q_uncons, q_isNil, q_sl, q_nils, q_emp, q_ptr, q_nilp, q_fn, q_cond_true, q_cond_false, Bool.not_true, Bool.not_false, decide_true, decide_false, List.cons_append, List.nil_append, laws_wgPlace.A0_ret]
      exact W.ret ⟨by rw [fidx_at hx (by simp [he]) hno], rfl⟩
    · try simp only [q_bind_some, castInt_int, q_castBool, q_castStr, q_castPtr, q_castFn, q_castAgg, q_castTuple, q_uncons, q_isNil, q_sl, q_nils, q_emp, q_ptr, q_nilp, q_fn, q_cond_true, q_cond_false, Bool.not_true, Bool.not_false, decide_true, decide_false, List.cons_append, List.nil_append, wrap_next hil (by omega)]
      refine W.again (i + 1) ⟨by show i + 1 ≤ l.length; omega, fun j x hj hxj => ?_⟩ (by omega) rfl rfl
      by_cases hij : j = i
      · subst hij
        rw [hx] at hxj
        injection hxj with hxj
        subst hxj
        simp [he]
      · exact hno j x (by omega) hxj
  · try simp only [q_bind_some, castInt_int, q_castBool, q_castStr, q_castPtr, q_castFn, q_castAgg, q_castTuple, q_uncons, q_isNil, q_sl, q_nils, q_emp, q_ptr, q_nilp, q_fn, q_cond_true, q_cond_false, Bool.not_true, Bool.not_false, decide_true, decide_false, List.cons_append, List.nil_append, laws_wgPlace.A0_x0]
    refine W.ret ⟨by rw [fidx_none fun j y hy => hno j y (by have := lt_of_get hy; omega) hy], rfl⟩
theorem place_ge {l : List ByteArray} {s : ByteArray} : 0 ≤ fidx (fun x => decide (x = s)) l ↔ s ∈ l := by
  have h := fidx_any (p := fun x => decide (x = s)) l
  constructor
  · intro h0
    have h1 : l.any (fun x => decide (x = s)) = true := by rw [← h]; simp [h0]
    obtain ⟨x, hx, he⟩ := List.any_eq_true.1 h1
    simp at he
    rw [← he]; exact hx
  · intro hm
    have h1 : l.any (fun x => decide (x = s)) = true := List.any_eq_true.2 ⟨s, hm, by simp⟩
    rw [← h] at h1
    simpa using h1
theorem RepS.upto {α : Type} {esz : Nat} {P : List V → α → Prop} {σ : Heap} {v : V} {l : List α} (h : RepS esz P σ v l) (hne : v ≠ .emp) {i : Nat} (hi : i ≤ l.length) : ∃ u, vslice esz v none (some (i : Int)) = some u ∧ RepS esz P σ u (l.take i) := by
  rcases Nat.lt_or_ge i l.length with hlt | hge
  · exact h.first hlt
  · have e : i = l.length := by omega
    subst e
    rw [List.take_length]
    cases h with
    | nils => exact ⟨.nils, by simp [vslice], .nils⟩
    | emp => exact absurd rfl hne
    | sl r o n lim row l h1 h2 h3 h4 h5 =>
      subst h1
      exact ⟨.sl r o l.length (lim && decide (((l.length : Nat) : Int) = (l.length : Int))), by simp [vslice], .sl r o _ _ row l rfl h2 h3 h4 h5⟩
theorem drawOrder_ends {σ : Heap} {v : V} {l : List Int} (h : RepS 1 U8P σ v l) (hl : ∀ x, x ∈ l → 0 ≤ x ∧ x ≤ 255) :
    ∃ w σ' nodes, Runs G n_spec_DrawGraphOrder [v] σ w σ' ∧ RepS 2 (GraphNode.Rep σ') σ' w nodes ∧ nodes.length ≤ 10 ∧ (∀ x, x ∈ nodes → Small x) ∧ 1 ≤ σ'.length := by
  suffices hE : HM.Ends G n_spec_DrawGraphOrder [v] σ (fun w σ' => ∃ nodes, RepS 2 (GraphNode.Rep σ') σ' w nodes ∧ nodes.length ≤ 10 ∧ (∀ x, x ∈ nodes → Small x) ∧ 1 ≤ σ'.length) by
    obtain ⟨w, σ', ⟨l, hp⟩, hr⟩ := hE
    exact ⟨w, σ', l, hr, hp⟩
  refine HM.Ends.mk (W.to (fun k _ => spec_DrawGraphOrder.eq k _ _) ?_)
  obtain ⟨σ1, u, k, c1, d1, n1, l1⟩ := open_ends h hl
  refine W.run c1 ?_
  obtain ⟨w, σ2, nodes, c2, r2, k2, h2, h3⟩ := nodes_ends d1 (by omega)
  refine W.run c2 ?_
  try simp only [q_bind_some, castInt_int, q_castBool, q_castStr, q_castPtr, q_castFn, q_castAgg, q_castTuple, q_uncons, q_isNil, q_sl, q_nils, q_emp, q_ptr, q_nilp, q_fn, q_cond_true, q_cond_false, Bool.not_true, Bool.not_false, decide_true, decide_false, List.cons_append, List.nil_append]
  exact W.ret ⟨nodes, r2, h2, h3, by have := k2.1; omega⟩
def lits6 : List ByteArray := [⟨#[97]⟩, ⟨#[98]⟩, ⟨#[99]⟩, ⟨#[100]⟩, ⟨#[101]⟩, ⟨#[110, 111, 110, 101]⟩]
theorem draw_step (k m : Nat) (a1 : V) (a2 : V) (n3 : Int) (σ : Heap) : spec_DrawGraphBehind.L0 k (m + 1) [.v a1, .v a2, .v (.int .i64 n3)] σ = (bif decide (0 < n3) then ((hcall G k n_pspec_l23Rd_of [a1, (.sl σ.length 0 6 true)] (hnew σ 1 (lits6.map .str))).bind fun q4 => castStr q4.1 fun s5 => (vappend 1 16 q4.2 a2 1 [.str s5]).bind fun q6 => spec_DrawGraphBehind.L0 k m [.v a1, .v q6.1, .v (.int .i64 (IntKind.wrap .i64 (n3 - 1)))] q6.2) else (some (.exit 0, [.bot, .bot, .v a1, .v a2], σ))) := by
  rw [spec_DrawGraphBehind.L0_step]
  rfl
theorem drawBehind_ends {σ : Heap} {v : V} {l : List Int} (h : RepS 1 U8P σ v l) (hl : ∀ x, x ∈ l → 0 ≤ x ∧ x ≤ 255) :
    ∃ w u σ' nodes names, Runs G n_spec_DrawGraphBehind [v] σ (.tuple [w, u]) σ' ∧ RepS 2 (GraphNode.Rep σ') σ' w nodes ∧ nodes.length ≤ 10 ∧ (∀ x, x ∈ nodes → Small x) ∧ RepS 1 StrRep σ' u names ∧ names.length ≤ 3 ∧ u ≠ .emp := by
  suffices hE : HM.Ends G n_spec_DrawGraphBehind [v] σ (fun t σ' => ∃ w u nodes names, t = .tuple [w, u] ∧ RepS 2 (GraphNode.Rep σ') σ' w nodes ∧ nodes.length ≤ 10 ∧ (∀ x, x ∈ nodes → Small x) ∧ RepS 1 StrRep σ' u names ∧ names.length ≤ 3 ∧ u ≠ .emp) by
    obtain ⟨t, σ', ⟨w, u, nodes, names, rfl, hp⟩, hr⟩ := hE
    exact ⟨w, u, σ', nodes, names, hr, hp⟩
  refine HM.Ends.mk (W.to (fun k _ => spec_DrawGraphBehind.eq k _ _) ?_)
  obtain ⟨σ1, ub, lb, c1, d1, n1, l1⟩ := open_ends h hl
  refine W.run c1 ?_
  have hb1 : RepS 1 U8P σ1 ub lb := by obtain ⟨ty, _, hb, _⟩ := d1; exact hb
  have lN : Lh σ1 (hnew σ1 1 []) := Lh.new _ _ _
  obtain ⟨i0, σ2, c2, hi0, d2, o2⟩ := pick_ends (n := 3) (d1.le lN) (by omega) (by omega) (by omega)
  refine W.run c2 ?_
  try simp only [q_bind_some, castInt_int, q_castBool, q_castStr, q_castPtr, q_castFn, q_castAgg, q_castTuple, q_uncons, q_isNil, q_sl, q_nils, q_emp, q_ptr, q_nilp, q_fn, q_cond_true, q_cond_false, Bool.not_true, Bool.not_false, decide_true, decide_false, List.cons_append, List.nil_append]
  have hS0 : StrRow σ2 σ1.length [] := ⟨0, by rw [o2.2 _ (by omega)]; simp [hnew]⟩
  refine W.loop (S := Nat × List ByteArray × V × Heap × Nat) (fun s => s.1 + s.2.1.length ≤ 3 ∧ GrS σ1.length s.2.2.2.1 s.2.2.1 s.2.1 ∧ K1 σ1 s.2.2.2.1 ∧ Dr ub lb s.2.2.2.1 σ.length s.2.2.2.2 ∧ s.2.2.2.2 + s.1 ≤ 10)
    (fun s => [.v (.ptr σ.length 0), .v s.2.2.1, .v (.int .i64 (s.1 : Int))]) (fun s => s.2.2.2.1) (fun s => s.1) (fun ⟨m, names, u, σi, pi⟩ hI => ?_)
    (i0, [], .sl σ1.length 0 0 true, σ2, 0 + 1) ⟨by simp only [List.length_nil]; omega, ⟨σ1.length, true, Nat.le_refl _, rfl, hS0⟩, (K1.lh lN).trans (K1.off (d1.le lN) o2), d2, by simp only; omega⟩
  obtain ⟨hm, hG, hk, hd, hp⟩ := hI
  simp only at hm hG hk hd hp ⊢
  refine W.to (fun k _ => by rw [draw_step]) ?_
  refine B.ite (fun hm0 => ?_) fun hm0 => ?_
  · have lL : Lh σi (hnew σi 1 (lits6.map .str)) := Lh.new _ _ _
    have hlit : RepS 1 StrRep (hnew σi 1 (lits6.map .str)) (.sl σi.length 0 6 true) lits6 := RepS.lit (P := StrRep) σi lits6 .str (fun _ => rfl) true 6 rfl
    obtain ⟨s, σ3, c3, hs, d3, o3⟩ := of_ends (hd.le lL) (by omega) hlit (by decide) (by decide)
    refine B.run c3 ?_
    try simp only [q_bind_some, castInt_int, q_castBool, q_castStr, q_castPtr, q_castFn, q_castAgg, q_castTuple, q_uncons, q_isNil, q_sl, q_nils, q_emp, q_ptr, q_nilp, q_fn, q_cond_true, q_cond_false, Bool.not_true, Bool.not_false, decide_true, decide_false, List.cons_append, List.nil_append]
    obtain ⟨q, lim, hq, rfl, hS⟩ := hG.le lL
    have hS3 : StrRow σ3 q names := hS.keep (o3.2 q (by omega))
    have hk3 := hk.trans ((K1.lh lL).trans (K1.off (hd.le lL) o3))
    obtain ⟨σ4, ha, hS4, hl4, hk4⟩ := GrS.app (lim := lim) hS3 s (by omega)
    have em : IntKind.wrap .i64 ((m : Int) - 1) = ((m - 1 : Nat) : Int) := by rw [wrap_id (by omega) (by omega)]; omega
    have hlen3 := hk3.1
    have kk : K1 σ1 σ4 := ⟨by omega, fun j row hj he => by
      have := get_lt hj
      rw [hk4 j (by omega) (by omega)]
      exact hk3.2 j row hj he⟩
    try simp only [q_bind_some, castInt_int, q_castBool, q_castStr, q_castPtr, q_castFn, q_castAgg, q_castTuple, q_uncons, q_isNil, q_sl, q_nils, q_emp, q_ptr, q_nilp, q_fn, q_cond_true, q_cond_false, Bool.not_true, Bool.not_false, decide_true, decide_false, List.cons_append, List.nil_append, ha, em]
    refine W.again (m - 1, names ++ [s], _, σ4, pi + 1) ⟨by simp; omega, ⟨σ3.length, false, hlen3, rfl, hS4⟩, kk, ?_, by simp only; omega⟩ (by simp only; omega) rfl rfl
    obtain ⟨ty, g1, g2, g3⟩ := d3
    exact ⟨ty, by rw [hk4 _ (by omega) (by omega)]; exact g1, RepS.k1 hb1 kk, g3⟩
  · try simp only [q_bind_some, castInt_int, q_castBool, q_castStr, q_castPtr, q_castFn, q_castAgg, q_castTuple, q_uncons, q_isNil, q_sl, q_nils, q_emp, q_ptr, q_nilp, q_fn, q_cond_true, q_cond_false, Bool.not_true, Bool.not_false, decide_true, decide_false, List.cons_append, List.nil_append, spec_DrawGraphBehind.A0_x0]
    obtain ⟨w, σ2, nodes, c2, r2, k2, h2, h3⟩ := nodes_ends hd (by omega)
    refine W.run c2 ?_
    try simp only [q_bind_some, castInt_int, q_castBool, q_castStr, q_castPtr, q_castFn, q_castAgg, q_castTuple, q_uncons, q_isNil, q_sl, q_nils, q_emp, q_ptr, q_nilp, q_fn, q_cond_true, q_cond_false, Bool.not_true, Bool.not_false, decide_true, decide_false, List.cons_append, List.nil_append]
    refine W.ret ⟨w, u, nodes, names, rfl, r2, h2, h3, RepS.k1 (hG.rep fun _ => rfl) k2, by omega, ?_⟩
    obtain ⟨q, lim, _, rfl, _⟩ := hG
    simp
end Go.B
