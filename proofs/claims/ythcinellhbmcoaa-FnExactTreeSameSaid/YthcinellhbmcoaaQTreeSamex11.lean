-- written by xprint.py, a program of this session, out of the translation: Lean checks it
import Derived.Test.YthcinellhbmcoaaQTreeSamex0
import Derived.Test.YthcinellhbmcoaaQTreeSamex2
import Derived.Test.YthcinellhbmcoaaQTreeSamex5
import Derived.Test.YthcinellhbmcoaaQTreeSamex6
import Derived.Test.YthcinellhbmcoaaQTreeSamex8
import Derived.Test.YthcinellhbmcoaaQTreeSamex10
namespace Go.Proofs.Ythcinellhbmcoaa.Q
open Go.RowKit Go.Proofs.YthcinellhbmcoaaW.PrintWords Go.Proofs.YthcinellhbmcoaaW.PrintLast Go.Proofs.YthcinellhbmcoaaW.PrintMore
attribute [local go_sem] max2_int min2_int max_two min_two max_three min_three max_four min_four   -- for this text's walks alone
set_option linter.unusedVariables false
set_option linter.unusedSimpArgs false

/-! ### laws_FnExactTreeSame: function 3 -/
def laws_FnExactTreeSame.f (k : Nat) (l0_0 : List ByteArray) (l0_1 : List (S149)) (l0_2 : List (S78)) (l1_0 : List ByteArray) (l1_1 : List (S149)) (l1_2 : List (S78)) : Option (Bool) := (laws_szTreeMod.f k l0_0 l0_1 l0_2 1048576).bind fun t268 => (if t268 < 0 then (some true) else ((laws_szTreeMod.f k l1_0 l1_1 l1_2 t268).bind fun t269 => (if t269 < 0 then (some true) else ((laws_toTreeMod.f k l0_0 l0_1 l0_2).bind fun bt270 => ((laws_toTreeMod.f k l1_0 l1_1 l1_2).bind fun bt279 => ((spec_TreeSame.f k bt270.1 bt270.2.1 bt270.2.2 bt279.1 bt279.2.1 bt279.2.2).bind fun t288 => ((laws_toTreeMod.f k l0_0 l0_1 l0_2).bind fun bt289 => ((laws_toTreeMod.f k l1_0 l1_1 l1_2).bind fun bt299 => ((impl_TreeSame.f k bt289.1 bt289.2.1 bt289.2.2 bt299.1 bt299.2.1 bt299.2.2).bind fun t309 => (if (t309 != t288) = true then (some false) else ((laws_toTreeMod.f k l0_0 l0_1 l0_2).bind fun bt310 => ((laws_eqTreeMod.f k bt289.1 bt289.2.1 bt289.2.2 bt310.1 bt310.2.1 bt310.2.2).bind fun t319 => (if t319 = true then ((laws_toTreeMod.f k l1_0 l1_1 l1_2).bind fun bt320 => ((laws_eqTreeMod.f k bt299.1 bt299.2.1 bt299.2.2 bt320.1 bt320.2.1 bt320.2.2).bind fun t329 => (if t329 = true then (some true) else (some false)))) else (some false))))))))))))))
theorem laws_FnExactTreeSame.mono : ∀ a0 a1 a2 a3 a4 a5 k, LeO (laws_FnExactTreeSame.f k a0 a1 a2 a3 a4 a5) (laws_FnExactTreeSame.f (k + 1) a0 a1 a2 a3 a4 a5) := by
  intro a0 a1 a2 a3 a4 a5 k
  unfold laws_FnExactTreeSame.f
  repeat' first
      | (with_reducible exact impl_TreeSame.mono _ _ _ _ _ _ _)
      | (with_reducible exact laws_eqTreeMod.mono _ _ _ _ _ _ _)
      | (with_reducible exact laws_szTreeMod.mono _ _ _ _ _)
      | (with_reducible exact laws_toTreeMod.mono _ _ _ _)
      | (with_reducible exact spec_TreeSame.mono _ _ _ _ _ _ _)
      | (with_reducible exact LeO.refl _)
      | (with_reducible exact LeO.none _)
      | (with_reducible refine LeO.ite ?_ ?_)
      | (with_reducible refine LeO.bind ?_ (fun _ => ?_))
      | exact impl_TreeSame.mono _ _ _ _ _ _ _
      | exact laws_eqTreeMod.mono _ _ _ _ _ _ _
      | exact laws_szTreeMod.mono _ _ _ _ _
      | exact laws_toTreeMod.mono _ _ _ _
      | exact spec_TreeSame.mono _ _ _ _ _ _ _
      | exact LeO.none _
      | refine LeO.ite ?_ ?_
      | refine LeO.bind ?_ (fun _ => ?_)
set_option maxHeartbeats 8000000 in
set_option maxRecDepth 100000 in
theorem laws_FnExactTreeSame.calls (k : Nat) (A0_0 : Option Addr) (c0_0 : Nat) (l0_0 : List ByteArray) (A0_1 : Option Addr) (c0_1 : Nat) (l0_1 : List (S149)) (A0_2 : Option Addr) (c0_2 : Nat) (l0_2 : List (S78)) (A1_0 : Option Addr) (c1_0 : Nat) (l1_0 : List ByteArray) (A1_1 : Option Addr) (c1_1 : Nat) (l1_1 : List (S149)) (A1_2 : Option Addr) (c1_2 : Nat) (l1_2 : List (S78)) (r : Bool) (w : World) (hr0_0 : Kd.C Kd.string w A0_0 l0_0.length l0_0) (hc0_0 : l0_0.length ≤ c0_0) (hr0_1 : Kd.C k149 w A0_1 l0_1.length l0_1) (hc0_1 : l0_1.length ≤ c0_1) (hr0_2 : Kd.C k78 w A0_2 l0_2.length l0_2) (hc0_2 : l0_2.length ≤ c0_2) (hr1_0 : Kd.C Kd.string w A1_0 l1_0.length l1_0) (hc1_0 : l1_0.length ≤ c1_0) (hr1_1 : Kd.C k149 w A1_1 l1_1.length l1_1) (hc1_1 : l1_1.length ≤ c1_1) (hr1_2 : Kd.C k78 w A1_2 l1_2.length l1_2) (hc1_2 : l1_2.length ≤ c1_2) (h : laws_FnExactTreeSame.f k l0_0 l0_1 l0_2 l1_0 l1_1 l1_2 = some r) :
    Calls Try.prog 3 #[.agg #[.slice A0_0 l0_0.length c0_0, .slice A0_1 l0_1.length c0_1, .slice A0_2 l0_2.length c0_2], .agg #[.slice A1_0 l1_0.length c1_0, .slice A1_1 l1_1.length c1_1, .slice A1_2 l1_2.length c1_2]] w fun e w' => e = .returned (.bool r) ∧ Below w.heap.size w w' := by
  have hu26 := Try.underlying26
  have hu32 := Try.underlying32
  have HR0_0 := Aside0.mk hr0_0
  have HC0_0 := Aside0.mk hc0_0
  clear hr0_0 hc0_0
  have HR0_1 := Aside0.mk hr0_1
  have HC0_1 := Aside0.mk hc0_1
  clear hr0_1 hc0_1
  have HR0_2 := Aside0.mk hr0_2
  have HC0_2 := Aside0.mk hc0_2
  clear hr0_2 hc0_2
  have HR1_0 := Aside0.mk hr1_0
  have HC1_0 := Aside0.mk hc1_0
  clear hr1_0 hc1_0
  have HR1_1 := Aside0.mk hr1_1
  have HC1_1 := Aside0.mk hc1_1
  clear hr1_1 hc1_1
  have HR1_2 := Aside0.mk hr1_2
  have HC1_2 := Aside0.mk hc1_2
  clear hr1_2 hc1_2
  have HB := Aside0.mk (Below.refl w.heap.size w)
  have H : ((laws_szTreeMod.f k l0_0 l0_1 l0_2 1048576).bind fun t268 => (if t268 < 0 then (some true) else ((laws_szTreeMod.f k l1_0 l1_1 l1_2 t268).bind fun t269 => (if t269 < 0 then (some true) else ((laws_toTreeMod.f k l0_0 l0_1 l0_2).bind fun bt270 => ((laws_toTreeMod.f k l1_0 l1_1 l1_2).bind fun bt279 => ((spec_TreeSame.f k bt270.1 bt270.2.1 bt270.2.2 bt279.1 bt279.2.1 bt279.2.2).bind fun t288 => ((laws_toTreeMod.f k l0_0 l0_1 l0_2).bind fun bt289 => ((laws_toTreeMod.f k l1_0 l1_1 l1_2).bind fun bt299 => ((impl_TreeSame.f k bt289.1 bt289.2.1 bt289.2.2 bt299.1 bt299.2.1 bt299.2.2).bind fun t309 => (if (t309 != t288) = true then (some false) else ((laws_toTreeMod.f k l0_0 l0_1 l0_2).bind fun bt310 => ((laws_eqTreeMod.f k bt289.1 bt289.2.1 bt289.2.2 bt310.1 bt310.2.1 bt310.2.2).bind fun t319 => (if t319 = true then ((laws_toTreeMod.f k l1_0 l1_1 l1_2).bind fun bt320 => ((laws_eqTreeMod.f k bt299.1 bt299.2.1 bt299.2.2 bt320.1 bt320.2.1 bt320.2.2).bind fun t329 => (if t329 = true then (some true) else (some false)))) else (some false))))))))))))))) = some r := h
  clear h
  replace H := Option.bind_eq_some_iff.mp H
  obtain ⟨t268, A30, H⟩ := H
  replace H : (if t268 < 0 then (some true) else ((laws_szTreeMod.f k l1_0 l1_1 l1_2 t268).bind fun t269 => (if t269 < 0 then (some true) else ((laws_toTreeMod.f k l0_0 l0_1 l0_2).bind fun bt270 => ((laws_toTreeMod.f k l1_0 l1_1 l1_2).bind fun bt279 => ((spec_TreeSame.f k bt270.1 bt270.2.1 bt270.2.2 bt279.1 bt279.2.1 bt279.2.2).bind fun t288 => ((laws_toTreeMod.f k l0_0 l0_1 l0_2).bind fun bt289 => ((laws_toTreeMod.f k l1_0 l1_1 l1_2).bind fun bt299 => ((impl_TreeSame.f k bt289.1 bt289.2.1 bt289.2.2 bt299.1 bt299.2.1 bt299.2.2).bind fun t309 => (if (t309 != t288) = true then (some false) else ((laws_toTreeMod.f k l0_0 l0_1 l0_2).bind fun bt310 => ((laws_eqTreeMod.f k bt289.1 bt289.2.1 bt289.2.2 bt310.1 bt310.2.1 bt310.2.2).bind fun t319 => (if t319 = true then ((laws_toTreeMod.f k l1_0 l1_1 l1_2).bind fun bt320 => ((laws_eqTreeMod.f k bt299.1 bt299.2.1 bt299.2.2 bt320.1 bt320.2.1 bt320.2.2).bind fun t329 => (if t329 = true then (some true) else (some false)))) else (some false)))))))))))))) = some r := H
  have A3 := Aside0.mk A30
  clear A30
  by_cases c4 : t268 < 0
  · rw [if_pos c4] at H
    have c4b0 : decide (t268 < 0) = true := decide_eq_true c4
    clear c4
    obtain rfl := Option.some.inj H
    go_enter Try.func3, Try.ntmps3
    go_wp2_with (first | ((with_reducible refine gate_dst (N := 2) rfl ?_); refine box_event ?hg (N := 2) ?hd (cs := #[.slice A0_0 l0_0.length c0_0, .slice A0_1 l0_1.length c0_1, .slice A0_2 l0_2.length c0_2]) (t := 26) ?hr ?_; (case hd => rfl); (case hg => rfl); (case hr => first | (go_simp; done) | (go_simp; rfl)); intro gb266 hg w5 hbox hb; have BK266 := Aside0.mk (hbox); have GW266 := Aside0.mk ((by rw [hg]; exact (below_size (Bp HB)) : w.heap.size ≤ gb266)); have GE266 := Aside0.mk ((by rw [hg]; exact (below_size (Bp HB)) : w.heap.size ≤ gb266)); replace HB := Bs HB hb; clear hb hbox hg) | ((with_reducible refine gate_dst (N := 3) rfl ?_); refine box_event ?hg (N := 3) ?hd (cs := #[.slice A1_0 l1_0.length c1_0, .slice A1_1 l1_1.length c1_1, .slice A1_2 l1_2.length c1_2]) (t := 26) ?hr ?_; (case hd => rfl); (case hg => rfl); (case hr => first | (go_simp; done) | (go_simp; rfl)); intro gb267 hg w6 hbox hb; have BK267 := Aside0.mk (hbox); have GW267 := Aside0.mk ((by rw [hg]; exact (below_size (Bp HB)) : w.heap.size ≤ gb267)); have GE267 := Aside0.mk ((by rw [hg]; exact (below_size (Bp HB)) : w.heap.size ≤ gb267)); replace HB := Bs HB hb; have NB266_267 := Aside0.mk ((by rw [hg]; exact Nat.ne_of_lt (blk_lt (Kp BK266)) : gb266 ≠ gb267)); have NB267_266 := Aside0.mk ((by rw [hg]; exact Nat.ne_of_gt (blk_lt (Kp BK266)) : gb267 ≠ gb266)); replace BK266 := Kb BK266 hb; clear hb hbox hg; have hnb7 := NB266_267.out; have hnc7 := NB267_266.out; obtain ⟨hcz8_0, hcz8_1, hcz8_2⟩ := bc3 (W := w6) BK266.out; obtain ⟨hfz8_0, hfz8_1, hfz8_2⟩ := bf3 BK266.out) | ((with_reducible refine gate_callee (f := 12) rfl ?_); refine goesL_ (some 12) rfl rfl Try.func12 (by kernel_rfl) rfl #[.agg #[.slice A0_0 l0_0.length c0_0, .slice A0_1 l0_1.length c0_1, .slice A0_2 l0_2.length c0_2], .int .i64 1048576] rfl (by (try simp only [List.map_toArray, List.map_cons, List.map_nil]); first | done | rfl | (simp only [List.length_drop, List.length_take]; rfl)) ?_; (with_reducible refine (laws_szTreeMod.calls k _ _ l0_0 _ _ l0_1 _ _ l0_2 1048576 t268 _ ?side1 ?side2 ?side3 ?side4 ?side5 ?side6 A3.out).mono ?_); (case side1 => exact Cb HR0_0 HB); (case side2 => exact HC0_0.out); (case side3 => exact Cb HR0_1 HB); (case side4 => exact HC0_1.out); (case side5 => exact Cb HR0_2 HB); (case side6 => exact HC0_2.out); rintro e w9 ⟨rfl, hb⟩; refine ⟨_, rfl, ?_⟩; replace BK266 := Kb BK266 hb; replace BK267 := Kb BK267 hb; replace HB := Bs HB hb; (try clear hb); (try clear hb2); (try clear hk); (try clear hi)))
    go_ret
    exact ⟨by first | rfl | (simp [errW_none, errW_some] <;> rfl) | (simp [*, errW_none, errW_some] <;> rfl), Bp HB⟩
  · rw [if_neg c4] at H
    have c4b0 : decide (t268 < 0) = false := decide_eq_false c4
    clear c4
    replace H := Option.bind_eq_some_iff.mp H
    obtain ⟨t269, A100, H⟩ := H
    replace H : (if t269 < 0 then (some true) else ((laws_toTreeMod.f k l0_0 l0_1 l0_2).bind fun bt270 => ((laws_toTreeMod.f k l1_0 l1_1 l1_2).bind fun bt279 => ((spec_TreeSame.f k bt270.1 bt270.2.1 bt270.2.2 bt279.1 bt279.2.1 bt279.2.2).bind fun t288 => ((laws_toTreeMod.f k l0_0 l0_1 l0_2).bind fun bt289 => ((laws_toTreeMod.f k l1_0 l1_1 l1_2).bind fun bt299 => ((impl_TreeSame.f k bt289.1 bt289.2.1 bt289.2.2 bt299.1 bt299.2.1 bt299.2.2).bind fun t309 => (if (t309 != t288) = true then (some false) else ((laws_toTreeMod.f k l0_0 l0_1 l0_2).bind fun bt310 => ((laws_eqTreeMod.f k bt289.1 bt289.2.1 bt289.2.2 bt310.1 bt310.2.1 bt310.2.2).bind fun t319 => (if t319 = true then ((laws_toTreeMod.f k l1_0 l1_1 l1_2).bind fun bt320 => ((laws_eqTreeMod.f k bt299.1 bt299.2.1 bt299.2.2 bt320.1 bt320.2.1 bt320.2.2).bind fun t329 => (if t329 = true then (some true) else (some false)))) else (some false)))))))))))) = some r := H
    have A10 := Aside0.mk A100
    clear A100
    by_cases c11 : t269 < 0
    · rw [if_pos c11] at H
      have c11b0 : decide (t269 < 0) = true := decide_eq_true c11
      clear c11
      obtain rfl := Option.some.inj H
      go_enter Try.func3, Try.ntmps3
      go_wp2_with (first | ((with_reducible refine gate_dst (N := 2) rfl ?_); refine box_event ?hg (N := 2) ?hd (cs := #[.slice A0_0 l0_0.length c0_0, .slice A0_1 l0_1.length c0_1, .slice A0_2 l0_2.length c0_2]) (t := 26) ?hr ?_; (case hd => rfl); (case hg => rfl); (case hr => first | (go_simp; done) | (go_simp; rfl)); intro gb266 hg w12 hbox hb; have BK266 := Aside0.mk (hbox); have GW266 := Aside0.mk ((by rw [hg]; exact (below_size (Bp HB)) : w.heap.size ≤ gb266)); have GE266 := Aside0.mk ((by rw [hg]; exact (below_size (Bp HB)) : w.heap.size ≤ gb266)); replace HB := Bs HB hb; clear hb hbox hg) | ((with_reducible refine gate_dst (N := 3) rfl ?_); refine box_event ?hg (N := 3) ?hd (cs := #[.slice A1_0 l1_0.length c1_0, .slice A1_1 l1_1.length c1_1, .slice A1_2 l1_2.length c1_2]) (t := 26) ?hr ?_; (case hd => rfl); (case hg => rfl); (case hr => first | (go_simp; done) | (go_simp; rfl)); intro gb267 hg w13 hbox hb; have BK267 := Aside0.mk (hbox); have GW267 := Aside0.mk ((by rw [hg]; exact (below_size (Bp HB)) : w.heap.size ≤ gb267)); have GE267 := Aside0.mk ((by rw [hg]; exact (below_size (Bp HB)) : w.heap.size ≤ gb267)); replace HB := Bs HB hb; have NB266_267 := Aside0.mk ((by rw [hg]; exact Nat.ne_of_lt (blk_lt (Kp BK266)) : gb266 ≠ gb267)); have NB267_266 := Aside0.mk ((by rw [hg]; exact Nat.ne_of_gt (blk_lt (Kp BK266)) : gb267 ≠ gb266)); replace BK266 := Kb BK266 hb; clear hb hbox hg; have hnb14 := NB266_267.out; have hnc14 := NB267_266.out; obtain ⟨hcz15_0, hcz15_1, hcz15_2⟩ := bc3 (W := w13) BK266.out; obtain ⟨hfz15_0, hfz15_1, hfz15_2⟩ := bf3 BK266.out) | ((with_reducible refine gate_callee (f := 12) rfl ?_); refine goesL_ (some 12) rfl rfl Try.func12 (by kernel_rfl) rfl #[.agg #[.slice A0_0 l0_0.length c0_0, .slice A0_1 l0_1.length c0_1, .slice A0_2 l0_2.length c0_2], .int .i64 1048576] rfl (by (try simp only [List.map_toArray, List.map_cons, List.map_nil]); first | done | rfl | (simp only [List.length_drop, List.length_take]; rfl)) ?_; (with_reducible refine (laws_szTreeMod.calls k _ _ l0_0 _ _ l0_1 _ _ l0_2 1048576 t268 _ ?side1 ?side2 ?side3 ?side4 ?side5 ?side6 A3.out).mono ?_); (case side1 => exact Cb HR0_0 HB); (case side2 => exact HC0_0.out); (case side3 => exact Cb HR0_1 HB); (case side4 => exact HC0_1.out); (case side5 => exact Cb HR0_2 HB); (case side6 => exact HC0_2.out); rintro e w16 ⟨rfl, hb⟩; refine ⟨_, rfl, ?_⟩; replace BK266 := Kb BK266 hb; replace BK267 := Kb BK267 hb; replace HB := Bs HB hb; (try clear hb); (try clear hb2); (try clear hk); (try clear hi); obtain ⟨hcz17_0, hcz17_1, hcz17_2⟩ := bc3 (W := w16) BK267.out; obtain ⟨hfz17_0, hfz17_1, hfz17_2⟩ := bf3 BK267.out) | ((with_reducible refine gate_callee (f := 12) rfl ?_); refine goesL_ (some 17) rfl rfl Try.func12 (by kernel_rfl) rfl #[.agg #[.slice A1_0 l1_0.length c1_0, .slice A1_1 l1_1.length c1_1, .slice A1_2 l1_2.length c1_2], .int .i64 t268] rfl (by (try simp only [List.map_toArray, List.map_cons, List.map_nil]); first | done | rfl | (simp only [List.length_drop, List.length_take]; rfl)) ?_; (with_reducible refine (laws_szTreeMod.calls k _ _ l1_0 _ _ l1_1 _ _ l1_2 t268 t269 _ ?side1 ?side2 ?side3 ?side4 ?side5 ?side6 A10.out).mono ?_); (case side1 => exact Cb HR1_0 HB); (case side2 => exact HC1_0.out); (case side3 => exact Cb HR1_1 HB); (case side4 => exact HC1_1.out); (case side5 => exact Cb HR1_2 HB); (case side6 => exact HC1_2.out); rintro e w18 ⟨rfl, hb⟩; refine ⟨_, rfl, ?_⟩; replace BK266 := Kb BK266 hb; replace BK267 := Kb BK267 hb; replace HB := Bs HB hb; (try clear hb); (try clear hb2); (try clear hk); (try clear hi)))
      go_ret
      exact ⟨by first | rfl | (simp [errW_none, errW_some] <;> rfl) | (simp [*, errW_none, errW_some] <;> rfl), Bp HB⟩
    · rw [if_neg c11] at H
      have c11b0 : decide (t269 < 0) = false := decide_eq_false c11
      clear c11
      replace H := Option.bind_eq_some_iff.mp H
      obtain ⟨⟨t270, t273, t276⟩, A190, H⟩ := H
      replace H : ((laws_toTreeMod.f k l1_0 l1_1 l1_2).bind fun bt279 => ((spec_TreeSame.f k t270 t273 t276 bt279.1 bt279.2.1 bt279.2.2).bind fun t288 => ((laws_toTreeMod.f k l0_0 l0_1 l0_2).bind fun bt289 => ((laws_toTreeMod.f k l1_0 l1_1 l1_2).bind fun bt299 => ((impl_TreeSame.f k bt289.1 bt289.2.1 bt289.2.2 bt299.1 bt299.2.1 bt299.2.2).bind fun t309 => (if (t309 != t288) = true then (some false) else ((laws_toTreeMod.f k l0_0 l0_1 l0_2).bind fun bt310 => ((laws_eqTreeMod.f k bt289.1 bt289.2.1 bt289.2.2 bt310.1 bt310.2.1 bt310.2.2).bind fun t319 => (if t319 = true then ((laws_toTreeMod.f k l1_0 l1_1 l1_2).bind fun bt320 => ((laws_eqTreeMod.f k bt299.1 bt299.2.1 bt299.2.2 bt320.1 bt320.2.1 bt320.2.2).bind fun t329 => (if t329 = true then (some true) else (some false)))) else (some false)))))))))) = some r := H
      have A19 := Aside0.mk A190
      clear A190
      replace H := Option.bind_eq_some_iff.mp H
      obtain ⟨⟨t279, t282, t285⟩, A200, H⟩ := H
      replace H : ((spec_TreeSame.f k t270 t273 t276 t279 t282 t285).bind fun t288 => ((laws_toTreeMod.f k l0_0 l0_1 l0_2).bind fun bt289 => ((laws_toTreeMod.f k l1_0 l1_1 l1_2).bind fun bt299 => ((impl_TreeSame.f k bt289.1 bt289.2.1 bt289.2.2 bt299.1 bt299.2.1 bt299.2.2).bind fun t309 => (if (t309 != t288) = true then (some false) else ((laws_toTreeMod.f k l0_0 l0_1 l0_2).bind fun bt310 => ((laws_eqTreeMod.f k bt289.1 bt289.2.1 bt289.2.2 bt310.1 bt310.2.1 bt310.2.2).bind fun t319 => (if t319 = true then ((laws_toTreeMod.f k l1_0 l1_1 l1_2).bind fun bt320 => ((laws_eqTreeMod.f k bt299.1 bt299.2.1 bt299.2.2 bt320.1 bt320.2.1 bt320.2.2).bind fun t329 => (if t329 = true then (some true) else (some false)))) else (some false))))))))) = some r := H
      have A20 := Aside0.mk A200
      clear A200
      replace H := Option.bind_eq_some_iff.mp H
      obtain ⟨t288, A210, H⟩ := H
      replace H : ((laws_toTreeMod.f k l0_0 l0_1 l0_2).bind fun bt289 => ((laws_toTreeMod.f k l1_0 l1_1 l1_2).bind fun bt299 => ((impl_TreeSame.f k bt289.1 bt289.2.1 bt289.2.2 bt299.1 bt299.2.1 bt299.2.2).bind fun t309 => (if (t309 != t288) = true then (some false) else ((laws_toTreeMod.f k l0_0 l0_1 l0_2).bind fun bt310 => ((laws_eqTreeMod.f k bt289.1 bt289.2.1 bt289.2.2 bt310.1 bt310.2.1 bt310.2.2).bind fun t319 => (if t319 = true then ((laws_toTreeMod.f k l1_0 l1_1 l1_2).bind fun bt320 => ((laws_eqTreeMod.f k bt299.1 bt299.2.1 bt299.2.2 bt320.1 bt320.2.1 bt320.2.2).bind fun t329 => (if t329 = true then (some true) else (some false)))) else (some false)))))))) = some r := H
      have A21 := Aside0.mk A210
      clear A210
      replace H := Option.bind_eq_some_iff.mp H
      obtain ⟨⟨t289, t292, t295⟩, A220, H⟩ := H
      replace H : ((laws_toTreeMod.f k l1_0 l1_1 l1_2).bind fun bt299 => ((impl_TreeSame.f k t289 t292 t295 bt299.1 bt299.2.1 bt299.2.2).bind fun t309 => (if (t309 != t288) = true then (some false) else ((laws_toTreeMod.f k l0_0 l0_1 l0_2).bind fun bt310 => ((laws_eqTreeMod.f k t289 t292 t295 bt310.1 bt310.2.1 bt310.2.2).bind fun t319 => (if t319 = true then ((laws_toTreeMod.f k l1_0 l1_1 l1_2).bind fun bt320 => ((laws_eqTreeMod.f k bt299.1 bt299.2.1 bt299.2.2 bt320.1 bt320.2.1 bt320.2.2).bind fun t329 => (if t329 = true then (some true) else (some false)))) else (some false))))))) = some r := H
      have A22 := Aside0.mk A220
      clear A220
      replace H := Option.bind_eq_some_iff.mp H
      obtain ⟨⟨t299, t302, t305⟩, A230, H⟩ := H
      replace H : ((impl_TreeSame.f k t289 t292 t295 t299 t302 t305).bind fun t309 => (if (t309 != t288) = true then (some false) else ((laws_toTreeMod.f k l0_0 l0_1 l0_2).bind fun bt310 => ((laws_eqTreeMod.f k t289 t292 t295 bt310.1 bt310.2.1 bt310.2.2).bind fun t319 => (if t319 = true then ((laws_toTreeMod.f k l1_0 l1_1 l1_2).bind fun bt320 => ((laws_eqTreeMod.f k t299 t302 t305 bt320.1 bt320.2.1 bt320.2.2).bind fun t329 => (if t329 = true then (some true) else (some false)))) else (some false)))))) = some r := H
      have A23 := Aside0.mk A230
      clear A230
      replace H := Option.bind_eq_some_iff.mp H
      obtain ⟨t309, A240, H⟩ := H
      replace H : (if (t309 != t288) = true then (some false) else ((laws_toTreeMod.f k l0_0 l0_1 l0_2).bind fun bt310 => ((laws_eqTreeMod.f k t289 t292 t295 bt310.1 bt310.2.1 bt310.2.2).bind fun t319 => (if t319 = true then ((laws_toTreeMod.f k l1_0 l1_1 l1_2).bind fun bt320 => ((laws_eqTreeMod.f k t299 t302 t305 bt320.1 bt320.2.1 bt320.2.2).bind fun t329 => (if t329 = true then (some true) else (some false)))) else (some false))))) = some r := H
      have A24 := Aside0.mk A240
      clear A240
      by_cases c25 : (t309 != t288) = true
      · rw [if_pos c25] at H
        have c25b0 : (t309 != t288) = true := c25
        (try (have c25b1 : decide (t309 = t288) = false := by simpa using c25))
        (try (have c25b2 : (t309 == t288) = false := by simpa using c25))
        (try (have c25b3 : ¬ (t309 = t288) := by simpa using c25))
        clear c25
        obtain rfl := Option.some.inj H
        go_enter Try.func3, Try.ntmps3
        try go_wp2_with (first | ((with_reducible refine gate_dst (N := 2) rfl ?_); refine box_event ?hg (N := 2) ?hd (cs := #[.slice A0_0 l0_0.length c0_0, .slice A0_1 l0_1.length c0_1, .slice A0_2 l0_2.length c0_2]) (t := 26) ?hr ?_; (case hd => rfl); (case hg => rfl); (case hr => first | (go_simp; done) | (go_simp; rfl)); intro gb266 hg w26 hbox hb; have BK266 := Aside0.mk (hbox); have GW266 := Aside0.mk ((by rw [hg]; exact (below_size (Bp HB)) : w.heap.size ≤ gb266)); have GE266 := Aside0.mk ((by rw [hg]; exact (below_size (Bp HB)) : w.heap.size ≤ gb266)); replace HB := Bs HB hb; clear hb hbox hg) | ((with_reducible refine gate_dst (N := 3) rfl ?_); refine box_event ?hg (N := 3) ?hd (cs := #[.slice A1_0 l1_0.length c1_0, .slice A1_1 l1_1.length c1_1, .slice A1_2 l1_2.length c1_2]) (t := 26) ?hr ?_; (case hd => rfl); (case hg => rfl); (case hr => first | (go_simp; done) | (go_simp; rfl)); intro gb267 hg w27 hbox hb; have BK267 := Aside0.mk (hbox); have GW267 := Aside0.mk ((by rw [hg]; exact (below_size (Bp HB)) : w.heap.size ≤ gb267)); have GE267 := Aside0.mk ((by rw [hg]; exact (below_size (Bp HB)) : w.heap.size ≤ gb267)); replace HB := Bs HB hb; have NB266_267 := Aside0.mk ((by rw [hg]; exact Nat.ne_of_lt (blk_lt (Kp BK266)) : gb266 ≠ gb267)); have NB267_266 := Aside0.mk ((by rw [hg]; exact Nat.ne_of_gt (blk_lt (Kp BK266)) : gb267 ≠ gb266)); replace BK266 := Kb BK266 hb; clear hb hbox hg; have hnb28 := NB266_267.out; have hnc28 := NB267_266.out; obtain ⟨hcz29_0, hcz29_1, hcz29_2⟩ := bc3 (W := w27) BK266.out; obtain ⟨hfz29_0, hfz29_1, hfz29_2⟩ := bf3 BK266.out) | ((with_reducible refine gate_callee (f := 12) rfl ?_); refine goesL_ (some 12) rfl rfl Try.func12 (by kernel_rfl) rfl #[.agg #[.slice A0_0 l0_0.length c0_0, .slice A0_1 l0_1.length c0_1, .slice A0_2 l0_2.length c0_2], .int .i64 1048576] rfl (by (try simp only [List.map_toArray, List.map_cons, List.map_nil]); first | done | rfl | (simp only [List.length_drop, List.length_take]; rfl)) ?_; (with_reducible refine (laws_szTreeMod.calls k _ _ l0_0 _ _ l0_1 _ _ l0_2 1048576 t268 _ ?side1 ?side2 ?side3 ?side4 ?side5 ?side6 A3.out).mono ?_); (case side1 => exact Cb HR0_0 HB); (case side2 => exact HC0_0.out); (case side3 => exact Cb HR0_1 HB); (case side4 => exact HC0_1.out); (case side5 => exact Cb HR0_2 HB); (case side6 => exact HC0_2.out); rintro e w30 ⟨rfl, hb⟩; refine ⟨_, rfl, ?_⟩; replace BK266 := Kb BK266 hb; replace BK267 := Kb BK267 hb; replace HB := Bs HB hb; (try clear hb); (try clear hb2); (try clear hk); (try clear hi); obtain ⟨hcz31_0, hcz31_1, hcz31_2⟩ := bc3 (W := w30) BK267.out; obtain ⟨hfz31_0, hfz31_1, hfz31_2⟩ := bf3 BK267.out) | ((with_reducible refine gate_callee (f := 12) rfl ?_); refine goesL_ (some 17) rfl rfl Try.func12 (by kernel_rfl) rfl #[.agg #[.slice A1_0 l1_0.length c1_0, .slice A1_1 l1_1.length c1_1, .slice A1_2 l1_2.length c1_2], .int .i64 t268] rfl (by (try simp only [List.map_toArray, List.map_cons, List.map_nil]); first | done | rfl | (simp only [List.length_drop, List.length_take]; rfl)) ?_; (with_reducible refine (laws_szTreeMod.calls k _ _ l1_0 _ _ l1_1 _ _ l1_2 t268 t269 _ ?side1 ?side2 ?side3 ?side4 ?side5 ?side6 A10.out).mono ?_); (case side1 => exact Cb HR1_0 HB); (case side2 => exact HC1_0.out); (case side3 => exact Cb HR1_1 HB); (case side4 => exact HC1_1.out); (case side5 => exact Cb HR1_2 HB); (case side6 => exact HC1_2.out); rintro e w32 ⟨rfl, hb⟩; refine ⟨_, rfl, ?_⟩; replace BK266 := Kb BK266 hb; replace BK267 := Kb BK267 hb; replace HB := Bs HB hb; (try clear hb); (try clear hb2); (try clear hk); (try clear hi)))
        replace BK266 := Aside0.mk (blk_drew BK266.out)
        replace BK267 := Aside0.mk (blk_drew BK267.out)
        replace HB := Aside0.mk (below_drew1 HB.out)
        refine start_ (n := 6) (S := fun w' => w'.cell? ⟨gb266, 0, none⟩ = some (.slice A0_0 l0_0.length c0_0) ∧ w'.cell? ⟨gb266, 1, none⟩ = some (.slice A0_1 l0_1.length c0_1) ∧ w'.cell? ⟨gb266, 2, none⟩ = some (.slice A0_2 l0_2.length c0_2) ∧ w'.cell? ⟨gb267, 0, none⟩ = some (.slice A1_0 l1_0.length c1_0) ∧ w'.cell? ⟨gb267, 1, none⟩ = some (.slice A1_1 l1_1.length c1_1) ∧ w'.cell? ⟨gb267, 2, none⟩ = some (.slice A1_2 l1_2.length c1_2)) (ds := []) #[false, false, false, false, false, false] (by kernel_rfl) rfl rfl ⟨(blk_cell BK266.out 0).trans rfl, (blk_cell BK266.out 1).trans rfl, (blk_cell BK266.out 2).trans rfl, (blk_cell BK267.out 0).trans rfl, (blk_cell BK267.out 1).trans rfl, (blk_cell BK267.out 2).trans rfl⟩ (fun hHeld => ?_)
        generalize w32.drew = w33 at BK266 BK267 HB hHeld ⊢
        refine take_ (i := 0) (N := some 20) (v := ?_) (a' := ?_) #[true, false, false, false, false, false] rfl rfl (by kernel_rfl) (fun _ _ _ h => h) (Or.inl ⟨by rfl, ?_⟩) hHeld ?_ ?_
        rotate_left
        · rintro w' ⟨s0, s1, s2, s3, s4, s5⟩
          go_simp
          with_reducible rfl
        rotate_left
        · simp only [Act.put, List.setIfInBounds_toArray, List.set_cons_zero, List.set_cons_succ, i64_w, i32_w]
          rfl
        refine take_ (i := 2) (N := some 22) (v := ?_) (a' := ?_) #[true, false, true, false, false, false] rfl rfl (by kernel_rfl) (fun _ _ _ h => h) (Or.inl ⟨by rfl, ?_⟩) hHeld ?_ ?_
        rotate_left
        · rintro w' ⟨s0, s1, s2, s3, s4, s5⟩
          go_simp
          with_reducible rfl
        rotate_left
        · simp only [Act.put, List.setIfInBounds_toArray, List.set_cons_zero, List.set_cons_succ, i64_w, i32_w]
          rfl
        refine one_ (i := 1) (N := some 21) #[true, true, true, false, false, false] rfl rfl (by kernel_rfl) (by decide) (fun K hK => ?_)
        refine goes_ Try.func14 (by kernel_rfl) rfl #[.agg #[.slice A0_0 l0_0.length c0_0, .slice A0_1 l0_1.length c0_1, .slice A0_2 l0_2.length c0_2]] (by rfl) rfl rfl (by (try simp only [List.map_toArray, List.map_cons, List.map_nil]); first | done | rfl | (simp only [List.length_drop, List.length_take]; rfl)) ?_
        with_reducible refine (laws_toTreeMod.calls k _ _ l0_0 _ _ l0_1 _ _ l0_2 t270 t273 t276 _ ?side1 ?side2 ?side3 ?side4 ?side5 ?side6 A19.out).mono ?_
        (case side1 => exact Cb HR0_0 HB)
        (case side2 => exact HC0_0.out)
        (case side3 => exact Cb HR0_1 HB)
        (case side4 => exact HC0_1.out)
        (case side5 => exact Cb HR0_2 HB)
        (case side6 => exact HC0_2.out)
        rintro e w34 ⟨v271, v274, v277, rfl, ho0, ho1, ho2, hb⟩
        refine ⟨_, rfl, ?_⟩
        have HO272 := Aside0.mk (Kd.R_lower ho0 (below_size (Bp HB)))
        have HO275 := Aside0.mk (Kd.R_lower ho1 (below_size (Bp HB)))
        have HO278 := Aside0.mk (Kd.R_lower ho2 (below_size (Bp HB)))
        replace BK266 := Kb BK266 hb
        replace BK267 := Kb BK267 hb
        replace HB := Bs HB hb
        (try clear hb)
        (try clear hb2)
        (try clear hk)
        (try clear hi)
        (try clear ho0)
        (try clear ho1)
        (try clear ho2)
        refine hK.out _ _ ⟨(blk_cell BK266.out 0).trans rfl, (blk_cell BK266.out 1).trans rfl, (blk_cell BK266.out 2).trans rfl, (blk_cell BK267.out 0).trans rfl, (blk_cell BK267.out 1).trans rfl, (blk_cell BK267.out 2).trans rfl⟩ (fun hHeld => ?_)
        clear hK K
        refine norm_ (a' := ?_) ?_ ?_
        rotate_left
        · show Act.put _ (some 21) _ = _
          simp only [Act.put, List.setIfInBounds_toArray, List.set_cons_zero, List.set_cons_succ, i64_w, i32_w]
          rfl
        refine one_ (i := 3) (N := some 23) #[true, true, true, true, false, false] rfl rfl (by kernel_rfl) (by decide) (fun K hK => ?_)
        refine goes_ Try.func14 (by kernel_rfl) rfl #[.agg #[.slice A1_0 l1_0.length c1_0, .slice A1_1 l1_1.length c1_1, .slice A1_2 l1_2.length c1_2]] (by rfl) rfl rfl (by (try simp only [List.map_toArray, List.map_cons, List.map_nil]); first | done | rfl | (simp only [List.length_drop, List.length_take]; rfl)) ?_
        with_reducible refine (laws_toTreeMod.calls k _ _ l1_0 _ _ l1_1 _ _ l1_2 t279 t282 t285 _ ?side1 ?side2 ?side3 ?side4 ?side5 ?side6 A20.out).mono ?_
        (case side1 => exact Cb HR1_0 HB)
        (case side2 => exact HC1_0.out)
        (case side3 => exact Cb HR1_1 HB)
        (case side4 => exact HC1_1.out)
        (case side5 => exact Cb HR1_2 HB)
        (case side6 => exact HC1_2.out)
        rintro e w35 ⟨v280, v283, v286, rfl, ho0, ho1, ho2, hb⟩
        refine ⟨_, rfl, ?_⟩
        have HO281 := Aside0.mk (Rl (Kd.R_new' ho0 (Rt HO272)) HB)
        replace HO272 := Aside0.mk (Re HO272 ho0 hb)
        have HO284 := Aside0.mk (Rl (Kd.R_new' (Kd.R_new' ho1 (Rt HO275)) (Rt HO278)) HB)
        replace HO275 := Aside0.mk (Kd.R_mono (Kd.R_told (Kd.R_told (Kd.R_old (Rp HO275) hb) (Kd.R_base ho1)) (Kd.R_base ho2)) (fun _ h_ => h_.1))
        have HO287 := Aside0.mk (Rl (Kd.R_new' ho2 (Rt HO278)) HB)
        replace HO278 := Aside0.mk (Re HO278 ho2 hb)
        replace BK266 := Kb BK266 hb
        replace BK267 := Kb BK267 hb
        replace HB := Bs HB hb
        (try clear hb)
        (try clear hb2)
        (try clear hk)
        (try clear hi)
        (try clear ho0)
        (try clear ho1)
        (try clear ho2)
        obtain ⟨Ao36, co36, eo36⟩ := Kd.R_slice HO272.out
        (first | subst eo36 | (injection eo36 with f1_ f2_ f3_; have f4_ := f1_.symm; have f5_ := f3_.symm; clear f1_ f2_ f3_; subst f4_; subst f5_))
        obtain ⟨Ao37, co37, eo37⟩ := Kd.R_slice HO275.out
        (first | subst eo37 | (injection eo37 with f1_ f2_ f3_; have f4_ := f1_.symm; have f5_ := f3_.symm; clear f1_ f2_ f3_; subst f4_; subst f5_))
        obtain ⟨Ao38, co38, eo38⟩ := Kd.R_slice HO278.out
        (first | subst eo38 | (injection eo38 with f1_ f2_ f3_; have f4_ := f1_.symm; have f5_ := f3_.symm; clear f1_ f2_ f3_; subst f4_; subst f5_))
        obtain ⟨Ao39, co39, eo39⟩ := Kd.R_slice HO281.out
        (first | subst eo39 | (injection eo39 with f1_ f2_ f3_; have f4_ := f1_.symm; have f5_ := f3_.symm; clear f1_ f2_ f3_; subst f4_; subst f5_))
        obtain ⟨Ao40, co40, eo40⟩ := Kd.R_slice HO284.out
        (first | subst eo40 | (injection eo40 with f1_ f2_ f3_; have f4_ := f1_.symm; have f5_ := f3_.symm; clear f1_ f2_ f3_; subst f4_; subst f5_))
        obtain ⟨Ao41, co41, eo41⟩ := Kd.R_slice HO287.out
        (first | subst eo41 | (injection eo41 with f1_ f2_ f3_; have f4_ := f1_.symm; have f5_ := f3_.symm; clear f1_ f2_ f3_; subst f4_; subst f5_))
        refine hK.out _ _ ⟨(blk_cell BK266.out 0).trans rfl, (blk_cell BK266.out 1).trans rfl, (blk_cell BK266.out 2).trans rfl, (blk_cell BK267.out 0).trans rfl, (blk_cell BK267.out 1).trans rfl, (blk_cell BK267.out 2).trans rfl⟩ (fun hHeld => ?_)
        clear hK K
        refine norm_ (a' := ?_) ?_ ?_
        rotate_left
        · show Act.put _ (some 23) _ = _
          simp only [Act.put, List.setIfInBounds_toArray, List.set_cons_zero, List.set_cons_succ, i64_w, i32_w]
          rfl
        refine one_ (i := 4) (N := some 24) #[true, true, true, true, true, false] rfl rfl (by kernel_rfl) (by decide) (fun K hK => ?_)
        refine goes_ Try.func13 (by kernel_rfl) rfl #[.agg #[.slice Ao36 t270.length co36, .slice Ao37 t273.length co37, .slice Ao38 t276.length co38], .agg #[.slice Ao39 t279.length co39, .slice Ao40 t282.length co40, .slice Ao41 t285.length co41]] (by rfl) rfl rfl (by (try simp only [List.map_toArray, List.map_cons, List.map_nil]); first | done | rfl | (simp only [List.length_drop, List.length_take]; rfl)) ?_
        with_reducible refine (spec_TreeSame.calls k _ _ t270 _ _ t273 _ _ t276 _ _ t279 _ _ t282 _ _ t285 t288 _ ?side1 ?side2 ?side3 ?side4 ?side5 ?side6 ?side7 ?side8 ?side9 ?side10 ?side11 ?side12 A21.out).mono ?_
        (case side1 => repeat (first | exact (Kd.R_reads' HO272.out).2.2 | (with_reducible refine Kd.C_alloc ?_ _) | (with_reducible refine Kd.C_drewN ?_ _) | (with_reducible refine Kd.C_drew ?_)))
        (case side2 => exact (Kd.R_reads' HO272.out).2.1)
        (case side3 => repeat (first | exact (Kd.R_reads' HO275.out).2.2 | (with_reducible refine Kd.C_alloc ?_ _) | (with_reducible refine Kd.C_drewN ?_ _) | (with_reducible refine Kd.C_drew ?_)))
        (case side4 => exact (Kd.R_reads' HO275.out).2.1)
        (case side5 => repeat (first | exact (Kd.R_reads' HO278.out).2.2 | (with_reducible refine Kd.C_alloc ?_ _) | (with_reducible refine Kd.C_drewN ?_ _) | (with_reducible refine Kd.C_drew ?_)))
        (case side6 => exact (Kd.R_reads' HO278.out).2.1)
        (case side7 => repeat (first | exact (Kd.R_reads' HO281.out).2.2 | (with_reducible refine Kd.C_alloc ?_ _) | (with_reducible refine Kd.C_drewN ?_ _) | (with_reducible refine Kd.C_drew ?_)))
        (case side8 => exact (Kd.R_reads' HO281.out).2.1)
        (case side9 => repeat (first | exact (Kd.R_reads' HO284.out).2.2 | (with_reducible refine Kd.C_alloc ?_ _) | (with_reducible refine Kd.C_drewN ?_ _) | (with_reducible refine Kd.C_drew ?_)))
        (case side10 => exact (Kd.R_reads' HO284.out).2.1)
        (case side11 => repeat (first | exact (Kd.R_reads' HO287.out).2.2 | (with_reducible refine Kd.C_alloc ?_ _) | (with_reducible refine Kd.C_drewN ?_ _) | (with_reducible refine Kd.C_drew ?_)))
        (case side12 => exact (Kd.R_reads' HO287.out).2.1)
        rintro e w42 ⟨rfl, hb⟩
        refine ⟨_, rfl, ?_⟩
        replace HO272 := Rb HO272 hb
        replace HO275 := Rb HO275 hb
        replace HO278 := Rb HO278 hb
        replace HO281 := Rb HO281 hb
        replace HO284 := Rb HO284 hb
        replace HO287 := Rb HO287 hb
        replace BK266 := Kb BK266 hb
        replace BK267 := Kb BK267 hb
        replace HB := Bs HB hb
        (try clear hb)
        (try clear hb2)
        (try clear hk)
        (try clear hi)
        refine hK.out _ _ ⟨(blk_cell BK266.out 0).trans rfl, (blk_cell BK266.out 1).trans rfl, (blk_cell BK266.out 2).trans rfl, (blk_cell BK267.out 0).trans rfl, (blk_cell BK267.out 1).trans rfl, (blk_cell BK267.out 2).trans rfl⟩ (fun hHeld => ?_)
        clear hK K
        refine norm_ (a' := ?_) ?_ ?_
        rotate_left
        · show Act.put _ (some 24) _ = _
          simp only [Act.put, List.setIfInBounds_toArray, List.set_cons_zero, List.set_cons_succ, i64_w, i32_w]
          rfl
        refine pure_ (i := 5) (N := some 6) (v := ?_) (a' := ?_) #[true, true, true, true, true, true] rfl rfl (by kernel_rfl) (fun _ _ _ h => h) (Or.inl ⟨by rfl, ?_⟩) ?_ ?_
        rotate_left
        · intro w'
          go_simp
          with_reducible rfl
        rotate_left
        · simp only [Act.put, List.setIfInBounds_toArray, List.set_cons_zero, List.set_cons_succ, i64_w, i32_w]
          rfl
        refine done_ (by kernel_rfl) ?_
        obtain ⟨hcz43_0, hcz43_1, hcz43_2⟩ := bc3 (W := w42) BK266.out
        obtain ⟨hfz43_0, hfz43_1, hfz43_2⟩ := bf3 BK266.out
        try go_wp2_with (first | ((with_reducible refine gate_callee (f := 14) rfl ?_); refine goesL_ (some 26) rfl rfl Try.func14 (by kernel_rfl) rfl #[.agg #[.slice A0_0 l0_0.length c0_0, .slice A0_1 l0_1.length c0_1, .slice A0_2 l0_2.length c0_2]] rfl (by (try simp only [List.map_toArray, List.map_cons, List.map_nil]); first | done | rfl | (simp only [List.length_drop, List.length_take]; rfl)) ?_; (with_reducible refine (laws_toTreeMod.calls k _ _ l0_0 _ _ l0_1 _ _ l0_2 t289 t292 t295 _ ?side1 ?side2 ?side3 ?side4 ?side5 ?side6 A22.out).mono ?_); (case side1 => exact Cb HR0_0 HB); (case side2 => exact HC0_0.out); (case side3 => exact Cb HR0_1 HB); (case side4 => exact HC0_1.out); (case side5 => exact Cb HR0_2 HB); (case side6 => exact HC0_2.out); rintro e w44 ⟨v290, v293, v296, rfl, ho0, ho1, ho2, hb⟩; refine ⟨_, rfl, ?_⟩; have HO291 := Aside0.mk (Rl (Kd.R_new' (Kd.R_new' ho0 (Rt HO272)) (Rt HO281)) HB); replace HO272 := Aside0.mk (Re HO272 ho0 hb); replace HO281 := Aside0.mk (Re HO281 ho0 hb); have HO294 := Aside0.mk (Kd.R_lower (Kd.R_new' (Kd.R_new' (Kd.R_new' (Kd.R_new' ho1 (Rt HO275)) (Rt HO278)) (Rt HO284)) (Rt HO287)) (below_size (Bp HB))); replace HO275 := Aside0.mk (Kd.R_mono (Kd.R_told (Kd.R_told (Kd.R_old (Rp HO275) hb) (Kd.R_base ho1)) (Kd.R_base ho2)) (fun _ h_ => h_.1)); replace HO284 := Aside0.mk (Kd.R_mono (Kd.R_told (Kd.R_told (Kd.R_old (Rp HO284) hb) (Kd.R_base ho1)) (Kd.R_base ho2)) (fun _ h_ => h_.1)); have HO297 := Aside0.mk (Rl (Kd.R_new' (Kd.R_new' ho2 (Rt HO278)) (Rt HO287)) HB); replace HO278 := Aside0.mk (Re HO278 ho2 hb); replace HO287 := Aside0.mk (Re HO287 ho2 hb); replace BK266 := Kb BK266 hb; replace BK267 := Kb BK267 hb; replace HB := Bs HB hb; (try clear hb); (try clear hb2); (try clear hk); (try clear hi); (try clear ho0); (try clear ho1); (try clear ho2)) | ((with_reducible refine gate_dst (N := 7) rfl ?_); refine box_event ?hg (N := 7) ?hd (cs := #[.slice none 0 0, .slice none 0 0, .slice none 0 0]) (t := 32) ?hr ?_; (case hd => rfl); (case hg => rfl); (case hr => first | (go_simp; done) | (go_simp; rfl)); intro gb298 hg w45 hbox hb; replace HO272 := Rb HO272 hb; replace HO275 := Rb HO275 hb; replace HO278 := Rb HO278 hb; replace HO281 := Rb HO281 hb; replace HO284 := Rb HO284 hb; replace HO287 := Rb HO287 hb; replace HO291 := Rb HO291 hb; replace HO294 := Rb HO294 hb; replace HO297 := Rb HO297 hb; have BK298 := Aside0.mk (hbox); have GW298 := Aside0.mk ((by rw [hg]; exact (below_size (Bp HB)) : w.heap.size ≤ gb298)); have GE298 := Aside0.mk ((by rw [hg]; exact (below_size (Bp HB)) : w.heap.size ≤ gb298)); replace HB := Bs HB hb; have NB266_298 := Aside0.mk ((by rw [hg]; exact Nat.ne_of_lt (blk_lt (Kp BK266)) : gb266 ≠ gb298)); have NB298_266 := Aside0.mk ((by rw [hg]; exact Nat.ne_of_gt (blk_lt (Kp BK266)) : gb298 ≠ gb266)); replace BK266 := Kb BK266 hb; have NB267_298 := Aside0.mk ((by rw [hg]; exact Nat.ne_of_lt (blk_lt (Kp BK267)) : gb267 ≠ gb298)); have NB298_267 := Aside0.mk ((by rw [hg]; exact Nat.ne_of_gt (blk_lt (Kp BK267)) : gb298 ≠ gb267)); replace BK267 := Kb BK267 hb; clear hb hbox hg; obtain ⟨Ao46, co46, eo46⟩ := Kd.R_slice HO291.out; subst eo46; have hnb47 := NB298_266.out; have hnc47 := NB266_298.out; have hnb48 := NB298_267.out; have hnc48 := NB267_298.out; obtain ⟨hcz49_0, hcz49_1, hcz49_2⟩ := bc3 (W := w45) BK298.out; obtain ⟨hfz49_0, hfz49_1, hfz49_2⟩ := bf3 BK298.out; obtain ⟨Ao50, co50, eo50⟩ := Kd.R_slice HO294.out; subst eo50; obtain ⟨Ao51, co51, eo51⟩ := Kd.R_slice HO297.out; subst eo51; obtain ⟨hcz52_0, hcz52_1, hcz52_2⟩ := bc3 (W := w45) BK267.out; obtain ⟨hfz52_0, hfz52_1, hfz52_2⟩ := bf3 BK267.out) | ((with_reducible refine gate_callee (f := 14) rfl ?_); refine goesL_ (some 28) rfl rfl Try.func14 (by kernel_rfl) rfl #[.agg #[.slice A1_0 l1_0.length c1_0, .slice A1_1 l1_1.length c1_1, .slice A1_2 l1_2.length c1_2]] rfl (by (try simp only [List.map_toArray, List.map_cons, List.map_nil]); first | done | rfl | (simp only [List.length_drop, List.length_take]; rfl)) ?_; (with_reducible refine (laws_toTreeMod.calls k _ _ l1_0 _ _ l1_1 _ _ l1_2 t299 t302 t305 _ ?side1 ?side2 ?side3 ?side4 ?side5 ?side6 A23.out).mono ?_); (case side1 => exact Kd.C_below HR1_0.out (Bp HB)); (case side2 => exact HC1_0.out); (case side3 => exact Kd.C_below HR1_1.out (Bp HB)); (case side4 => exact HC1_1.out); (case side5 => exact Kd.C_below HR1_2.out (Bp HB)); (case side6 => exact HC1_2.out); rintro e w53 ⟨v300, v303, v306, rfl, ho0, ho1, ho2, hb⟩; refine ⟨_, rfl, ?_⟩; have HO301 := Aside0.mk (Kd.R_lower (Kd.R_new' (Kd.R_new' (Kd.R_new' ho0 (Kd.R_lt (by (with_reducible repeat (first | apply Kd.R_alloc | apply Kd.R_drewN | apply Kd.R_drew)); exact (Kd.R_mono (RF (g := gb298) (Kd.R_types HO272.out BK298.out (by decide)) (fun _ hk => hk.2)) (fun _ h_ => h_.1))))) (Kd.R_lt (by (with_reducible repeat (first | apply Kd.R_alloc | apply Kd.R_drewN | apply Kd.R_drew)); exact (Kd.R_mono (RF (g := gb298) (Kd.R_types HO281.out BK298.out (by decide)) (fun _ hk => hk.2)) (fun _ h_ => h_.1))))) (Kd.R_lt (by (with_reducible repeat (first | apply Kd.R_alloc | apply Kd.R_drewN | apply Kd.R_drew)); exact (Kd.R_mono (RF (g := gb298) (Kd.R_types HO291.out BK298.out (by decide)) (fun _ hk => hk.2)) (fun _ h_ => h_.1))))) (below_size (Bp HB))); replace HO272 := Aside0.mk (Kd.R_elder' (by (with_reducible repeat (first | apply Kd.R_alloc | apply Kd.R_drewN | apply Kd.R_drew)); exact (Kd.R_mono (RF (g := gb298) (Kd.R_types HO272.out BK298.out (by decide)) (fun _ hk => hk.2)) (fun _ h_ => h_.1))) (Kd.R_base ho0) hb); replace HO281 := Aside0.mk (Kd.R_elder' (by (with_reducible repeat (first | apply Kd.R_alloc | apply Kd.R_drewN | apply Kd.R_drew)); exact (Kd.R_mono (RF (g := gb298) (Kd.R_types HO281.out BK298.out (by decide)) (fun _ hk => hk.2)) (fun _ h_ => h_.1))) (Kd.R_base ho0) hb); replace HO291 := Aside0.mk (Kd.R_elder' (by (with_reducible repeat (first | apply Kd.R_alloc | apply Kd.R_drewN | apply Kd.R_drew)); exact (Kd.R_mono (RF (g := gb298) (Kd.R_types HO291.out BK298.out (by decide)) (fun _ hk => hk.2)) (fun _ h_ => h_.1))) (Kd.R_base ho0) hb); have HO304 := Aside0.mk (Kd.R_lower (Kd.R_new' (Kd.R_new' (Kd.R_new' (Kd.R_new' (Kd.R_new' (Kd.R_new' ho1 (Kd.R_lt (by (with_reducible repeat (first | apply Kd.R_alloc | apply Kd.R_drewN | apply Kd.R_drew)); exact (Kd.R_mono (RF (g := gb298) (Kd.R_types HO275.out BK298.out (by decide)) (fun _ hk => hk.2)) (fun _ h_ => h_.1))))) (Kd.R_lt (by (with_reducible repeat (first | apply Kd.R_alloc | apply Kd.R_drewN | apply Kd.R_drew)); exact (Kd.R_mono (RF (g := gb298) (Kd.R_types HO278.out BK298.out (by decide)) (fun _ hk => hk.2)) (fun _ h_ => h_.1))))) (Kd.R_lt (by (with_reducible repeat (first | apply Kd.R_alloc | apply Kd.R_drewN | apply Kd.R_drew)); exact (Kd.R_mono (RF (g := gb298) (Kd.R_types HO284.out BK298.out (by decide)) (fun _ hk => hk.2)) (fun _ h_ => h_.1))))) (Kd.R_lt (by (with_reducible repeat (first | apply Kd.R_alloc | apply Kd.R_drewN | apply Kd.R_drew)); exact (Kd.R_mono (RF (g := gb298) (Kd.R_types HO287.out BK298.out (by decide)) (fun _ hk => hk.2)) (fun _ h_ => h_.1))))) (Kd.R_lt (by (with_reducible repeat (first | apply Kd.R_alloc | apply Kd.R_drewN | apply Kd.R_drew)); exact (Kd.R_mono (RF (g := gb298) (Kd.R_types HO294.out BK298.out (by decide)) (fun _ hk => hk.2)) (fun _ h_ => h_.1))))) (Kd.R_lt (by (with_reducible repeat (first | apply Kd.R_alloc | apply Kd.R_drewN | apply Kd.R_drew)); exact (Kd.R_mono (RF (g := gb298) (Kd.R_types HO297.out BK298.out (by decide)) (fun _ hk => hk.2)) (fun _ h_ => h_.1))))) (below_size (Bp HB))); replace HO275 := Aside0.mk (Kd.R_mono (Kd.R_told (Kd.R_told (Kd.R_old (by (with_reducible repeat (first | apply Kd.R_alloc | apply Kd.R_drewN | apply Kd.R_drew)); exact (Kd.R_mono (RF (g := gb298) (Kd.R_types HO275.out BK298.out (by decide)) (fun _ hk => hk.2)) (fun _ h_ => h_.1))) hb) (Kd.R_base ho1)) (Kd.R_base ho2)) (fun _ h_ => h_.1)); replace HO284 := Aside0.mk (Kd.R_mono (Kd.R_told (Kd.R_told (Kd.R_old (by (with_reducible repeat (first | apply Kd.R_alloc | apply Kd.R_drewN | apply Kd.R_drew)); exact (Kd.R_mono (RF (g := gb298) (Kd.R_types HO284.out BK298.out (by decide)) (fun _ hk => hk.2)) (fun _ h_ => h_.1))) hb) (Kd.R_base ho1)) (Kd.R_base ho2)) (fun _ h_ => h_.1)); replace HO294 := Aside0.mk (Kd.R_mono (Kd.R_told (Kd.R_told (Kd.R_old (by (with_reducible repeat (first | apply Kd.R_alloc | apply Kd.R_drewN | apply Kd.R_drew)); exact (Kd.R_mono (RF (g := gb298) (Kd.R_types HO294.out BK298.out (by decide)) (fun _ hk => hk.2)) (fun _ h_ => h_.1))) hb) (Kd.R_base ho1)) (Kd.R_base ho2)) (fun _ h_ => h_.1)); have HO307 := Aside0.mk (Kd.R_lower (Kd.R_new' (Kd.R_new' (Kd.R_new' ho2 (Kd.R_lt (by (with_reducible repeat (first | apply Kd.R_alloc | apply Kd.R_drewN | apply Kd.R_drew)); exact (Kd.R_mono (RF (g := gb298) (Kd.R_types HO278.out BK298.out (by decide)) (fun _ hk => hk.2)) (fun _ h_ => h_.1))))) (Kd.R_lt (by (with_reducible repeat (first | apply Kd.R_alloc | apply Kd.R_drewN | apply Kd.R_drew)); exact (Kd.R_mono (RF (g := gb298) (Kd.R_types HO287.out BK298.out (by decide)) (fun _ hk => hk.2)) (fun _ h_ => h_.1))))) (Kd.R_lt (by (with_reducible repeat (first | apply Kd.R_alloc | apply Kd.R_drewN | apply Kd.R_drew)); exact (Kd.R_mono (RF (g := gb298) (Kd.R_types HO297.out BK298.out (by decide)) (fun _ hk => hk.2)) (fun _ h_ => h_.1))))) (below_size (Bp HB))); replace HO278 := Aside0.mk (Kd.R_elder' (by (with_reducible repeat (first | apply Kd.R_alloc | apply Kd.R_drewN | apply Kd.R_drew)); exact (Kd.R_mono (RF (g := gb298) (Kd.R_types HO278.out BK298.out (by decide)) (fun _ hk => hk.2)) (fun _ h_ => h_.1))) (Kd.R_base ho2) hb); replace HO287 := Aside0.mk (Kd.R_elder' (by (with_reducible repeat (first | apply Kd.R_alloc | apply Kd.R_drewN | apply Kd.R_drew)); exact (Kd.R_mono (RF (g := gb298) (Kd.R_types HO287.out BK298.out (by decide)) (fun _ hk => hk.2)) (fun _ h_ => h_.1))) (Kd.R_base ho2) hb); replace HO297 := Aside0.mk (Kd.R_elder' (by (with_reducible repeat (first | apply Kd.R_alloc | apply Kd.R_drewN | apply Kd.R_drew)); exact (Kd.R_mono (RF (g := gb298) (Kd.R_types HO297.out BK298.out (by decide)) (fun _ hk => hk.2)) (fun _ h_ => h_.1))) (Kd.R_base ho2) hb); replace BK266 := Aside0.mk (blk_below (Kf BK266) hb); replace BK267 := Aside0.mk (blk_below (Kf BK267) hb); replace BK298 := Aside0.mk (blk_below (g := gb298) (o := .cells #[.slice Ao46 t289.length co46, .slice Ao50 t292.length co50, .slice Ao51 t295.length co51] 32 (0, 0)) (by (with_reducible repeat (first | refine blk_drewN ?_ _ | refine blk_drew ?_ | refine blk_alloc ?_ _)); refine blk_put (cs := #[.slice Ao46 t289.length co46, .slice Ao50 t292.length co50, .slice none 0 0]) ?_ 2 _ rfl; (with_reducible repeat (first | refine blk_drewN ?_ _ | refine blk_drew ?_ | refine blk_alloc ?_ _)); refine blk_put (cs := #[.slice Ao46 t289.length co46, .slice none 0 0, .slice none 0 0]) ?_ 1 _ rfl; (with_reducible repeat (first | refine blk_drewN ?_ _ | refine blk_drew ?_ | refine blk_alloc ?_ _)); refine blk_put (cs := #[.slice none 0 0, .slice none 0 0, .slice none 0 0]) ?_ 0 _ rfl; (with_reducible repeat (first | refine blk_drewN ?_ _ | refine blk_drew ?_ | refine blk_alloc ?_ _)); exact BK298.out) hb); replace HB := Bs HB hb; (try clear hb); (try clear hb2); (try clear hk); (try clear hi); (try clear ho0); (try clear ho1); (try clear ho2)) | ((with_reducible refine gate_dst (N := 8) rfl ?_); refine box_event ?hg (N := 8) ?hd (cs := #[.slice none 0 0, .slice none 0 0, .slice none 0 0]) (t := 32) ?hr ?_; (case hd => rfl); (case hg => rfl); (case hr => first | (go_simp; done) | (go_simp; rfl)); intro gb308 hg w54 hbox hb; replace HO272 := Rb HO272 hb; replace HO275 := Rb HO275 hb; replace HO278 := Rb HO278 hb; replace HO281 := Rb HO281 hb; replace HO284 := Rb HO284 hb; replace HO287 := Rb HO287 hb; replace HO291 := Rb HO291 hb; replace HO294 := Rb HO294 hb; replace HO297 := Rb HO297 hb; replace HO301 := Rb HO301 hb; replace HO304 := Rb HO304 hb; replace HO307 := Rb HO307 hb; have BK308 := Aside0.mk (hbox); have GW308 := Aside0.mk ((by rw [hg]; exact (below_size (Bp HB)) : w.heap.size ≤ gb308)); have GE308 := Aside0.mk ((by rw [hg]; exact (below_size (Bp HB)) : w.heap.size ≤ gb308)); replace HB := Bs HB hb; have NB266_308 := Aside0.mk ((by rw [hg]; exact Nat.ne_of_lt (blk_lt (Kp BK266)) : gb266 ≠ gb308)); have NB308_266 := Aside0.mk ((by rw [hg]; exact Nat.ne_of_gt (blk_lt (Kp BK266)) : gb308 ≠ gb266)); replace BK266 := Kb BK266 hb; have NB267_308 := Aside0.mk ((by rw [hg]; exact Nat.ne_of_lt (blk_lt (Kp BK267)) : gb267 ≠ gb308)); have NB308_267 := Aside0.mk ((by rw [hg]; exact Nat.ne_of_gt (blk_lt (Kp BK267)) : gb308 ≠ gb267)); replace BK267 := Kb BK267 hb; have NB298_308 := Aside0.mk ((by rw [hg]; exact Nat.ne_of_lt (blk_lt (Kp BK298)) : gb298 ≠ gb308)); have NB308_298 := Aside0.mk ((by rw [hg]; exact Nat.ne_of_gt (blk_lt (Kp BK298)) : gb308 ≠ gb298)); replace BK298 := Kb BK298 hb; clear hb hbox hg; obtain ⟨Ao55, co55, eo55⟩ := Kd.R_slice HO301.out; subst eo55; have hnb56 := NB308_266.out; have hnc56 := NB266_308.out; have hnb57 := NB308_267.out; have hnc57 := NB267_308.out; have hnb58 := NB308_298.out; have hnc58 := NB298_308.out; obtain ⟨hcz59_0, hcz59_1, hcz59_2⟩ := bc3 (W := w54) BK308.out; obtain ⟨hfz59_0, hfz59_1, hfz59_2⟩ := bf3 BK308.out; obtain ⟨Ao60, co60, eo60⟩ := Kd.R_slice HO304.out; subst eo60; obtain ⟨Ao61, co61, eo61⟩ := Kd.R_slice HO307.out; subst eo61; obtain ⟨hcz62_0, hcz62_1, hcz62_2⟩ := bc3 (W := w54) BK298.out; obtain ⟨hfz62_0, hfz62_1, hfz62_2⟩ := bf3 BK298.out) | ((with_reducible refine gate_callee (f := 15) rfl ?_); refine goesL_ (some 31) rfl rfl Try.func15 (by kernel_rfl) rfl #[.agg #[.slice Ao46 t289.length co46, .slice Ao50 t292.length co50, .slice Ao51 t295.length co51], .agg #[.slice Ao55 t299.length co55, .slice Ao60 t302.length co60, .slice Ao61 t305.length co61]] rfl (by (try simp only [List.map_toArray, List.map_cons, List.map_nil]); first | done | rfl | (simp only [List.length_drop, List.length_take]; rfl)) ?_; (with_reducible refine (impl_TreeSame.calls k _ _ t289 _ _ t292 _ _ t295 _ _ t299 _ _ t302 _ _ t305 t309 _ ?side1 ?side2 ?side3 ?side4 ?side5 ?side6 ?side7 ?side8 ?side9 ?side10 ?side11 ?side12 A24.out).mono ?_); (case side1 => refine (Kd.R_reads' (e := 9) (base := w.heap.size) (ok := fun k_ => (((True ∧ some k_ ≠ (.slice Ao36 t270.length co36 : Value).ownBlock) ∧ some k_ ≠ (.slice Ao39 t279.length co39 : Value).ownBlock) ∧ some k_ ≠ (.slice Ao55 t299.length co55 : Value).ownBlock)) (n := t289.length) (c := co46) ?_).2.2; exact (by (with_reducible repeat (first | apply Kd.R_alloc | apply Kd.R_drewN | apply Kd.R_drew)); exact (Kd.R_mono (RF (g := gb308) (Kd.R_types HO291.out BK308.out (by decide)) (fun _ hk => hk.2)) (fun _ h_ => h_.1)))); (case side2 => exact (Kd.R_reads' HO291.out).2.1); (case side3 => refine (Kd.R_reads' (e := 45) (base := w.heap.size) (ok := fun k_ => ((((((some k_ ≠ (.slice Ao51 t295.length co51 : Value).ownBlock ∧ some k_ ≠ (.slice Ao37 t273.length co37 : Value).ownBlock) ∧ some k_ ≠ (.slice Ao38 t276.length co38 : Value).ownBlock) ∧ some k_ ≠ (.slice Ao40 t282.length co40 : Value).ownBlock) ∧ some k_ ≠ (.slice Ao41 t285.length co41 : Value).ownBlock) ∧ some k_ ≠ (.slice Ao60 t302.length co60 : Value).ownBlock) ∧ some k_ ≠ (.slice Ao61 t305.length co61 : Value).ownBlock)) (n := t292.length) (c := co50) ?_).2.2; exact (by (with_reducible repeat (first | apply Kd.R_alloc | apply Kd.R_drewN | apply Kd.R_drew)); exact (Kd.R_mono (RF (g := gb308) (Kd.R_types HO294.out BK308.out (by decide)) (fun _ hk => hk.2)) (fun _ h_ => h_.1)))); (case side4 => exact (Kd.R_reads' HO294.out).2.1); (case side5 => refine (Kd.R_reads' (e := 43) (base := w.heap.size) (ok := fun k_ => (((True ∧ some k_ ≠ (.slice Ao38 t276.length co38 : Value).ownBlock) ∧ some k_ ≠ (.slice Ao41 t285.length co41 : Value).ownBlock) ∧ some k_ ≠ (.slice Ao61 t305.length co61 : Value).ownBlock)) (n := t295.length) (c := co51) ?_).2.2; exact (by (with_reducible repeat (first | apply Kd.R_alloc | apply Kd.R_drewN | apply Kd.R_drew)); exact (Kd.R_mono (RF (g := gb308) (Kd.R_types HO297.out BK308.out (by decide)) (fun _ hk => hk.2)) (fun _ h_ => h_.1)))); (case side6 => exact (Kd.R_reads' HO297.out).2.1); (case side7 => refine (Kd.R_reads' (e := 9) (base := w.heap.size) (ok := fun k_ => (((True ∧ some k_ ≠ (.slice Ao36 t270.length co36 : Value).ownBlock) ∧ some k_ ≠ (.slice Ao39 t279.length co39 : Value).ownBlock) ∧ some k_ ≠ (.slice Ao46 t289.length co46 : Value).ownBlock)) (n := t299.length) (c := co55) ?_).2.2; exact (by (with_reducible repeat (first | apply Kd.R_alloc | apply Kd.R_drewN | apply Kd.R_drew)); exact (Kd.R_mono (RF (g := gb308) (Kd.R_types HO301.out BK308.out (by decide)) (fun _ hk => hk.2)) (fun _ h_ => h_.1)))); (case side8 => exact (Kd.R_reads' HO301.out).2.1); (case side9 => refine (Kd.R_reads' (e := 45) (base := w.heap.size) (ok := fun k_ => ((((((some k_ ≠ (.slice Ao61 t305.length co61 : Value).ownBlock ∧ some k_ ≠ (.slice Ao37 t273.length co37 : Value).ownBlock) ∧ some k_ ≠ (.slice Ao38 t276.length co38 : Value).ownBlock) ∧ some k_ ≠ (.slice Ao40 t282.length co40 : Value).ownBlock) ∧ some k_ ≠ (.slice Ao41 t285.length co41 : Value).ownBlock) ∧ some k_ ≠ (.slice Ao50 t292.length co50 : Value).ownBlock) ∧ some k_ ≠ (.slice Ao51 t295.length co51 : Value).ownBlock)) (n := t302.length) (c := co60) ?_).2.2; exact (by (with_reducible repeat (first | apply Kd.R_alloc | apply Kd.R_drewN | apply Kd.R_drew)); exact (Kd.R_mono (RF (g := gb308) (Kd.R_types HO304.out BK308.out (by decide)) (fun _ hk => hk.2)) (fun _ h_ => h_.1)))); (case side10 => exact (Kd.R_reads' HO304.out).2.1); (case side11 => refine (Kd.R_reads' (e := 43) (base := w.heap.size) (ok := fun k_ => (((True ∧ some k_ ≠ (.slice Ao38 t276.length co38 : Value).ownBlock) ∧ some k_ ≠ (.slice Ao41 t285.length co41 : Value).ownBlock) ∧ some k_ ≠ (.slice Ao51 t295.length co51 : Value).ownBlock)) (n := t305.length) (c := co61) ?_).2.2; exact (by (with_reducible repeat (first | apply Kd.R_alloc | apply Kd.R_drewN | apply Kd.R_drew)); exact (Kd.R_mono (RF (g := gb308) (Kd.R_types HO307.out BK308.out (by decide)) (fun _ hk => hk.2)) (fun _ h_ => h_.1)))); (case side12 => exact (Kd.R_reads' HO307.out).2.1); rintro e w63 ⟨rfl, hb⟩; refine ⟨_, rfl, ?_⟩; replace HO272 := Aside0.mk (Kd.R_below (by (with_reducible repeat (first | apply Kd.R_alloc | apply Kd.R_drewN | apply Kd.R_drew)); exact (Kd.R_mono (RF (g := gb308) (Kd.R_types HO272.out BK308.out (by decide)) (fun _ hk => hk.2)) (fun _ h_ => h_.1))) hb); replace HO275 := Aside0.mk (Kd.R_below (by (with_reducible repeat (first | apply Kd.R_alloc | apply Kd.R_drewN | apply Kd.R_drew)); exact (Kd.R_mono (RF (g := gb308) (Kd.R_types HO275.out BK308.out (by decide)) (fun _ hk => hk.2)) (fun _ h_ => h_.1))) hb); replace HO278 := Aside0.mk (Kd.R_below (by (with_reducible repeat (first | apply Kd.R_alloc | apply Kd.R_drewN | apply Kd.R_drew)); exact (Kd.R_mono (RF (g := gb308) (Kd.R_types HO278.out BK308.out (by decide)) (fun _ hk => hk.2)) (fun _ h_ => h_.1))) hb); replace HO281 := Aside0.mk (Kd.R_below (by (with_reducible repeat (first | apply Kd.R_alloc | apply Kd.R_drewN | apply Kd.R_drew)); exact (Kd.R_mono (RF (g := gb308) (Kd.R_types HO281.out BK308.out (by decide)) (fun _ hk => hk.2)) (fun _ h_ => h_.1))) hb); replace HO284 := Aside0.mk (Kd.R_below (by (with_reducible repeat (first | apply Kd.R_alloc | apply Kd.R_drewN | apply Kd.R_drew)); exact (Kd.R_mono (RF (g := gb308) (Kd.R_types HO284.out BK308.out (by decide)) (fun _ hk => hk.2)) (fun _ h_ => h_.1))) hb); replace HO287 := Aside0.mk (Kd.R_below (by (with_reducible repeat (first | apply Kd.R_alloc | apply Kd.R_drewN | apply Kd.R_drew)); exact (Kd.R_mono (RF (g := gb308) (Kd.R_types HO287.out BK308.out (by decide)) (fun _ hk => hk.2)) (fun _ h_ => h_.1))) hb); replace HO291 := Aside0.mk (Kd.R_below (by (with_reducible repeat (first | apply Kd.R_alloc | apply Kd.R_drewN | apply Kd.R_drew)); exact (Kd.R_mono (RF (g := gb308) (Kd.R_types HO291.out BK308.out (by decide)) (fun _ hk => hk.2)) (fun _ h_ => h_.1))) hb); replace HO294 := Aside0.mk (Kd.R_below (by (with_reducible repeat (first | apply Kd.R_alloc | apply Kd.R_drewN | apply Kd.R_drew)); exact (Kd.R_mono (RF (g := gb308) (Kd.R_types HO294.out BK308.out (by decide)) (fun _ hk => hk.2)) (fun _ h_ => h_.1))) hb); replace HO297 := Aside0.mk (Kd.R_below (by (with_reducible repeat (first | apply Kd.R_alloc | apply Kd.R_drewN | apply Kd.R_drew)); exact (Kd.R_mono (RF (g := gb308) (Kd.R_types HO297.out BK308.out (by decide)) (fun _ hk => hk.2)) (fun _ h_ => h_.1))) hb); replace HO301 := Aside0.mk (Kd.R_below (by (with_reducible repeat (first | apply Kd.R_alloc | apply Kd.R_drewN | apply Kd.R_drew)); exact (Kd.R_mono (RF (g := gb308) (Kd.R_types HO301.out BK308.out (by decide)) (fun _ hk => hk.2)) (fun _ h_ => h_.1))) hb); replace HO304 := Aside0.mk (Kd.R_below (by (with_reducible repeat (first | apply Kd.R_alloc | apply Kd.R_drewN | apply Kd.R_drew)); exact (Kd.R_mono (RF (g := gb308) (Kd.R_types HO304.out BK308.out (by decide)) (fun _ hk => hk.2)) (fun _ h_ => h_.1))) hb); replace HO307 := Aside0.mk (Kd.R_below (by (with_reducible repeat (first | apply Kd.R_alloc | apply Kd.R_drewN | apply Kd.R_drew)); exact (Kd.R_mono (RF (g := gb308) (Kd.R_types HO307.out BK308.out (by decide)) (fun _ hk => hk.2)) (fun _ h_ => h_.1))) hb); replace BK266 := Aside0.mk (blk_below (Kf BK266) hb); replace BK267 := Aside0.mk (blk_below (Kf BK267) hb); replace BK298 := Aside0.mk (blk_below (Kf BK298) hb); replace BK308 := Aside0.mk (blk_below (g := gb308) (o := .cells #[.slice Ao55 t299.length co55, .slice Ao60 t302.length co60, .slice Ao61 t305.length co61] 32 (0, 0)) (by (with_reducible repeat (first | refine blk_drewN ?_ _ | refine blk_drew ?_ | refine blk_alloc ?_ _)); refine blk_put (cs := #[.slice Ao55 t299.length co55, .slice Ao60 t302.length co60, .slice none 0 0]) ?_ 2 _ rfl; (with_reducible repeat (first | refine blk_drewN ?_ _ | refine blk_drew ?_ | refine blk_alloc ?_ _)); refine blk_put (cs := #[.slice Ao55 t299.length co55, .slice none 0 0, .slice none 0 0]) ?_ 1 _ rfl; (with_reducible repeat (first | refine blk_drewN ?_ _ | refine blk_drew ?_ | refine blk_alloc ?_ _)); refine blk_put (cs := #[.slice none 0 0, .slice none 0 0, .slice none 0 0]) ?_ 0 _ rfl; (with_reducible repeat (first | refine blk_drewN ?_ _ | refine blk_drew ?_ | refine blk_alloc ?_ _)); exact BK308.out) hb); replace HB := Bs HB hb; (try clear hb); (try clear hb2); (try clear hk); (try clear hi)))
        go_ret
        exact ⟨by first | rfl | (simp [errW_none, errW_some] <;> rfl) | (simp [*, errW_none, errW_some] <;> rfl), Bp HB⟩
      · rw [if_neg c25] at H
        have c25b0 : (t309 != t288) = false := by simpa using c25
        (try (have c25b1 : decide (t309 = t288) = true := by simpa using c25))
        (try (have c25b2 : (t309 == t288) = true := by simpa using c25))
        clear c25
        replace H := Option.bind_eq_some_iff.mp H
        obtain ⟨⟨t310, t313, t316⟩, A640, H⟩ := H
        replace H : ((laws_eqTreeMod.f k t289 t292 t295 t310 t313 t316).bind fun t319 => (if t319 = true then ((laws_toTreeMod.f k l1_0 l1_1 l1_2).bind fun bt320 => ((laws_eqTreeMod.f k t299 t302 t305 bt320.1 bt320.2.1 bt320.2.2).bind fun t329 => (if t329 = true then (some true) else (some false)))) else (some false))) = some r := H
        have A64 := Aside0.mk A640
        clear A640
        replace H := Option.bind_eq_some_iff.mp H
        obtain ⟨t319, A650, H⟩ := H
        replace H : (if t319 = true then ((laws_toTreeMod.f k l1_0 l1_1 l1_2).bind fun bt320 => ((laws_eqTreeMod.f k t299 t302 t305 bt320.1 bt320.2.1 bt320.2.2).bind fun t329 => (if t329 = true then (some true) else (some false)))) else (some false)) = some r := H
        have A65 := Aside0.mk A650
        clear A650
        by_cases c66 : t319 = true
        · subst c66
          have H1 : ((laws_toTreeMod.f k l1_0 l1_1 l1_2).bind fun bt320 => ((laws_eqTreeMod.f k t299 t302 t305 bt320.1 bt320.2.1 bt320.2.2).bind fun t329 => (if t329 = true then (some true) else (some false)))) = some r := by rw [if_pos rfl] at H; exact H
          clear H
          have H := H1
          clear H1
          replace H := Option.bind_eq_some_iff.mp H
          obtain ⟨⟨t320, t323, t326⟩, A670, H⟩ := H
          replace H : ((laws_eqTreeMod.f k t299 t302 t305 t320 t323 t326).bind fun t329 => (if t329 = true then (some true) else (some false))) = some r := H
          have A67 := Aside0.mk A670
          clear A670
          replace H := Option.bind_eq_some_iff.mp H
          obtain ⟨t329, A680, H⟩ := H
          replace H : (if t329 = true then (some true) else (some false)) = some r := H
          have A68 := Aside0.mk A680
          clear A680
          by_cases c69 : t329 = true
          · subst c69
            have H1 : (some true) = some r := by rw [if_pos rfl] at H; exact H
            clear H
            have H := H1
            clear H1
            obtain rfl := Option.some.inj H
            go_enter Try.func3, Try.ntmps3
            try go_wp2_with (first | ((with_reducible refine gate_dst (N := 2) rfl ?_); refine box_event ?hg (N := 2) ?hd (cs := #[.slice A0_0 l0_0.length c0_0, .slice A0_1 l0_1.length c0_1, .slice A0_2 l0_2.length c0_2]) (t := 26) ?hr ?_; (case hd => rfl); (case hg => rfl); (case hr => first | (go_simp; done) | (go_simp; rfl)); intro gb266 hg w70 hbox hb; have BK266 := Aside0.mk (hbox); have GW266 := Aside0.mk ((by rw [hg]; exact (below_size (Bp HB)) : w.heap.size ≤ gb266)); have GE266 := Aside0.mk ((by rw [hg]; exact (below_size (Bp HB)) : w.heap.size ≤ gb266)); replace HB := Bs HB hb; clear hb hbox hg) | ((with_reducible refine gate_dst (N := 3) rfl ?_); refine box_event ?hg (N := 3) ?hd (cs := #[.slice A1_0 l1_0.length c1_0, .slice A1_1 l1_1.length c1_1, .slice A1_2 l1_2.length c1_2]) (t := 26) ?hr ?_; (case hd => rfl); (case hg => rfl); (case hr => first | (go_simp; done) | (go_simp; rfl)); intro gb267 hg w71 hbox hb; have BK267 := Aside0.mk (hbox); have GW267 := Aside0.mk ((by rw [hg]; exact (below_size (Bp HB)) : w.heap.size ≤ gb267)); have GE267 := Aside0.mk ((by rw [hg]; exact (below_size (Bp HB)) : w.heap.size ≤ gb267)); replace HB := Bs HB hb; have NB266_267 := Aside0.mk ((by rw [hg]; exact Nat.ne_of_lt (blk_lt (Kp BK266)) : gb266 ≠ gb267)); have NB267_266 := Aside0.mk ((by rw [hg]; exact Nat.ne_of_gt (blk_lt (Kp BK266)) : gb267 ≠ gb266)); replace BK266 := Kb BK266 hb; clear hb hbox hg; have hnb72 := NB266_267.out; have hnc72 := NB267_266.out; obtain ⟨hcz73_0, hcz73_1, hcz73_2⟩ := bc3 (W := w71) BK266.out; obtain ⟨hfz73_0, hfz73_1, hfz73_2⟩ := bf3 BK266.out) | ((with_reducible refine gate_callee (f := 12) rfl ?_); refine goesL_ (some 12) rfl rfl Try.func12 (by kernel_rfl) rfl #[.agg #[.slice A0_0 l0_0.length c0_0, .slice A0_1 l0_1.length c0_1, .slice A0_2 l0_2.length c0_2], .int .i64 1048576] rfl (by (try simp only [List.map_toArray, List.map_cons, List.map_nil]); first | done | rfl | (simp only [List.length_drop, List.length_take]; rfl)) ?_; (with_reducible refine (laws_szTreeMod.calls k _ _ l0_0 _ _ l0_1 _ _ l0_2 1048576 t268 _ ?side1 ?side2 ?side3 ?side4 ?side5 ?side6 A3.out).mono ?_); (case side1 => exact Cb HR0_0 HB); (case side2 => exact HC0_0.out); (case side3 => exact Cb HR0_1 HB); (case side4 => exact HC0_1.out); (case side5 => exact Cb HR0_2 HB); (case side6 => exact HC0_2.out); rintro e w74 ⟨rfl, hb⟩; refine ⟨_, rfl, ?_⟩; replace BK266 := Kb BK266 hb; replace BK267 := Kb BK267 hb; replace HB := Bs HB hb; (try clear hb); (try clear hb2); (try clear hk); (try clear hi); obtain ⟨hcz75_0, hcz75_1, hcz75_2⟩ := bc3 (W := w74) BK267.out; obtain ⟨hfz75_0, hfz75_1, hfz75_2⟩ := bf3 BK267.out) | ((with_reducible refine gate_callee (f := 12) rfl ?_); refine goesL_ (some 17) rfl rfl Try.func12 (by kernel_rfl) rfl #[.agg #[.slice A1_0 l1_0.length c1_0, .slice A1_1 l1_1.length c1_1, .slice A1_2 l1_2.length c1_2], .int .i64 t268] rfl (by (try simp only [List.map_toArray, List.map_cons, List.map_nil]); first | done | rfl | (simp only [List.length_drop, List.length_take]; rfl)) ?_; (with_reducible refine (laws_szTreeMod.calls k _ _ l1_0 _ _ l1_1 _ _ l1_2 t268 t269 _ ?side1 ?side2 ?side3 ?side4 ?side5 ?side6 A10.out).mono ?_); (case side1 => exact Cb HR1_0 HB); (case side2 => exact HC1_0.out); (case side3 => exact Cb HR1_1 HB); (case side4 => exact HC1_1.out); (case side5 => exact Cb HR1_2 HB); (case side6 => exact HC1_2.out); rintro e w76 ⟨rfl, hb⟩; refine ⟨_, rfl, ?_⟩; replace BK266 := Kb BK266 hb; replace BK267 := Kb BK267 hb; replace HB := Bs HB hb; (try clear hb); (try clear hb2); (try clear hk); (try clear hi)))
            replace BK266 := Aside0.mk (blk_drew BK266.out)
            replace BK267 := Aside0.mk (blk_drew BK267.out)
            replace HB := Aside0.mk (below_drew1 HB.out)
            refine start_ (n := 6) (S := fun w' => w'.cell? ⟨gb266, 0, none⟩ = some (.slice A0_0 l0_0.length c0_0) ∧ w'.cell? ⟨gb266, 1, none⟩ = some (.slice A0_1 l0_1.length c0_1) ∧ w'.cell? ⟨gb266, 2, none⟩ = some (.slice A0_2 l0_2.length c0_2) ∧ w'.cell? ⟨gb267, 0, none⟩ = some (.slice A1_0 l1_0.length c1_0) ∧ w'.cell? ⟨gb267, 1, none⟩ = some (.slice A1_1 l1_1.length c1_1) ∧ w'.cell? ⟨gb267, 2, none⟩ = some (.slice A1_2 l1_2.length c1_2)) (ds := []) #[false, false, false, false, false, false] (by kernel_rfl) rfl rfl ⟨(blk_cell BK266.out 0).trans rfl, (blk_cell BK266.out 1).trans rfl, (blk_cell BK266.out 2).trans rfl, (blk_cell BK267.out 0).trans rfl, (blk_cell BK267.out 1).trans rfl, (blk_cell BK267.out 2).trans rfl⟩ (fun hHeld => ?_)
            generalize w76.drew = w77 at BK266 BK267 HB hHeld ⊢
            refine take_ (i := 0) (N := some 20) (v := ?_) (a' := ?_) #[true, false, false, false, false, false] rfl rfl (by kernel_rfl) (fun _ _ _ h => h) (Or.inl ⟨by rfl, ?_⟩) hHeld ?_ ?_
            rotate_left
            · rintro w' ⟨s0, s1, s2, s3, s4, s5⟩
              go_simp
              with_reducible rfl
            rotate_left
            · simp only [Act.put, List.setIfInBounds_toArray, List.set_cons_zero, List.set_cons_succ, i64_w, i32_w]
              rfl
            refine take_ (i := 2) (N := some 22) (v := ?_) (a' := ?_) #[true, false, true, false, false, false] rfl rfl (by kernel_rfl) (fun _ _ _ h => h) (Or.inl ⟨by rfl, ?_⟩) hHeld ?_ ?_
            rotate_left
            · rintro w' ⟨s0, s1, s2, s3, s4, s5⟩
              go_simp
              with_reducible rfl
            rotate_left
            · simp only [Act.put, List.setIfInBounds_toArray, List.set_cons_zero, List.set_cons_succ, i64_w, i32_w]
              rfl
            refine one_ (i := 1) (N := some 21) #[true, true, true, false, false, false] rfl rfl (by kernel_rfl) (by decide) (fun K hK => ?_)
            refine goes_ Try.func14 (by kernel_rfl) rfl #[.agg #[.slice A0_0 l0_0.length c0_0, .slice A0_1 l0_1.length c0_1, .slice A0_2 l0_2.length c0_2]] (by rfl) rfl rfl (by (try simp only [List.map_toArray, List.map_cons, List.map_nil]); first | done | rfl | (simp only [List.length_drop, List.length_take]; rfl)) ?_
            with_reducible refine (laws_toTreeMod.calls k _ _ l0_0 _ _ l0_1 _ _ l0_2 t270 t273 t276 _ ?side1 ?side2 ?side3 ?side4 ?side5 ?side6 A19.out).mono ?_
            (case side1 => exact Cb HR0_0 HB)
            (case side2 => exact HC0_0.out)
            (case side3 => exact Cb HR0_1 HB)
            (case side4 => exact HC0_1.out)
            (case side5 => exact Cb HR0_2 HB)
            (case side6 => exact HC0_2.out)
            rintro e w78 ⟨v271, v274, v277, rfl, ho0, ho1, ho2, hb⟩
            refine ⟨_, rfl, ?_⟩
            have HO272 := Aside0.mk (Kd.R_lower ho0 (below_size (Bp HB)))
            have HO275 := Aside0.mk (Kd.R_lower ho1 (below_size (Bp HB)))
            have HO278 := Aside0.mk (Kd.R_lower ho2 (below_size (Bp HB)))
            replace BK266 := Kb BK266 hb
            replace BK267 := Kb BK267 hb
            replace HB := Bs HB hb
            (try clear hb)
            (try clear hb2)
            (try clear hk)
            (try clear hi)
            (try clear ho0)
            (try clear ho1)
            (try clear ho2)
            refine hK.out _ _ ⟨(blk_cell BK266.out 0).trans rfl, (blk_cell BK266.out 1).trans rfl, (blk_cell BK266.out 2).trans rfl, (blk_cell BK267.out 0).trans rfl, (blk_cell BK267.out 1).trans rfl, (blk_cell BK267.out 2).trans rfl⟩ (fun hHeld => ?_)
            clear hK K
            refine norm_ (a' := ?_) ?_ ?_
            rotate_left
            · show Act.put _ (some 21) _ = _
              simp only [Act.put, List.setIfInBounds_toArray, List.set_cons_zero, List.set_cons_succ, i64_w, i32_w]
              rfl
            refine one_ (i := 3) (N := some 23) #[true, true, true, true, false, false] rfl rfl (by kernel_rfl) (by decide) (fun K hK => ?_)
            refine goes_ Try.func14 (by kernel_rfl) rfl #[.agg #[.slice A1_0 l1_0.length c1_0, .slice A1_1 l1_1.length c1_1, .slice A1_2 l1_2.length c1_2]] (by rfl) rfl rfl (by (try simp only [List.map_toArray, List.map_cons, List.map_nil]); first | done | rfl | (simp only [List.length_drop, List.length_take]; rfl)) ?_
            with_reducible refine (laws_toTreeMod.calls k _ _ l1_0 _ _ l1_1 _ _ l1_2 t279 t282 t285 _ ?side1 ?side2 ?side3 ?side4 ?side5 ?side6 A20.out).mono ?_
            (case side1 => exact Cb HR1_0 HB)
            (case side2 => exact HC1_0.out)
            (case side3 => exact Cb HR1_1 HB)
            (case side4 => exact HC1_1.out)
            (case side5 => exact Cb HR1_2 HB)
            (case side6 => exact HC1_2.out)
            rintro e w79 ⟨v280, v283, v286, rfl, ho0, ho1, ho2, hb⟩
            refine ⟨_, rfl, ?_⟩
            have HO281 := Aside0.mk (Rl (Kd.R_new' ho0 (Rt HO272)) HB)
            replace HO272 := Aside0.mk (Re HO272 ho0 hb)
            have HO284 := Aside0.mk (Rl (Kd.R_new' (Kd.R_new' ho1 (Rt HO275)) (Rt HO278)) HB)
            replace HO275 := Aside0.mk (Kd.R_mono (Kd.R_told (Kd.R_told (Kd.R_old (Rp HO275) hb) (Kd.R_base ho1)) (Kd.R_base ho2)) (fun _ h_ => h_.1))
            have HO287 := Aside0.mk (Rl (Kd.R_new' ho2 (Rt HO278)) HB)
            replace HO278 := Aside0.mk (Re HO278 ho2 hb)
            replace BK266 := Kb BK266 hb
            replace BK267 := Kb BK267 hb
            replace HB := Bs HB hb
            (try clear hb)
            (try clear hb2)
            (try clear hk)
            (try clear hi)
            (try clear ho0)
            (try clear ho1)
            (try clear ho2)
            obtain ⟨Ao80, co80, eo80⟩ := Kd.R_slice HO272.out
            (first | subst eo80 | (injection eo80 with f1_ f2_ f3_; have f4_ := f1_.symm; have f5_ := f3_.symm; clear f1_ f2_ f3_; subst f4_; subst f5_))
            obtain ⟨Ao81, co81, eo81⟩ := Kd.R_slice HO275.out
            (first | subst eo81 | (injection eo81 with f1_ f2_ f3_; have f4_ := f1_.symm; have f5_ := f3_.symm; clear f1_ f2_ f3_; subst f4_; subst f5_))
            obtain ⟨Ao82, co82, eo82⟩ := Kd.R_slice HO278.out
            (first | subst eo82 | (injection eo82 with f1_ f2_ f3_; have f4_ := f1_.symm; have f5_ := f3_.symm; clear f1_ f2_ f3_; subst f4_; subst f5_))
            obtain ⟨Ao83, co83, eo83⟩ := Kd.R_slice HO281.out
            (first | subst eo83 | (injection eo83 with f1_ f2_ f3_; have f4_ := f1_.symm; have f5_ := f3_.symm; clear f1_ f2_ f3_; subst f4_; subst f5_))
            obtain ⟨Ao84, co84, eo84⟩ := Kd.R_slice HO284.out
            (first | subst eo84 | (injection eo84 with f1_ f2_ f3_; have f4_ := f1_.symm; have f5_ := f3_.symm; clear f1_ f2_ f3_; subst f4_; subst f5_))
            obtain ⟨Ao85, co85, eo85⟩ := Kd.R_slice HO287.out
            (first | subst eo85 | (injection eo85 with f1_ f2_ f3_; have f4_ := f1_.symm; have f5_ := f3_.symm; clear f1_ f2_ f3_; subst f4_; subst f5_))
            refine hK.out _ _ ⟨(blk_cell BK266.out 0).trans rfl, (blk_cell BK266.out 1).trans rfl, (blk_cell BK266.out 2).trans rfl, (blk_cell BK267.out 0).trans rfl, (blk_cell BK267.out 1).trans rfl, (blk_cell BK267.out 2).trans rfl⟩ (fun hHeld => ?_)
            clear hK K
            refine norm_ (a' := ?_) ?_ ?_
            rotate_left
            · show Act.put _ (some 23) _ = _
              simp only [Act.put, List.setIfInBounds_toArray, List.set_cons_zero, List.set_cons_succ, i64_w, i32_w]
              rfl
            refine one_ (i := 4) (N := some 24) #[true, true, true, true, true, false] rfl rfl (by kernel_rfl) (by decide) (fun K hK => ?_)
            refine goes_ Try.func13 (by kernel_rfl) rfl #[.agg #[.slice Ao80 t270.length co80, .slice Ao81 t273.length co81, .slice Ao82 t276.length co82], .agg #[.slice Ao83 t279.length co83, .slice Ao84 t282.length co84, .slice Ao85 t285.length co85]] (by rfl) rfl rfl (by (try simp only [List.map_toArray, List.map_cons, List.map_nil]); first | done | rfl | (simp only [List.length_drop, List.length_take]; rfl)) ?_
            with_reducible refine (spec_TreeSame.calls k _ _ t270 _ _ t273 _ _ t276 _ _ t279 _ _ t282 _ _ t285 t288 _ ?side1 ?side2 ?side3 ?side4 ?side5 ?side6 ?side7 ?side8 ?side9 ?side10 ?side11 ?side12 A21.out).mono ?_
            (case side1 => repeat (first | exact (Kd.R_reads' HO272.out).2.2 | (with_reducible refine Kd.C_alloc ?_ _) | (with_reducible refine Kd.C_drewN ?_ _) | (with_reducible refine Kd.C_drew ?_)))
            (case side2 => exact (Kd.R_reads' HO272.out).2.1)
            (case side3 => repeat (first | exact (Kd.R_reads' HO275.out).2.2 | (with_reducible refine Kd.C_alloc ?_ _) | (with_reducible refine Kd.C_drewN ?_ _) | (with_reducible refine Kd.C_drew ?_)))
            (case side4 => exact (Kd.R_reads' HO275.out).2.1)
            (case side5 => repeat (first | exact (Kd.R_reads' HO278.out).2.2 | (with_reducible refine Kd.C_alloc ?_ _) | (with_reducible refine Kd.C_drewN ?_ _) | (with_reducible refine Kd.C_drew ?_)))
            (case side6 => exact (Kd.R_reads' HO278.out).2.1)
            (case side7 => repeat (first | exact (Kd.R_reads' HO281.out).2.2 | (with_reducible refine Kd.C_alloc ?_ _) | (with_reducible refine Kd.C_drewN ?_ _) | (with_reducible refine Kd.C_drew ?_)))
            (case side8 => exact (Kd.R_reads' HO281.out).2.1)
            (case side9 => repeat (first | exact (Kd.R_reads' HO284.out).2.2 | (with_reducible refine Kd.C_alloc ?_ _) | (with_reducible refine Kd.C_drewN ?_ _) | (with_reducible refine Kd.C_drew ?_)))
            (case side10 => exact (Kd.R_reads' HO284.out).2.1)
            (case side11 => repeat (first | exact (Kd.R_reads' HO287.out).2.2 | (with_reducible refine Kd.C_alloc ?_ _) | (with_reducible refine Kd.C_drewN ?_ _) | (with_reducible refine Kd.C_drew ?_)))
            (case side12 => exact (Kd.R_reads' HO287.out).2.1)
            rintro e w86 ⟨rfl, hb⟩
            refine ⟨_, rfl, ?_⟩
            replace HO272 := Rb HO272 hb
            replace HO275 := Rb HO275 hb
            replace HO278 := Rb HO278 hb
            replace HO281 := Rb HO281 hb
            replace HO284 := Rb HO284 hb
            replace HO287 := Rb HO287 hb
            replace BK266 := Kb BK266 hb
            replace BK267 := Kb BK267 hb
            replace HB := Bs HB hb
            (try clear hb)
            (try clear hb2)
            (try clear hk)
            (try clear hi)
            refine hK.out _ _ ⟨(blk_cell BK266.out 0).trans rfl, (blk_cell BK266.out 1).trans rfl, (blk_cell BK266.out 2).trans rfl, (blk_cell BK267.out 0).trans rfl, (blk_cell BK267.out 1).trans rfl, (blk_cell BK267.out 2).trans rfl⟩ (fun hHeld => ?_)
            clear hK K
            refine norm_ (a' := ?_) ?_ ?_
            rotate_left
            · show Act.put _ (some 24) _ = _
              simp only [Act.put, List.setIfInBounds_toArray, List.set_cons_zero, List.set_cons_succ, i64_w, i32_w]
              rfl
            refine pure_ (i := 5) (N := some 6) (v := ?_) (a' := ?_) #[true, true, true, true, true, true] rfl rfl (by kernel_rfl) (fun _ _ _ h => h) (Or.inl ⟨by rfl, ?_⟩) ?_ ?_
            rotate_left
            · intro w'
              go_simp
              with_reducible rfl
            rotate_left
            · simp only [Act.put, List.setIfInBounds_toArray, List.set_cons_zero, List.set_cons_succ, i64_w, i32_w]
              rfl
            refine done_ (by kernel_rfl) ?_
            obtain ⟨hcz87_0, hcz87_1, hcz87_2⟩ := bc3 (W := w86) BK266.out
            obtain ⟨hfz87_0, hfz87_1, hfz87_2⟩ := bf3 BK266.out
            try go_wp2_with (first | ((with_reducible refine gate_callee (f := 14) rfl ?_); refine goesL_ (some 26) rfl rfl Try.func14 (by kernel_rfl) rfl #[.agg #[.slice A0_0 l0_0.length c0_0, .slice A0_1 l0_1.length c0_1, .slice A0_2 l0_2.length c0_2]] rfl (by (try simp only [List.map_toArray, List.map_cons, List.map_nil]); first | done | rfl | (simp only [List.length_drop, List.length_take]; rfl)) ?_; (with_reducible refine (laws_toTreeMod.calls k _ _ l0_0 _ _ l0_1 _ _ l0_2 t289 t292 t295 _ ?side1 ?side2 ?side3 ?side4 ?side5 ?side6 A22.out).mono ?_); (case side1 => exact Cb HR0_0 HB); (case side2 => exact HC0_0.out); (case side3 => exact Cb HR0_1 HB); (case side4 => exact HC0_1.out); (case side5 => exact Cb HR0_2 HB); (case side6 => exact HC0_2.out); rintro e w88 ⟨v290, v293, v296, rfl, ho0, ho1, ho2, hb⟩; refine ⟨_, rfl, ?_⟩; have HO291 := Aside0.mk (Rl (Kd.R_new' (Kd.R_new' ho0 (Rt HO272)) (Rt HO281)) HB); replace HO272 := Aside0.mk (Re HO272 ho0 hb); replace HO281 := Aside0.mk (Re HO281 ho0 hb); have HO294 := Aside0.mk (Kd.R_lower (Kd.R_new' (Kd.R_new' (Kd.R_new' (Kd.R_new' ho1 (Rt HO275)) (Rt HO278)) (Rt HO284)) (Rt HO287)) (below_size (Bp HB))); replace HO275 := Aside0.mk (Kd.R_mono (Kd.R_told (Kd.R_told (Kd.R_old (Rp HO275) hb) (Kd.R_base ho1)) (Kd.R_base ho2)) (fun _ h_ => h_.1)); replace HO284 := Aside0.mk (Kd.R_mono (Kd.R_told (Kd.R_told (Kd.R_old (Rp HO284) hb) (Kd.R_base ho1)) (Kd.R_base ho2)) (fun _ h_ => h_.1)); have HO297 := Aside0.mk (Rl (Kd.R_new' (Kd.R_new' ho2 (Rt HO278)) (Rt HO287)) HB); replace HO278 := Aside0.mk (Re HO278 ho2 hb); replace HO287 := Aside0.mk (Re HO287 ho2 hb); replace BK266 := Kb BK266 hb; replace BK267 := Kb BK267 hb; replace HB := Bs HB hb; (try clear hb); (try clear hb2); (try clear hk); (try clear hi); (try clear ho0); (try clear ho1); (try clear ho2)) | ((with_reducible refine gate_dst (N := 7) rfl ?_); refine box_event ?hg (N := 7) ?hd (cs := #[.slice none 0 0, .slice none 0 0, .slice none 0 0]) (t := 32) ?hr ?_; (case hd => rfl); (case hg => rfl); (case hr => first | (go_simp; done) | (go_simp; rfl)); intro gb298 hg w89 hbox hb; replace HO272 := Rb HO272 hb; replace HO275 := Rb HO275 hb; replace HO278 := Rb HO278 hb; replace HO281 := Rb HO281 hb; replace HO284 := Rb HO284 hb; replace HO287 := Rb HO287 hb; replace HO291 := Rb HO291 hb; replace HO294 := Rb HO294 hb; replace HO297 := Rb HO297 hb; have BK298 := Aside0.mk (hbox); have GW298 := Aside0.mk ((by rw [hg]; exact (below_size (Bp HB)) : w.heap.size ≤ gb298)); have GE298 := Aside0.mk ((by rw [hg]; exact (below_size (Bp HB)) : w.heap.size ≤ gb298)); replace HB := Bs HB hb; have NB266_298 := Aside0.mk ((by rw [hg]; exact Nat.ne_of_lt (blk_lt (Kp BK266)) : gb266 ≠ gb298)); have NB298_266 := Aside0.mk ((by rw [hg]; exact Nat.ne_of_gt (blk_lt (Kp BK266)) : gb298 ≠ gb266)); replace BK266 := Kb BK266 hb; have NB267_298 := Aside0.mk ((by rw [hg]; exact Nat.ne_of_lt (blk_lt (Kp BK267)) : gb267 ≠ gb298)); have NB298_267 := Aside0.mk ((by rw [hg]; exact Nat.ne_of_gt (blk_lt (Kp BK267)) : gb298 ≠ gb267)); replace BK267 := Kb BK267 hb; clear hb hbox hg; obtain ⟨Ao90, co90, eo90⟩ := Kd.R_slice HO291.out; subst eo90; have hnb91 := NB298_266.out; have hnc91 := NB266_298.out; have hnb92 := NB298_267.out; have hnc92 := NB267_298.out; obtain ⟨hcz93_0, hcz93_1, hcz93_2⟩ := bc3 (W := w89) BK298.out; obtain ⟨hfz93_0, hfz93_1, hfz93_2⟩ := bf3 BK298.out; obtain ⟨Ao94, co94, eo94⟩ := Kd.R_slice HO294.out; subst eo94; obtain ⟨Ao95, co95, eo95⟩ := Kd.R_slice HO297.out; subst eo95; obtain ⟨hcz96_0, hcz96_1, hcz96_2⟩ := bc3 (W := w89) BK267.out; obtain ⟨hfz96_0, hfz96_1, hfz96_2⟩ := bf3 BK267.out) | ((with_reducible refine gate_callee (f := 14) rfl ?_); refine goesL_ (some 28) rfl rfl Try.func14 (by kernel_rfl) rfl #[.agg #[.slice A1_0 l1_0.length c1_0, .slice A1_1 l1_1.length c1_1, .slice A1_2 l1_2.length c1_2]] rfl (by (try simp only [List.map_toArray, List.map_cons, List.map_nil]); first | done | rfl | (simp only [List.length_drop, List.length_take]; rfl)) ?_; (with_reducible refine (laws_toTreeMod.calls k _ _ l1_0 _ _ l1_1 _ _ l1_2 t299 t302 t305 _ ?side1 ?side2 ?side3 ?side4 ?side5 ?side6 A23.out).mono ?_); (case side1 => exact Kd.C_below HR1_0.out (Bp HB)); (case side2 => exact HC1_0.out); (case side3 => exact Kd.C_below HR1_1.out (Bp HB)); (case side4 => exact HC1_1.out); (case side5 => exact Kd.C_below HR1_2.out (Bp HB)); (case side6 => exact HC1_2.out); rintro e w97 ⟨v300, v303, v306, rfl, ho0, ho1, ho2, hb⟩; refine ⟨_, rfl, ?_⟩; have HO301 := Aside0.mk (Kd.R_lower (Kd.R_new' (Kd.R_new' (Kd.R_new' ho0 (Kd.R_lt (by (with_reducible repeat (first | apply Kd.R_alloc | apply Kd.R_drewN | apply Kd.R_drew)); exact (Kd.R_mono (RF (g := gb298) (Kd.R_types HO272.out BK298.out (by decide)) (fun _ hk => hk.2)) (fun _ h_ => h_.1))))) (Kd.R_lt (by (with_reducible repeat (first | apply Kd.R_alloc | apply Kd.R_drewN | apply Kd.R_drew)); exact (Kd.R_mono (RF (g := gb298) (Kd.R_types HO281.out BK298.out (by decide)) (fun _ hk => hk.2)) (fun _ h_ => h_.1))))) (Kd.R_lt (by (with_reducible repeat (first | apply Kd.R_alloc | apply Kd.R_drewN | apply Kd.R_drew)); exact (Kd.R_mono (RF (g := gb298) (Kd.R_types HO291.out BK298.out (by decide)) (fun _ hk => hk.2)) (fun _ h_ => h_.1))))) (below_size (Bp HB))); replace HO272 := Aside0.mk (Kd.R_elder' (by (with_reducible repeat (first | apply Kd.R_alloc | apply Kd.R_drewN | apply Kd.R_drew)); exact (Kd.R_mono (RF (g := gb298) (Kd.R_types HO272.out BK298.out (by decide)) (fun _ hk => hk.2)) (fun _ h_ => h_.1))) (Kd.R_base ho0) hb); replace HO281 := Aside0.mk (Kd.R_elder' (by (with_reducible repeat (first | apply Kd.R_alloc | apply Kd.R_drewN | apply Kd.R_drew)); exact (Kd.R_mono (RF (g := gb298) (Kd.R_types HO281.out BK298.out (by decide)) (fun _ hk => hk.2)) (fun _ h_ => h_.1))) (Kd.R_base ho0) hb); replace HO291 := Aside0.mk (Kd.R_elder' (by (with_reducible repeat (first | apply Kd.R_alloc | apply Kd.R_drewN | apply Kd.R_drew)); exact (Kd.R_mono (RF (g := gb298) (Kd.R_types HO291.out BK298.out (by decide)) (fun _ hk => hk.2)) (fun _ h_ => h_.1))) (Kd.R_base ho0) hb); have HO304 := Aside0.mk (Kd.R_lower (Kd.R_new' (Kd.R_new' (Kd.R_new' (Kd.R_new' (Kd.R_new' (Kd.R_new' ho1 (Kd.R_lt (by (with_reducible repeat (first | apply Kd.R_alloc | apply Kd.R_drewN | apply Kd.R_drew)); exact (Kd.R_mono (RF (g := gb298) (Kd.R_types HO275.out BK298.out (by decide)) (fun _ hk => hk.2)) (fun _ h_ => h_.1))))) (Kd.R_lt (by (with_reducible repeat (first | apply Kd.R_alloc | apply Kd.R_drewN | apply Kd.R_drew)); exact (Kd.R_mono (RF (g := gb298) (Kd.R_types HO278.out BK298.out (by decide)) (fun _ hk => hk.2)) (fun _ h_ => h_.1))))) (Kd.R_lt (by (with_reducible repeat (first | apply Kd.R_alloc | apply Kd.R_drewN | apply Kd.R_drew)); exact (Kd.R_mono (RF (g := gb298) (Kd.R_types HO284.out BK298.out (by decide)) (fun _ hk => hk.2)) (fun _ h_ => h_.1))))) (Kd.R_lt (by (with_reducible repeat (first | apply Kd.R_alloc | apply Kd.R_drewN | apply Kd.R_drew)); exact (Kd.R_mono (RF (g := gb298) (Kd.R_types HO287.out BK298.out (by decide)) (fun _ hk => hk.2)) (fun _ h_ => h_.1))))) (Kd.R_lt (by (with_reducible repeat (first | apply Kd.R_alloc | apply Kd.R_drewN | apply Kd.R_drew)); exact (Kd.R_mono (RF (g := gb298) (Kd.R_types HO294.out BK298.out (by decide)) (fun _ hk => hk.2)) (fun _ h_ => h_.1))))) (Kd.R_lt (by (with_reducible repeat (first | apply Kd.R_alloc | apply Kd.R_drewN | apply Kd.R_drew)); exact (Kd.R_mono (RF (g := gb298) (Kd.R_types HO297.out BK298.out (by decide)) (fun _ hk => hk.2)) (fun _ h_ => h_.1))))) (below_size (Bp HB))); replace HO275 := Aside0.mk (Kd.R_mono (Kd.R_told (Kd.R_told (Kd.R_old (by (with_reducible repeat (first | apply Kd.R_alloc | apply Kd.R_drewN | apply Kd.R_drew)); exact (Kd.R_mono (RF (g := gb298) (Kd.R_types HO275.out BK298.out (by decide)) (fun _ hk => hk.2)) (fun _ h_ => h_.1))) hb) (Kd.R_base ho1)) (Kd.R_base ho2)) (fun _ h_ => h_.1)); replace HO284 := Aside0.mk (Kd.R_mono (Kd.R_told (Kd.R_told (Kd.R_old (by (with_reducible repeat (first | apply Kd.R_alloc | apply Kd.R_drewN | apply Kd.R_drew)); exact (Kd.R_mono (RF (g := gb298) (Kd.R_types HO284.out BK298.out (by decide)) (fun _ hk => hk.2)) (fun _ h_ => h_.1))) hb) (Kd.R_base ho1)) (Kd.R_base ho2)) (fun _ h_ => h_.1)); replace HO294 := Aside0.mk (Kd.R_mono (Kd.R_told (Kd.R_told (Kd.R_old (by (with_reducible repeat (first | apply Kd.R_alloc | apply Kd.R_drewN | apply Kd.R_drew)); exact (Kd.R_mono (RF (g := gb298) (Kd.R_types HO294.out BK298.out (by decide)) (fun _ hk => hk.2)) (fun _ h_ => h_.1))) hb) (Kd.R_base ho1)) (Kd.R_base ho2)) (fun _ h_ => h_.1)); have HO307 := Aside0.mk (Kd.R_lower (Kd.R_new' (Kd.R_new' (Kd.R_new' ho2 (Kd.R_lt (by (with_reducible repeat (first | apply Kd.R_alloc | apply Kd.R_drewN | apply Kd.R_drew)); exact (Kd.R_mono (RF (g := gb298) (Kd.R_types HO278.out BK298.out (by decide)) (fun _ hk => hk.2)) (fun _ h_ => h_.1))))) (Kd.R_lt (by (with_reducible repeat (first | apply Kd.R_alloc | apply Kd.R_drewN | apply Kd.R_drew)); exact (Kd.R_mono (RF (g := gb298) (Kd.R_types HO287.out BK298.out (by decide)) (fun _ hk => hk.2)) (fun _ h_ => h_.1))))) (Kd.R_lt (by (with_reducible repeat (first | apply Kd.R_alloc | apply Kd.R_drewN | apply Kd.R_drew)); exact (Kd.R_mono (RF (g := gb298) (Kd.R_types HO297.out BK298.out (by decide)) (fun _ hk => hk.2)) (fun _ h_ => h_.1))))) (below_size (Bp HB))); replace HO278 := Aside0.mk (Kd.R_elder' (by (with_reducible repeat (first | apply Kd.R_alloc | apply Kd.R_drewN | apply Kd.R_drew)); exact (Kd.R_mono (RF (g := gb298) (Kd.R_types HO278.out BK298.out (by decide)) (fun _ hk => hk.2)) (fun _ h_ => h_.1))) (Kd.R_base ho2) hb); replace HO287 := Aside0.mk (Kd.R_elder' (by (with_reducible repeat (first | apply Kd.R_alloc | apply Kd.R_drewN | apply Kd.R_drew)); exact (Kd.R_mono (RF (g := gb298) (Kd.R_types HO287.out BK298.out (by decide)) (fun _ hk => hk.2)) (fun _ h_ => h_.1))) (Kd.R_base ho2) hb); replace HO297 := Aside0.mk (Kd.R_elder' (by (with_reducible repeat (first | apply Kd.R_alloc | apply Kd.R_drewN | apply Kd.R_drew)); exact (Kd.R_mono (RF (g := gb298) (Kd.R_types HO297.out BK298.out (by decide)) (fun _ hk => hk.2)) (fun _ h_ => h_.1))) (Kd.R_base ho2) hb); replace BK266 := Aside0.mk (blk_below (Kf BK266) hb); replace BK267 := Aside0.mk (blk_below (Kf BK267) hb); replace BK298 := Aside0.mk (blk_below (g := gb298) (o := .cells #[.slice Ao90 t289.length co90, .slice Ao94 t292.length co94, .slice Ao95 t295.length co95] 32 (0, 0)) (by (with_reducible repeat (first | refine blk_drewN ?_ _ | refine blk_drew ?_ | refine blk_alloc ?_ _)); refine blk_put (cs := #[.slice Ao90 t289.length co90, .slice Ao94 t292.length co94, .slice none 0 0]) ?_ 2 _ rfl; (with_reducible repeat (first | refine blk_drewN ?_ _ | refine blk_drew ?_ | refine blk_alloc ?_ _)); refine blk_put (cs := #[.slice Ao90 t289.length co90, .slice none 0 0, .slice none 0 0]) ?_ 1 _ rfl; (with_reducible repeat (first | refine blk_drewN ?_ _ | refine blk_drew ?_ | refine blk_alloc ?_ _)); refine blk_put (cs := #[.slice none 0 0, .slice none 0 0, .slice none 0 0]) ?_ 0 _ rfl; (with_reducible repeat (first | refine blk_drewN ?_ _ | refine blk_drew ?_ | refine blk_alloc ?_ _)); exact BK298.out) hb); replace HB := Bs HB hb; (try clear hb); (try clear hb2); (try clear hk); (try clear hi); (try clear ho0); (try clear ho1); (try clear ho2)) | ((with_reducible refine gate_dst (N := 8) rfl ?_); refine box_event ?hg (N := 8) ?hd (cs := #[.slice none 0 0, .slice none 0 0, .slice none 0 0]) (t := 32) ?hr ?_; (case hd => rfl); (case hg => rfl); (case hr => first | (go_simp; done) | (go_simp; rfl)); intro gb308 hg w98 hbox hb; replace HO272 := Rb HO272 hb; replace HO275 := Rb HO275 hb; replace HO278 := Rb HO278 hb; replace HO281 := Rb HO281 hb; replace HO284 := Rb HO284 hb; replace HO287 := Rb HO287 hb; replace HO291 := Rb HO291 hb; replace HO294 := Rb HO294 hb; replace HO297 := Rb HO297 hb; replace HO301 := Rb HO301 hb; replace HO304 := Rb HO304 hb; replace HO307 := Rb HO307 hb; have BK308 := Aside0.mk (hbox); have GW308 := Aside0.mk ((by rw [hg]; exact (below_size (Bp HB)) : w.heap.size ≤ gb308)); have GE308 := Aside0.mk ((by rw [hg]; exact (below_size (Bp HB)) : w.heap.size ≤ gb308)); replace HB := Bs HB hb; have NB266_308 := Aside0.mk ((by rw [hg]; exact Nat.ne_of_lt (blk_lt (Kp BK266)) : gb266 ≠ gb308)); have NB308_266 := Aside0.mk ((by rw [hg]; exact Nat.ne_of_gt (blk_lt (Kp BK266)) : gb308 ≠ gb266)); replace BK266 := Kb BK266 hb; have NB267_308 := Aside0.mk ((by rw [hg]; exact Nat.ne_of_lt (blk_lt (Kp BK267)) : gb267 ≠ gb308)); have NB308_267 := Aside0.mk ((by rw [hg]; exact Nat.ne_of_gt (blk_lt (Kp BK267)) : gb308 ≠ gb267)); replace BK267 := Kb BK267 hb; have NB298_308 := Aside0.mk ((by rw [hg]; exact Nat.ne_of_lt (blk_lt (Kp BK298)) : gb298 ≠ gb308)); have NB308_298 := Aside0.mk ((by rw [hg]; exact Nat.ne_of_gt (blk_lt (Kp BK298)) : gb308 ≠ gb298)); replace BK298 := Kb BK298 hb; clear hb hbox hg; obtain ⟨Ao99, co99, eo99⟩ := Kd.R_slice HO301.out; subst eo99; have hnb100 := NB308_266.out; have hnc100 := NB266_308.out; have hnb101 := NB308_267.out; have hnc101 := NB267_308.out; have hnb102 := NB308_298.out; have hnc102 := NB298_308.out; obtain ⟨hcz103_0, hcz103_1, hcz103_2⟩ := bc3 (W := w98) BK308.out; obtain ⟨hfz103_0, hfz103_1, hfz103_2⟩ := bf3 BK308.out; obtain ⟨Ao104, co104, eo104⟩ := Kd.R_slice HO304.out; subst eo104; obtain ⟨Ao105, co105, eo105⟩ := Kd.R_slice HO307.out; subst eo105; obtain ⟨hcz106_0, hcz106_1, hcz106_2⟩ := bc3 (W := w98) BK298.out; obtain ⟨hfz106_0, hfz106_1, hfz106_2⟩ := bf3 BK298.out) | ((with_reducible refine gate_callee (f := 15) rfl ?_); refine goesL_ (some 31) rfl rfl Try.func15 (by kernel_rfl) rfl #[.agg #[.slice Ao90 t289.length co90, .slice Ao94 t292.length co94, .slice Ao95 t295.length co95], .agg #[.slice Ao99 t299.length co99, .slice Ao104 t302.length co104, .slice Ao105 t305.length co105]] rfl (by (try simp only [List.map_toArray, List.map_cons, List.map_nil]); first | done | rfl | (simp only [List.length_drop, List.length_take]; rfl)) ?_; (with_reducible refine (impl_TreeSame.calls k _ _ t289 _ _ t292 _ _ t295 _ _ t299 _ _ t302 _ _ t305 t309 _ ?side1 ?side2 ?side3 ?side4 ?side5 ?side6 ?side7 ?side8 ?side9 ?side10 ?side11 ?side12 A24.out).mono ?_); (case side1 => refine (Kd.R_reads' (e := 9) (base := w.heap.size) (ok := fun k_ => (((True ∧ some k_ ≠ (.slice Ao80 t270.length co80 : Value).ownBlock) ∧ some k_ ≠ (.slice Ao83 t279.length co83 : Value).ownBlock) ∧ some k_ ≠ (.slice Ao99 t299.length co99 : Value).ownBlock)) (n := t289.length) (c := co90) ?_).2.2; exact (by (with_reducible repeat (first | apply Kd.R_alloc | apply Kd.R_drewN | apply Kd.R_drew)); exact (Kd.R_mono (RF (g := gb308) (Kd.R_types HO291.out BK308.out (by decide)) (fun _ hk => hk.2)) (fun _ h_ => h_.1)))); (case side2 => exact (Kd.R_reads' HO291.out).2.1); (case side3 => refine (Kd.R_reads' (e := 45) (base := w.heap.size) (ok := fun k_ => ((((((some k_ ≠ (.slice Ao95 t295.length co95 : Value).ownBlock ∧ some k_ ≠ (.slice Ao81 t273.length co81 : Value).ownBlock) ∧ some k_ ≠ (.slice Ao82 t276.length co82 : Value).ownBlock) ∧ some k_ ≠ (.slice Ao84 t282.length co84 : Value).ownBlock) ∧ some k_ ≠ (.slice Ao85 t285.length co85 : Value).ownBlock) ∧ some k_ ≠ (.slice Ao104 t302.length co104 : Value).ownBlock) ∧ some k_ ≠ (.slice Ao105 t305.length co105 : Value).ownBlock)) (n := t292.length) (c := co94) ?_).2.2; exact (by (with_reducible repeat (first | apply Kd.R_alloc | apply Kd.R_drewN | apply Kd.R_drew)); exact (Kd.R_mono (RF (g := gb308) (Kd.R_types HO294.out BK308.out (by decide)) (fun _ hk => hk.2)) (fun _ h_ => h_.1)))); (case side4 => exact (Kd.R_reads' HO294.out).2.1); (case side5 => refine (Kd.R_reads' (e := 43) (base := w.heap.size) (ok := fun k_ => (((True ∧ some k_ ≠ (.slice Ao82 t276.length co82 : Value).ownBlock) ∧ some k_ ≠ (.slice Ao85 t285.length co85 : Value).ownBlock) ∧ some k_ ≠ (.slice Ao105 t305.length co105 : Value).ownBlock)) (n := t295.length) (c := co95) ?_).2.2; exact (by (with_reducible repeat (first | apply Kd.R_alloc | apply Kd.R_drewN | apply Kd.R_drew)); exact (Kd.R_mono (RF (g := gb308) (Kd.R_types HO297.out BK308.out (by decide)) (fun _ hk => hk.2)) (fun _ h_ => h_.1)))); (case side6 => exact (Kd.R_reads' HO297.out).2.1); (case side7 => refine (Kd.R_reads' (e := 9) (base := w.heap.size) (ok := fun k_ => (((True ∧ some k_ ≠ (.slice Ao80 t270.length co80 : Value).ownBlock) ∧ some k_ ≠ (.slice Ao83 t279.length co83 : Value).ownBlock) ∧ some k_ ≠ (.slice Ao90 t289.length co90 : Value).ownBlock)) (n := t299.length) (c := co99) ?_).2.2; exact (by (with_reducible repeat (first | apply Kd.R_alloc | apply Kd.R_drewN | apply Kd.R_drew)); exact (Kd.R_mono (RF (g := gb308) (Kd.R_types HO301.out BK308.out (by decide)) (fun _ hk => hk.2)) (fun _ h_ => h_.1)))); (case side8 => exact (Kd.R_reads' HO301.out).2.1); (case side9 => refine (Kd.R_reads' (e := 45) (base := w.heap.size) (ok := fun k_ => ((((((some k_ ≠ (.slice Ao105 t305.length co105 : Value).ownBlock ∧ some k_ ≠ (.slice Ao81 t273.length co81 : Value).ownBlock) ∧ some k_ ≠ (.slice Ao82 t276.length co82 : Value).ownBlock) ∧ some k_ ≠ (.slice Ao84 t282.length co84 : Value).ownBlock) ∧ some k_ ≠ (.slice Ao85 t285.length co85 : Value).ownBlock) ∧ some k_ ≠ (.slice Ao94 t292.length co94 : Value).ownBlock) ∧ some k_ ≠ (.slice Ao95 t295.length co95 : Value).ownBlock)) (n := t302.length) (c := co104) ?_).2.2; exact (by (with_reducible repeat (first | apply Kd.R_alloc | apply Kd.R_drewN | apply Kd.R_drew)); exact (Kd.R_mono (RF (g := gb308) (Kd.R_types HO304.out BK308.out (by decide)) (fun _ hk => hk.2)) (fun _ h_ => h_.1)))); (case side10 => exact (Kd.R_reads' HO304.out).2.1); (case side11 => refine (Kd.R_reads' (e := 43) (base := w.heap.size) (ok := fun k_ => (((True ∧ some k_ ≠ (.slice Ao82 t276.length co82 : Value).ownBlock) ∧ some k_ ≠ (.slice Ao85 t285.length co85 : Value).ownBlock) ∧ some k_ ≠ (.slice Ao95 t295.length co95 : Value).ownBlock)) (n := t305.length) (c := co105) ?_).2.2; exact (by (with_reducible repeat (first | apply Kd.R_alloc | apply Kd.R_drewN | apply Kd.R_drew)); exact (Kd.R_mono (RF (g := gb308) (Kd.R_types HO307.out BK308.out (by decide)) (fun _ hk => hk.2)) (fun _ h_ => h_.1)))); (case side12 => exact (Kd.R_reads' HO307.out).2.1); rintro e w107 ⟨rfl, hb⟩; refine ⟨_, rfl, ?_⟩; replace HO272 := Aside0.mk (Kd.R_below (by (with_reducible repeat (first | apply Kd.R_alloc | apply Kd.R_drewN | apply Kd.R_drew)); exact (Kd.R_mono (RF (g := gb308) (Kd.R_types HO272.out BK308.out (by decide)) (fun _ hk => hk.2)) (fun _ h_ => h_.1))) hb); replace HO275 := Aside0.mk (Kd.R_below (by (with_reducible repeat (first | apply Kd.R_alloc | apply Kd.R_drewN | apply Kd.R_drew)); exact (Kd.R_mono (RF (g := gb308) (Kd.R_types HO275.out BK308.out (by decide)) (fun _ hk => hk.2)) (fun _ h_ => h_.1))) hb); replace HO278 := Aside0.mk (Kd.R_below (by (with_reducible repeat (first | apply Kd.R_alloc | apply Kd.R_drewN | apply Kd.R_drew)); exact (Kd.R_mono (RF (g := gb308) (Kd.R_types HO278.out BK308.out (by decide)) (fun _ hk => hk.2)) (fun _ h_ => h_.1))) hb); replace HO281 := Aside0.mk (Kd.R_below (by (with_reducible repeat (first | apply Kd.R_alloc | apply Kd.R_drewN | apply Kd.R_drew)); exact (Kd.R_mono (RF (g := gb308) (Kd.R_types HO281.out BK308.out (by decide)) (fun _ hk => hk.2)) (fun _ h_ => h_.1))) hb); replace HO284 := Aside0.mk (Kd.R_below (by (with_reducible repeat (first | apply Kd.R_alloc | apply Kd.R_drewN | apply Kd.R_drew)); exact (Kd.R_mono (RF (g := gb308) (Kd.R_types HO284.out BK308.out (by decide)) (fun _ hk => hk.2)) (fun _ h_ => h_.1))) hb); replace HO287 := Aside0.mk (Kd.R_below (by (with_reducible repeat (first | apply Kd.R_alloc | apply Kd.R_drewN | apply Kd.R_drew)); exact (Kd.R_mono (RF (g := gb308) (Kd.R_types HO287.out BK308.out (by decide)) (fun _ hk => hk.2)) (fun _ h_ => h_.1))) hb); replace HO291 := Aside0.mk (Kd.R_below (by (with_reducible repeat (first | apply Kd.R_alloc | apply Kd.R_drewN | apply Kd.R_drew)); exact (Kd.R_mono (RF (g := gb308) (Kd.R_types HO291.out BK308.out (by decide)) (fun _ hk => hk.2)) (fun _ h_ => h_.1))) hb); replace HO294 := Aside0.mk (Kd.R_below (by (with_reducible repeat (first | apply Kd.R_alloc | apply Kd.R_drewN | apply Kd.R_drew)); exact (Kd.R_mono (RF (g := gb308) (Kd.R_types HO294.out BK308.out (by decide)) (fun _ hk => hk.2)) (fun _ h_ => h_.1))) hb); replace HO297 := Aside0.mk (Kd.R_below (by (with_reducible repeat (first | apply Kd.R_alloc | apply Kd.R_drewN | apply Kd.R_drew)); exact (Kd.R_mono (RF (g := gb308) (Kd.R_types HO297.out BK308.out (by decide)) (fun _ hk => hk.2)) (fun _ h_ => h_.1))) hb); replace HO301 := Aside0.mk (Kd.R_below (by (with_reducible repeat (first | apply Kd.R_alloc | apply Kd.R_drewN | apply Kd.R_drew)); exact (Kd.R_mono (RF (g := gb308) (Kd.R_types HO301.out BK308.out (by decide)) (fun _ hk => hk.2)) (fun _ h_ => h_.1))) hb); replace HO304 := Aside0.mk (Kd.R_below (by (with_reducible repeat (first | apply Kd.R_alloc | apply Kd.R_drewN | apply Kd.R_drew)); exact (Kd.R_mono (RF (g := gb308) (Kd.R_types HO304.out BK308.out (by decide)) (fun _ hk => hk.2)) (fun _ h_ => h_.1))) hb); replace HO307 := Aside0.mk (Kd.R_below (by (with_reducible repeat (first | apply Kd.R_alloc | apply Kd.R_drewN | apply Kd.R_drew)); exact (Kd.R_mono (RF (g := gb308) (Kd.R_types HO307.out BK308.out (by decide)) (fun _ hk => hk.2)) (fun _ h_ => h_.1))) hb); replace BK266 := Aside0.mk (blk_below (Kf BK266) hb); replace BK267 := Aside0.mk (blk_below (Kf BK267) hb); replace BK298 := Aside0.mk (blk_below (Kf BK298) hb); replace BK308 := Aside0.mk (blk_below (g := gb308) (o := .cells #[.slice Ao99 t299.length co99, .slice Ao104 t302.length co104, .slice Ao105 t305.length co105] 32 (0, 0)) (by (with_reducible repeat (first | refine blk_drewN ?_ _ | refine blk_drew ?_ | refine blk_alloc ?_ _)); refine blk_put (cs := #[.slice Ao99 t299.length co99, .slice Ao104 t302.length co104, .slice none 0 0]) ?_ 2 _ rfl; (with_reducible repeat (first | refine blk_drewN ?_ _ | refine blk_drew ?_ | refine blk_alloc ?_ _)); refine blk_put (cs := #[.slice Ao99 t299.length co99, .slice none 0 0, .slice none 0 0]) ?_ 1 _ rfl; (with_reducible repeat (first | refine blk_drewN ?_ _ | refine blk_drew ?_ | refine blk_alloc ?_ _)); refine blk_put (cs := #[.slice none 0 0, .slice none 0 0, .slice none 0 0]) ?_ 0 _ rfl; (with_reducible repeat (first | refine blk_drewN ?_ _ | refine blk_drew ?_ | refine blk_alloc ?_ _)); exact BK308.out) hb); replace HB := Bs HB hb; (try clear hb); (try clear hb2); (try clear hk); (try clear hi)))
            replace HO272 := Aside0.mk (Kd.R_drew HO272.out)
            replace HO275 := Aside0.mk (Kd.R_drew HO275.out)
            replace HO278 := Aside0.mk (Kd.R_drew HO278.out)
            replace HO281 := Aside0.mk (Kd.R_drew HO281.out)
            replace HO284 := Aside0.mk (Kd.R_drew HO284.out)
            replace HO287 := Aside0.mk (Kd.R_drew HO287.out)
            replace HO291 := Aside0.mk (Kd.R_drew HO291.out)
            replace HO294 := Aside0.mk (Kd.R_drew HO294.out)
            replace HO297 := Aside0.mk (Kd.R_drew HO297.out)
            replace HO301 := Aside0.mk (Kd.R_drew HO301.out)
            replace HO304 := Aside0.mk (Kd.R_drew HO304.out)
            replace HO307 := Aside0.mk (Kd.R_drew HO307.out)
            replace BK266 := Aside0.mk (blk_drew BK266.out)
            replace BK267 := Aside0.mk (blk_drew BK267.out)
            replace BK298 := Aside0.mk (blk_drew BK298.out)
            replace BK308 := Aside0.mk (blk_drew BK308.out)
            replace HB := Aside0.mk (below_drew1 HB.out)
            refine start_ (n := 5) (S := fun w' => w'.cell? ⟨gb298, 0, none⟩ = some (.slice Ao90 t289.length co90) ∧ w'.cell? ⟨gb298, 1, none⟩ = some (.slice Ao94 t292.length co94) ∧ w'.cell? ⟨gb298, 2, none⟩ = some (.slice Ao95 t295.length co95) ∧ w'.cell? ⟨gb266, 0, none⟩ = some (.slice A0_0 l0_0.length c0_0) ∧ w'.cell? ⟨gb266, 1, none⟩ = some (.slice A0_1 l0_1.length c0_1) ∧ w'.cell? ⟨gb266, 2, none⟩ = some (.slice A0_2 l0_2.length c0_2)) (ds := []) #[false, false, false, false, false] (by kernel_rfl) rfl rfl ⟨(blk_cell BK298.out 0).trans rfl, (blk_cell BK298.out 1).trans rfl, (blk_cell BK298.out 2).trans rfl, (blk_cell BK266.out 0).trans rfl, (blk_cell BK266.out 1).trans rfl, (blk_cell BK266.out 2).trans rfl⟩ (fun hHeld => ?_)
            generalize w107.drew = w108 at HO272 HO275 HO278 HO281 HO284 HO287 HO291 HO294 HO297 HO301 HO304 HO307 BK266 BK267 BK298 BK308 HB hHeld ⊢
            refine take_ (i := 0) (N := some 35) (v := ?_) (a' := ?_) #[true, false, false, false, false] rfl rfl (by kernel_rfl) (fun _ _ _ h => h) (Or.inl ⟨by rfl, ?_⟩) hHeld ?_ ?_
            rotate_left
            · rintro w' ⟨s0, s1, s2, s3, s4, s5⟩
              go_simp
              with_reducible rfl
            rotate_left
            · simp only [Act.put, List.setIfInBounds_toArray, List.set_cons_zero, List.set_cons_succ, i64_w, i32_w]
              rfl
            refine take_ (i := 1) (N := some 36) (v := ?_) (a' := ?_) #[true, true, false, false, false] rfl rfl (by kernel_rfl) (fun _ _ _ h => h) (Or.inl ⟨by rfl, ?_⟩) hHeld ?_ ?_
            rotate_left
            · rintro w' ⟨s0, s1, s2, s3, s4, s5⟩
              go_simp
              with_reducible rfl
            rotate_left
            · simp only [Act.put, List.setIfInBounds_toArray, List.set_cons_zero, List.set_cons_succ, i64_w, i32_w]
              rfl
            refine one_ (i := 2) (N := some 37) #[true, true, true, false, false] rfl rfl (by kernel_rfl) (by decide) (fun K hK => ?_)
            refine goes_ Try.func14 (by kernel_rfl) rfl #[.agg #[.slice A0_0 l0_0.length c0_0, .slice A0_1 l0_1.length c0_1, .slice A0_2 l0_2.length c0_2]] (by rfl) rfl rfl (by (try simp only [List.map_toArray, List.map_cons, List.map_nil]); first | done | rfl | (simp only [List.length_drop, List.length_take]; rfl)) ?_
            with_reducible refine (laws_toTreeMod.calls k _ _ l0_0 _ _ l0_1 _ _ l0_2 t310 t313 t316 _ ?side1 ?side2 ?side3 ?side4 ?side5 ?side6 A64.out).mono ?_
            (case side1 => exact Cb HR0_0 HB)
            (case side2 => exact HC0_0.out)
            (case side3 => exact Cb HR0_1 HB)
            (case side4 => exact HC0_1.out)
            (case side5 => exact Cb HR0_2 HB)
            (case side6 => exact HC0_2.out)
            rintro e w109 ⟨v311, v314, v317, rfl, ho0, ho1, ho2, hb⟩
            refine ⟨_, rfl, ?_⟩
            have HO312 := Aside0.mk (Kd.R_lower (Kd.R_new' (Kd.R_new' (Kd.R_new' (Kd.R_new' ho0 (Rt HO272)) (Rt HO281)) (Rt HO291)) (Rt HO301)) (below_size (Bp HB)))
            replace HO272 := Aside0.mk (Re HO272 ho0 hb)
            replace HO281 := Aside0.mk (Re HO281 ho0 hb)
            replace HO291 := Aside0.mk (Re HO291 ho0 hb)
            replace HO301 := Aside0.mk (Re HO301 ho0 hb)
            have HO315 := Aside0.mk (Kd.R_lower (Kd.R_new' (Kd.R_new' (Kd.R_new' (Kd.R_new' (Kd.R_new' (Kd.R_new' (Kd.R_new' (Kd.R_new' ho1 (Rt HO275)) (Rt HO278)) (Rt HO284)) (Rt HO287)) (Rt HO294)) (Rt HO297)) (Rt HO304)) (Rt HO307)) (below_size (Bp HB)))
            replace HO275 := Aside0.mk (Kd.R_mono (Kd.R_told (Kd.R_told (Kd.R_old (Rp HO275) hb) (Kd.R_base ho1)) (Kd.R_base ho2)) (fun _ h_ => h_.1))
            replace HO284 := Aside0.mk (Kd.R_mono (Kd.R_told (Kd.R_told (Kd.R_old (Rp HO284) hb) (Kd.R_base ho1)) (Kd.R_base ho2)) (fun _ h_ => h_.1))
            replace HO294 := Aside0.mk (Kd.R_mono (Kd.R_told (Kd.R_told (Kd.R_old (Rp HO294) hb) (Kd.R_base ho1)) (Kd.R_base ho2)) (fun _ h_ => h_.1))
            replace HO304 := Aside0.mk (Kd.R_mono (Kd.R_told (Kd.R_told (Kd.R_old (Rp HO304) hb) (Kd.R_base ho1)) (Kd.R_base ho2)) (fun _ h_ => h_.1))
            have HO318 := Aside0.mk (Kd.R_lower (Kd.R_new' (Kd.R_new' (Kd.R_new' (Kd.R_new' ho2 (Rt HO278)) (Rt HO287)) (Rt HO297)) (Rt HO307)) (below_size (Bp HB)))
            replace HO278 := Aside0.mk (Re HO278 ho2 hb)
            replace HO287 := Aside0.mk (Re HO287 ho2 hb)
            replace HO297 := Aside0.mk (Re HO297 ho2 hb)
            replace HO307 := Aside0.mk (Re HO307 ho2 hb)
            replace BK266 := Kb BK266 hb
            replace BK267 := Kb BK267 hb
            replace BK298 := Kb BK298 hb
            replace BK308 := Kb BK308 hb
            replace HB := Bs HB hb
            (try clear hb)
            (try clear hb2)
            (try clear hk)
            (try clear hi)
            (try clear ho0)
            (try clear ho1)
            (try clear ho2)
            obtain ⟨Ao110, co110, eo110⟩ := Kd.R_slice HO312.out
            (first | subst eo110 | (injection eo110 with f1_ f2_ f3_; have f4_ := f1_.symm; have f5_ := f3_.symm; clear f1_ f2_ f3_; subst f4_; subst f5_))
            obtain ⟨Ao111, co111, eo111⟩ := Kd.R_slice HO315.out
            (first | subst eo111 | (injection eo111 with f1_ f2_ f3_; have f4_ := f1_.symm; have f5_ := f3_.symm; clear f1_ f2_ f3_; subst f4_; subst f5_))
            obtain ⟨Ao112, co112, eo112⟩ := Kd.R_slice HO318.out
            (first | subst eo112 | (injection eo112 with f1_ f2_ f3_; have f4_ := f1_.symm; have f5_ := f3_.symm; clear f1_ f2_ f3_; subst f4_; subst f5_))
            refine hK.out _ _ ⟨(blk_cell BK298.out 0).trans rfl, (blk_cell BK298.out 1).trans rfl, (blk_cell BK298.out 2).trans rfl, (blk_cell BK266.out 0).trans rfl, (blk_cell BK266.out 1).trans rfl, (blk_cell BK266.out 2).trans rfl⟩ (fun hHeld => ?_)
            clear hK K
            refine norm_ (a' := ?_) ?_ ?_
            rotate_left
            · show Act.put _ (some 37) _ = _
              simp only [Act.put, List.setIfInBounds_toArray, List.set_cons_zero, List.set_cons_succ, i64_w, i32_w]
              rfl
            refine one_ (i := 3) (N := some 38) #[true, true, true, true, false] rfl rfl (by kernel_rfl) (by decide) (fun K hK => ?_)
            refine goes_ Try.func16 (by kernel_rfl) rfl #[.agg #[.slice Ao90 t289.length co90, .slice Ao94 t292.length co94, .slice Ao95 t295.length co95], .agg #[.slice Ao110 t310.length co110, .slice Ao111 t313.length co111, .slice Ao112 t316.length co112]] (by rfl) rfl rfl (by (try simp only [List.map_toArray, List.map_cons, List.map_nil]); first | done | rfl | (simp only [List.length_drop, List.length_take]; rfl)) ?_
            with_reducible refine (laws_eqTreeMod.calls k _ _ t289 _ _ t292 _ _ t295 _ _ t310 _ _ t313 _ _ t316 true _ ?side1 ?side2 ?side3 ?side4 ?side5 ?side6 ?side7 ?side8 ?side9 ?side10 ?side11 ?side12 A65.out).mono ?_
            (case side1 => repeat (first | exact (Kd.R_reads' HO291.out).2.2 | (with_reducible refine Kd.C_alloc ?_ _) | (with_reducible refine Kd.C_drewN ?_ _) | (with_reducible refine Kd.C_drew ?_)))
            (case side2 => exact (Kd.R_reads' HO291.out).2.1)
            (case side3 => repeat (first | exact (Kd.R_reads' HO294.out).2.2 | (with_reducible refine Kd.C_alloc ?_ _) | (with_reducible refine Kd.C_drewN ?_ _) | (with_reducible refine Kd.C_drew ?_)))
            (case side4 => exact (Kd.R_reads' HO294.out).2.1)
            (case side5 => repeat (first | exact (Kd.R_reads' HO297.out).2.2 | (with_reducible refine Kd.C_alloc ?_ _) | (with_reducible refine Kd.C_drewN ?_ _) | (with_reducible refine Kd.C_drew ?_)))
            (case side6 => exact (Kd.R_reads' HO297.out).2.1)
            (case side7 => repeat (first | exact (Kd.R_reads' HO312.out).2.2 | (with_reducible refine Kd.C_alloc ?_ _) | (with_reducible refine Kd.C_drewN ?_ _) | (with_reducible refine Kd.C_drew ?_)))
            (case side8 => exact (Kd.R_reads' HO312.out).2.1)
            (case side9 => repeat (first | exact (Kd.R_reads' HO315.out).2.2 | (with_reducible refine Kd.C_alloc ?_ _) | (with_reducible refine Kd.C_drewN ?_ _) | (with_reducible refine Kd.C_drew ?_)))
            (case side10 => exact (Kd.R_reads' HO315.out).2.1)
            (case side11 => repeat (first | exact (Kd.R_reads' HO318.out).2.2 | (with_reducible refine Kd.C_alloc ?_ _) | (with_reducible refine Kd.C_drewN ?_ _) | (with_reducible refine Kd.C_drew ?_)))
            (case side12 => exact (Kd.R_reads' HO318.out).2.1)
            rintro e w113 ⟨rfl, hb⟩
            refine ⟨_, rfl, ?_⟩
            replace HO272 := Rb HO272 hb
            replace HO275 := Rb HO275 hb
            replace HO278 := Rb HO278 hb
            replace HO281 := Rb HO281 hb
            replace HO284 := Rb HO284 hb
            replace HO287 := Rb HO287 hb
            replace HO291 := Rb HO291 hb
            replace HO294 := Rb HO294 hb
            replace HO297 := Rb HO297 hb
            replace HO301 := Rb HO301 hb
            replace HO304 := Rb HO304 hb
            replace HO307 := Rb HO307 hb
            replace HO312 := Rb HO312 hb
            replace HO315 := Rb HO315 hb
            replace HO318 := Rb HO318 hb
            replace BK266 := Kb BK266 hb
            replace BK267 := Kb BK267 hb
            replace BK298 := Kb BK298 hb
            replace BK308 := Kb BK308 hb
            replace HB := Bs HB hb
            (try clear hb)
            (try clear hb2)
            (try clear hk)
            (try clear hi)
            refine hK.out _ _ ⟨(blk_cell BK298.out 0).trans rfl, (blk_cell BK298.out 1).trans rfl, (blk_cell BK298.out 2).trans rfl, (blk_cell BK266.out 0).trans rfl, (blk_cell BK266.out 1).trans rfl, (blk_cell BK266.out 2).trans rfl⟩ (fun hHeld => ?_)
            clear hK K
            refine norm_ (a' := ?_) ?_ ?_
            rotate_left
            · show Act.put _ (some 38) _ = _
              simp only [Act.put, List.setIfInBounds_toArray, List.set_cons_zero, List.set_cons_succ, i64_w, i32_w]
              rfl
            refine pure_ (i := 4) (N := some 39) (v := ?_) (a' := ?_) #[true, true, true, true, true] rfl rfl (by kernel_rfl) (fun _ _ _ h => h) (Or.inl ⟨by rfl, ?_⟩) ?_ ?_
            rotate_left
            · intro w'
              go_simp
              with_reducible rfl
            rotate_left
            · simp only [Act.put, List.setIfInBounds_toArray, List.set_cons_zero, List.set_cons_succ, i64_w, i32_w]
              rfl
            refine done_ (by kernel_rfl) ?_
            try go_wp2
            replace HO272 := Aside0.mk (Kd.R_drew HO272.out)
            replace HO275 := Aside0.mk (Kd.R_drew HO275.out)
            replace HO278 := Aside0.mk (Kd.R_drew HO278.out)
            replace HO281 := Aside0.mk (Kd.R_drew HO281.out)
            replace HO284 := Aside0.mk (Kd.R_drew HO284.out)
            replace HO287 := Aside0.mk (Kd.R_drew HO287.out)
            replace HO291 := Aside0.mk (Kd.R_drew HO291.out)
            replace HO294 := Aside0.mk (Kd.R_drew HO294.out)
            replace HO297 := Aside0.mk (Kd.R_drew HO297.out)
            replace HO301 := Aside0.mk (Kd.R_drew HO301.out)
            replace HO304 := Aside0.mk (Kd.R_drew HO304.out)
            replace HO307 := Aside0.mk (Kd.R_drew HO307.out)
            replace HO312 := Aside0.mk (Kd.R_drew HO312.out)
            replace HO315 := Aside0.mk (Kd.R_drew HO315.out)
            replace HO318 := Aside0.mk (Kd.R_drew HO318.out)
            replace BK266 := Aside0.mk (blk_drew BK266.out)
            replace BK267 := Aside0.mk (blk_drew BK267.out)
            replace BK298 := Aside0.mk (blk_drew BK298.out)
            replace BK308 := Aside0.mk (blk_drew BK308.out)
            replace HB := Aside0.mk (below_drew1 HB.out)
            refine start_ (n := 5) (S := fun w' => w'.cell? ⟨gb308, 0, none⟩ = some (.slice Ao99 t299.length co99) ∧ w'.cell? ⟨gb308, 1, none⟩ = some (.slice Ao104 t302.length co104) ∧ w'.cell? ⟨gb308, 2, none⟩ = some (.slice Ao105 t305.length co105) ∧ w'.cell? ⟨gb267, 0, none⟩ = some (.slice A1_0 l1_0.length c1_0) ∧ w'.cell? ⟨gb267, 1, none⟩ = some (.slice A1_1 l1_1.length c1_1) ∧ w'.cell? ⟨gb267, 2, none⟩ = some (.slice A1_2 l1_2.length c1_2)) (ds := []) #[false, false, false, false, false] (by kernel_rfl) rfl rfl ⟨(blk_cell BK308.out 0).trans rfl, (blk_cell BK308.out 1).trans rfl, (blk_cell BK308.out 2).trans rfl, (blk_cell BK267.out 0).trans rfl, (blk_cell BK267.out 1).trans rfl, (blk_cell BK267.out 2).trans rfl⟩ (fun hHeld => ?_)
            generalize w113.drew = w114 at HO272 HO275 HO278 HO281 HO284 HO287 HO291 HO294 HO297 HO301 HO304 HO307 HO312 HO315 HO318 BK266 BK267 BK298 BK308 HB hHeld ⊢
            refine take_ (i := 0) (N := some 40) (v := ?_) (a' := ?_) #[true, false, false, false, false] rfl rfl (by kernel_rfl) (fun _ _ _ h => h) (Or.inl ⟨by rfl, ?_⟩) hHeld ?_ ?_
            rotate_left
            · rintro w' ⟨s0, s1, s2, s3, s4, s5⟩
              go_simp
              with_reducible rfl
            rotate_left
            · simp only [Act.put, List.setIfInBounds_toArray, List.set_cons_zero, List.set_cons_succ, i64_w, i32_w]
              rfl
            refine take_ (i := 1) (N := some 41) (v := ?_) (a' := ?_) #[true, true, false, false, false] rfl rfl (by kernel_rfl) (fun _ _ _ h => h) (Or.inl ⟨by rfl, ?_⟩) hHeld ?_ ?_
            rotate_left
            · rintro w' ⟨s0, s1, s2, s3, s4, s5⟩
              go_simp
              with_reducible rfl
            rotate_left
            · simp only [Act.put, List.setIfInBounds_toArray, List.set_cons_zero, List.set_cons_succ, i64_w, i32_w]
              rfl
            refine one_ (i := 2) (N := some 42) #[true, true, true, false, false] rfl rfl (by kernel_rfl) (by decide) (fun K hK => ?_)
            refine goes_ Try.func14 (by kernel_rfl) rfl #[.agg #[.slice A1_0 l1_0.length c1_0, .slice A1_1 l1_1.length c1_1, .slice A1_2 l1_2.length c1_2]] (by rfl) rfl rfl (by (try simp only [List.map_toArray, List.map_cons, List.map_nil]); first | done | rfl | (simp only [List.length_drop, List.length_take]; rfl)) ?_
            with_reducible refine (laws_toTreeMod.calls k _ _ l1_0 _ _ l1_1 _ _ l1_2 t320 t323 t326 _ ?side1 ?side2 ?side3 ?side4 ?side5 ?side6 A67.out).mono ?_
            (case side1 => exact Cb HR1_0 HB)
            (case side2 => exact HC1_0.out)
            (case side3 => exact Cb HR1_1 HB)
            (case side4 => exact HC1_1.out)
            (case side5 => exact Cb HR1_2 HB)
            (case side6 => exact HC1_2.out)
            rintro e w115 ⟨v321, v324, v327, rfl, ho0, ho1, ho2, hb⟩
            refine ⟨_, rfl, ?_⟩
            have HO322 := Aside0.mk (Kd.R_lower (Kd.R_new' (Kd.R_new' (Kd.R_new' (Kd.R_new' (Kd.R_new' ho0 (Rt HO272)) (Rt HO281)) (Rt HO291)) (Rt HO301)) (Rt HO312)) (below_size (Bp HB)))
            replace HO272 := Aside0.mk (Re HO272 ho0 hb)
            replace HO281 := Aside0.mk (Re HO281 ho0 hb)
            replace HO291 := Aside0.mk (Re HO291 ho0 hb)
            replace HO301 := Aside0.mk (Re HO301 ho0 hb)
            replace HO312 := Aside0.mk (Re HO312 ho0 hb)
            have HO325 := Aside0.mk (Kd.R_lower (Kd.R_new' (Kd.R_new' (Kd.R_new' (Kd.R_new' (Kd.R_new' (Kd.R_new' (Kd.R_new' (Kd.R_new' (Kd.R_new' (Kd.R_new' ho1 (Rt HO275)) (Rt HO278)) (Rt HO284)) (Rt HO287)) (Rt HO294)) (Rt HO297)) (Rt HO304)) (Rt HO307)) (Rt HO315)) (Rt HO318)) (below_size (Bp HB)))
            replace HO275 := Aside0.mk (Kd.R_mono (Kd.R_told (Kd.R_told (Kd.R_old (Rp HO275) hb) (Kd.R_base ho1)) (Kd.R_base ho2)) (fun _ h_ => h_.1))
            replace HO284 := Aside0.mk (Kd.R_mono (Kd.R_told (Kd.R_told (Kd.R_old (Rp HO284) hb) (Kd.R_base ho1)) (Kd.R_base ho2)) (fun _ h_ => h_.1))
            replace HO294 := Aside0.mk (Kd.R_mono (Kd.R_told (Kd.R_told (Kd.R_old (Rp HO294) hb) (Kd.R_base ho1)) (Kd.R_base ho2)) (fun _ h_ => h_.1))
            replace HO304 := Aside0.mk (Kd.R_mono (Kd.R_told (Kd.R_told (Kd.R_old (Rp HO304) hb) (Kd.R_base ho1)) (Kd.R_base ho2)) (fun _ h_ => h_.1))
            replace HO315 := Aside0.mk (Kd.R_mono (Kd.R_told (Kd.R_told (Kd.R_old (Rp HO315) hb) (Kd.R_base ho1)) (Kd.R_base ho2)) (fun _ h_ => h_.1))
            have HO328 := Aside0.mk (Kd.R_lower (Kd.R_new' (Kd.R_new' (Kd.R_new' (Kd.R_new' (Kd.R_new' ho2 (Rt HO278)) (Rt HO287)) (Rt HO297)) (Rt HO307)) (Rt HO318)) (below_size (Bp HB)))
            replace HO278 := Aside0.mk (Re HO278 ho2 hb)
            replace HO287 := Aside0.mk (Re HO287 ho2 hb)
            replace HO297 := Aside0.mk (Re HO297 ho2 hb)
            replace HO307 := Aside0.mk (Re HO307 ho2 hb)
            replace HO318 := Aside0.mk (Re HO318 ho2 hb)
            replace BK266 := Kb BK266 hb
            replace BK267 := Kb BK267 hb
            replace BK298 := Kb BK298 hb
            replace BK308 := Kb BK308 hb
            replace HB := Bs HB hb
            (try clear hb)
            (try clear hb2)
            (try clear hk)
            (try clear hi)
            (try clear ho0)
            (try clear ho1)
            (try clear ho2)
            obtain ⟨Ao116, co116, eo116⟩ := Kd.R_slice HO322.out
            (first | subst eo116 | (injection eo116 with f1_ f2_ f3_; have f4_ := f1_.symm; have f5_ := f3_.symm; clear f1_ f2_ f3_; subst f4_; subst f5_))
            obtain ⟨Ao117, co117, eo117⟩ := Kd.R_slice HO325.out
            (first | subst eo117 | (injection eo117 with f1_ f2_ f3_; have f4_ := f1_.symm; have f5_ := f3_.symm; clear f1_ f2_ f3_; subst f4_; subst f5_))
            obtain ⟨Ao118, co118, eo118⟩ := Kd.R_slice HO328.out
            (first | subst eo118 | (injection eo118 with f1_ f2_ f3_; have f4_ := f1_.symm; have f5_ := f3_.symm; clear f1_ f2_ f3_; subst f4_; subst f5_))
            refine hK.out _ _ ⟨(blk_cell BK308.out 0).trans rfl, (blk_cell BK308.out 1).trans rfl, (blk_cell BK308.out 2).trans rfl, (blk_cell BK267.out 0).trans rfl, (blk_cell BK267.out 1).trans rfl, (blk_cell BK267.out 2).trans rfl⟩ (fun hHeld => ?_)
            clear hK K
            refine norm_ (a' := ?_) ?_ ?_
            rotate_left
            · show Act.put _ (some 42) _ = _
              simp only [Act.put, List.setIfInBounds_toArray, List.set_cons_zero, List.set_cons_succ, i64_w, i32_w]
              rfl
            refine one_ (i := 3) (N := some 43) #[true, true, true, true, false] rfl rfl (by kernel_rfl) (by decide) (fun K hK => ?_)
            refine goes_ Try.func16 (by kernel_rfl) rfl #[.agg #[.slice Ao99 t299.length co99, .slice Ao104 t302.length co104, .slice Ao105 t305.length co105], .agg #[.slice Ao116 t320.length co116, .slice Ao117 t323.length co117, .slice Ao118 t326.length co118]] (by rfl) rfl rfl (by (try simp only [List.map_toArray, List.map_cons, List.map_nil]); first | done | rfl | (simp only [List.length_drop, List.length_take]; rfl)) ?_
            with_reducible refine (laws_eqTreeMod.calls k _ _ t299 _ _ t302 _ _ t305 _ _ t320 _ _ t323 _ _ t326 true _ ?side1 ?side2 ?side3 ?side4 ?side5 ?side6 ?side7 ?side8 ?side9 ?side10 ?side11 ?side12 A68.out).mono ?_
            (case side1 => repeat (first | exact (Kd.R_reads' HO301.out).2.2 | (with_reducible refine Kd.C_alloc ?_ _) | (with_reducible refine Kd.C_drewN ?_ _) | (with_reducible refine Kd.C_drew ?_)))
            (case side2 => exact (Kd.R_reads' HO301.out).2.1)
            (case side3 => repeat (first | exact (Kd.R_reads' HO304.out).2.2 | (with_reducible refine Kd.C_alloc ?_ _) | (with_reducible refine Kd.C_drewN ?_ _) | (with_reducible refine Kd.C_drew ?_)))
            (case side4 => exact (Kd.R_reads' HO304.out).2.1)
            (case side5 => repeat (first | exact (Kd.R_reads' HO307.out).2.2 | (with_reducible refine Kd.C_alloc ?_ _) | (with_reducible refine Kd.C_drewN ?_ _) | (with_reducible refine Kd.C_drew ?_)))
            (case side6 => exact (Kd.R_reads' HO307.out).2.1)
            (case side7 => repeat (first | exact (Kd.R_reads' HO322.out).2.2 | (with_reducible refine Kd.C_alloc ?_ _) | (with_reducible refine Kd.C_drewN ?_ _) | (with_reducible refine Kd.C_drew ?_)))
            (case side8 => exact (Kd.R_reads' HO322.out).2.1)
            (case side9 => repeat (first | exact (Kd.R_reads' HO325.out).2.2 | (with_reducible refine Kd.C_alloc ?_ _) | (with_reducible refine Kd.C_drewN ?_ _) | (with_reducible refine Kd.C_drew ?_)))
            (case side10 => exact (Kd.R_reads' HO325.out).2.1)
            (case side11 => repeat (first | exact (Kd.R_reads' HO328.out).2.2 | (with_reducible refine Kd.C_alloc ?_ _) | (with_reducible refine Kd.C_drewN ?_ _) | (with_reducible refine Kd.C_drew ?_)))
            (case side12 => exact (Kd.R_reads' HO328.out).2.1)
            rintro e w119 ⟨rfl, hb⟩
            refine ⟨_, rfl, ?_⟩
            replace HO272 := Rb HO272 hb
            replace HO275 := Rb HO275 hb
            replace HO278 := Rb HO278 hb
            replace HO281 := Rb HO281 hb
            replace HO284 := Rb HO284 hb
            replace HO287 := Rb HO287 hb
            replace HO291 := Rb HO291 hb
            replace HO294 := Rb HO294 hb
            replace HO297 := Rb HO297 hb
            replace HO301 := Rb HO301 hb
            replace HO304 := Rb HO304 hb
            replace HO307 := Rb HO307 hb
            replace HO312 := Rb HO312 hb
            replace HO315 := Rb HO315 hb
            replace HO318 := Rb HO318 hb
            replace HO322 := Rb HO322 hb
            replace HO325 := Rb HO325 hb
            replace HO328 := Rb HO328 hb
            replace BK266 := Kb BK266 hb
            replace BK267 := Kb BK267 hb
            replace BK298 := Kb BK298 hb
            replace BK308 := Kb BK308 hb
            replace HB := Bs HB hb
            (try clear hb)
            (try clear hb2)
            (try clear hk)
            (try clear hi)
            refine hK.out _ _ ⟨(blk_cell BK308.out 0).trans rfl, (blk_cell BK308.out 1).trans rfl, (blk_cell BK308.out 2).trans rfl, (blk_cell BK267.out 0).trans rfl, (blk_cell BK267.out 1).trans rfl, (blk_cell BK267.out 2).trans rfl⟩ (fun hHeld => ?_)
            clear hK K
            refine norm_ (a' := ?_) ?_ ?_
            rotate_left
            · show Act.put _ (some 43) _ = _
              simp only [Act.put, List.setIfInBounds_toArray, List.set_cons_zero, List.set_cons_succ, i64_w, i32_w]
              rfl
            refine pure_ (i := 4) (N := some 44) (v := ?_) (a' := ?_) #[true, true, true, true, true] rfl rfl (by kernel_rfl) (fun _ _ _ h => h) (Or.inl ⟨by rfl, ?_⟩) ?_ ?_
            rotate_left
            · intro w'
              go_simp
              with_reducible rfl
            rotate_left
            · simp only [Act.put, List.setIfInBounds_toArray, List.set_cons_zero, List.set_cons_succ, i64_w, i32_w]
              rfl
            refine done_ (by kernel_rfl) ?_
            try go_wp2
            go_ret
            exact ⟨by first | rfl | (simp [errW_none, errW_some] <;> rfl) | (simp [*, errW_none, errW_some] <;> rfl), Bp HB⟩
          · replace c69 := Bool.eq_false_iff.mpr c69
            subst c69
            have H1 : (some false) = some r := by rw [if_neg (show ¬ (false = true) by decide)] at H; exact H
            clear H
            have H := H1
            clear H1
            obtain rfl := Option.some.inj H
            go_enter Try.func3, Try.ntmps3
            try go_wp2_with (first | ((with_reducible refine gate_dst (N := 2) rfl ?_); refine box_event ?hg (N := 2) ?hd (cs := #[.slice A0_0 l0_0.length c0_0, .slice A0_1 l0_1.length c0_1, .slice A0_2 l0_2.length c0_2]) (t := 26) ?hr ?_; (case hd => rfl); (case hg => rfl); (case hr => first | (go_simp; done) | (go_simp; rfl)); intro gb266 hg w120 hbox hb; have BK266 := Aside0.mk (hbox); have GW266 := Aside0.mk ((by rw [hg]; exact (below_size (Bp HB)) : w.heap.size ≤ gb266)); have GE266 := Aside0.mk ((by rw [hg]; exact (below_size (Bp HB)) : w.heap.size ≤ gb266)); replace HB := Bs HB hb; clear hb hbox hg) | ((with_reducible refine gate_dst (N := 3) rfl ?_); refine box_event ?hg (N := 3) ?hd (cs := #[.slice A1_0 l1_0.length c1_0, .slice A1_1 l1_1.length c1_1, .slice A1_2 l1_2.length c1_2]) (t := 26) ?hr ?_; (case hd => rfl); (case hg => rfl); (case hr => first | (go_simp; done) | (go_simp; rfl)); intro gb267 hg w121 hbox hb; have BK267 := Aside0.mk (hbox); have GW267 := Aside0.mk ((by rw [hg]; exact (below_size (Bp HB)) : w.heap.size ≤ gb267)); have GE267 := Aside0.mk ((by rw [hg]; exact (below_size (Bp HB)) : w.heap.size ≤ gb267)); replace HB := Bs HB hb; have NB266_267 := Aside0.mk ((by rw [hg]; exact Nat.ne_of_lt (blk_lt (Kp BK266)) : gb266 ≠ gb267)); have NB267_266 := Aside0.mk ((by rw [hg]; exact Nat.ne_of_gt (blk_lt (Kp BK266)) : gb267 ≠ gb266)); replace BK266 := Kb BK266 hb; clear hb hbox hg; have hnb122 := NB266_267.out; have hnc122 := NB267_266.out; obtain ⟨hcz123_0, hcz123_1, hcz123_2⟩ := bc3 (W := w121) BK266.out; obtain ⟨hfz123_0, hfz123_1, hfz123_2⟩ := bf3 BK266.out) | ((with_reducible refine gate_callee (f := 12) rfl ?_); refine goesL_ (some 12) rfl rfl Try.func12 (by kernel_rfl) rfl #[.agg #[.slice A0_0 l0_0.length c0_0, .slice A0_1 l0_1.length c0_1, .slice A0_2 l0_2.length c0_2], .int .i64 1048576] rfl (by (try simp only [List.map_toArray, List.map_cons, List.map_nil]); first | done | rfl | (simp only [List.length_drop, List.length_take]; rfl)) ?_; (with_reducible refine (laws_szTreeMod.calls k _ _ l0_0 _ _ l0_1 _ _ l0_2 1048576 t268 _ ?side1 ?side2 ?side3 ?side4 ?side5 ?side6 A3.out).mono ?_); (case side1 => exact Cb HR0_0 HB); (case side2 => exact HC0_0.out); (case side3 => exact Cb HR0_1 HB); (case side4 => exact HC0_1.out); (case side5 => exact Cb HR0_2 HB); (case side6 => exact HC0_2.out); rintro e w124 ⟨rfl, hb⟩; refine ⟨_, rfl, ?_⟩; replace BK266 := Kb BK266 hb; replace BK267 := Kb BK267 hb; replace HB := Bs HB hb; (try clear hb); (try clear hb2); (try clear hk); (try clear hi); obtain ⟨hcz125_0, hcz125_1, hcz125_2⟩ := bc3 (W := w124) BK267.out; obtain ⟨hfz125_0, hfz125_1, hfz125_2⟩ := bf3 BK267.out) | ((with_reducible refine gate_callee (f := 12) rfl ?_); refine goesL_ (some 17) rfl rfl Try.func12 (by kernel_rfl) rfl #[.agg #[.slice A1_0 l1_0.length c1_0, .slice A1_1 l1_1.length c1_1, .slice A1_2 l1_2.length c1_2], .int .i64 t268] rfl (by (try simp only [List.map_toArray, List.map_cons, List.map_nil]); first | done | rfl | (simp only [List.length_drop, List.length_take]; rfl)) ?_; (with_reducible refine (laws_szTreeMod.calls k _ _ l1_0 _ _ l1_1 _ _ l1_2 t268 t269 _ ?side1 ?side2 ?side3 ?side4 ?side5 ?side6 A10.out).mono ?_); (case side1 => exact Cb HR1_0 HB); (case side2 => exact HC1_0.out); (case side3 => exact Cb HR1_1 HB); (case side4 => exact HC1_1.out); (case side5 => exact Cb HR1_2 HB); (case side6 => exact HC1_2.out); rintro e w126 ⟨rfl, hb⟩; refine ⟨_, rfl, ?_⟩; replace BK266 := Kb BK266 hb; replace BK267 := Kb BK267 hb; replace HB := Bs HB hb; (try clear hb); (try clear hb2); (try clear hk); (try clear hi)))
            replace BK266 := Aside0.mk (blk_drew BK266.out)
            replace BK267 := Aside0.mk (blk_drew BK267.out)
            replace HB := Aside0.mk (below_drew1 HB.out)
            refine start_ (n := 6) (S := fun w' => w'.cell? ⟨gb266, 0, none⟩ = some (.slice A0_0 l0_0.length c0_0) ∧ w'.cell? ⟨gb266, 1, none⟩ = some (.slice A0_1 l0_1.length c0_1) ∧ w'.cell? ⟨gb266, 2, none⟩ = some (.slice A0_2 l0_2.length c0_2) ∧ w'.cell? ⟨gb267, 0, none⟩ = some (.slice A1_0 l1_0.length c1_0) ∧ w'.cell? ⟨gb267, 1, none⟩ = some (.slice A1_1 l1_1.length c1_1) ∧ w'.cell? ⟨gb267, 2, none⟩ = some (.slice A1_2 l1_2.length c1_2)) (ds := []) #[false, false, false, false, false, false] (by kernel_rfl) rfl rfl ⟨(blk_cell BK266.out 0).trans rfl, (blk_cell BK266.out 1).trans rfl, (blk_cell BK266.out 2).trans rfl, (blk_cell BK267.out 0).trans rfl, (blk_cell BK267.out 1).trans rfl, (blk_cell BK267.out 2).trans rfl⟩ (fun hHeld => ?_)
            generalize w126.drew = w127 at BK266 BK267 HB hHeld ⊢
            refine take_ (i := 0) (N := some 20) (v := ?_) (a' := ?_) #[true, false, false, false, false, false] rfl rfl (by kernel_rfl) (fun _ _ _ h => h) (Or.inl ⟨by rfl, ?_⟩) hHeld ?_ ?_
            rotate_left
            · rintro w' ⟨s0, s1, s2, s3, s4, s5⟩
              go_simp
              with_reducible rfl
            rotate_left
            · simp only [Act.put, List.setIfInBounds_toArray, List.set_cons_zero, List.set_cons_succ, i64_w, i32_w]
              rfl
            refine take_ (i := 2) (N := some 22) (v := ?_) (a' := ?_) #[true, false, true, false, false, false] rfl rfl (by kernel_rfl) (fun _ _ _ h => h) (Or.inl ⟨by rfl, ?_⟩) hHeld ?_ ?_
            rotate_left
            · rintro w' ⟨s0, s1, s2, s3, s4, s5⟩
              go_simp
              with_reducible rfl
            rotate_left
            · simp only [Act.put, List.setIfInBounds_toArray, List.set_cons_zero, List.set_cons_succ, i64_w, i32_w]
              rfl
            refine one_ (i := 1) (N := some 21) #[true, true, true, false, false, false] rfl rfl (by kernel_rfl) (by decide) (fun K hK => ?_)
            refine goes_ Try.func14 (by kernel_rfl) rfl #[.agg #[.slice A0_0 l0_0.length c0_0, .slice A0_1 l0_1.length c0_1, .slice A0_2 l0_2.length c0_2]] (by rfl) rfl rfl (by (try simp only [List.map_toArray, List.map_cons, List.map_nil]); first | done | rfl | (simp only [List.length_drop, List.length_take]; rfl)) ?_
            with_reducible refine (laws_toTreeMod.calls k _ _ l0_0 _ _ l0_1 _ _ l0_2 t270 t273 t276 _ ?side1 ?side2 ?side3 ?side4 ?side5 ?side6 A19.out).mono ?_
            (case side1 => exact Cb HR0_0 HB)
            (case side2 => exact HC0_0.out)
            (case side3 => exact Cb HR0_1 HB)
            (case side4 => exact HC0_1.out)
            (case side5 => exact Cb HR0_2 HB)
            (case side6 => exact HC0_2.out)
            rintro e w128 ⟨v271, v274, v277, rfl, ho0, ho1, ho2, hb⟩
            refine ⟨_, rfl, ?_⟩
            have HO272 := Aside0.mk (Kd.R_lower ho0 (below_size (Bp HB)))
            have HO275 := Aside0.mk (Kd.R_lower ho1 (below_size (Bp HB)))
            have HO278 := Aside0.mk (Kd.R_lower ho2 (below_size (Bp HB)))
            replace BK266 := Kb BK266 hb
            replace BK267 := Kb BK267 hb
            replace HB := Bs HB hb
            (try clear hb)
            (try clear hb2)
            (try clear hk)
            (try clear hi)
            (try clear ho0)
            (try clear ho1)
            (try clear ho2)
            refine hK.out _ _ ⟨(blk_cell BK266.out 0).trans rfl, (blk_cell BK266.out 1).trans rfl, (blk_cell BK266.out 2).trans rfl, (blk_cell BK267.out 0).trans rfl, (blk_cell BK267.out 1).trans rfl, (blk_cell BK267.out 2).trans rfl⟩ (fun hHeld => ?_)
            clear hK K
            refine norm_ (a' := ?_) ?_ ?_
            rotate_left
            · show Act.put _ (some 21) _ = _
              simp only [Act.put, List.setIfInBounds_toArray, List.set_cons_zero, List.set_cons_succ, i64_w, i32_w]
              rfl
            refine one_ (i := 3) (N := some 23) #[true, true, true, true, false, false] rfl rfl (by kernel_rfl) (by decide) (fun K hK => ?_)
            refine goes_ Try.func14 (by kernel_rfl) rfl #[.agg #[.slice A1_0 l1_0.length c1_0, .slice A1_1 l1_1.length c1_1, .slice A1_2 l1_2.length c1_2]] (by rfl) rfl rfl (by (try simp only [List.map_toArray, List.map_cons, List.map_nil]); first | done | rfl | (simp only [List.length_drop, List.length_take]; rfl)) ?_
            with_reducible refine (laws_toTreeMod.calls k _ _ l1_0 _ _ l1_1 _ _ l1_2 t279 t282 t285 _ ?side1 ?side2 ?side3 ?side4 ?side5 ?side6 A20.out).mono ?_
            (case side1 => exact Cb HR1_0 HB)
            (case side2 => exact HC1_0.out)
            (case side3 => exact Cb HR1_1 HB)
            (case side4 => exact HC1_1.out)
            (case side5 => exact Cb HR1_2 HB)
            (case side6 => exact HC1_2.out)
            rintro e w129 ⟨v280, v283, v286, rfl, ho0, ho1, ho2, hb⟩
            refine ⟨_, rfl, ?_⟩
            have HO281 := Aside0.mk (Rl (Kd.R_new' ho0 (Rt HO272)) HB)
            replace HO272 := Aside0.mk (Re HO272 ho0 hb)
            have HO284 := Aside0.mk (Rl (Kd.R_new' (Kd.R_new' ho1 (Rt HO275)) (Rt HO278)) HB)
            replace HO275 := Aside0.mk (Kd.R_mono (Kd.R_told (Kd.R_told (Kd.R_old (Rp HO275) hb) (Kd.R_base ho1)) (Kd.R_base ho2)) (fun _ h_ => h_.1))
            have HO287 := Aside0.mk (Rl (Kd.R_new' ho2 (Rt HO278)) HB)
            replace HO278 := Aside0.mk (Re HO278 ho2 hb)
            replace BK266 := Kb BK266 hb
            replace BK267 := Kb BK267 hb
            replace HB := Bs HB hb
            (try clear hb)
            (try clear hb2)
            (try clear hk)
            (try clear hi)
            (try clear ho0)
            (try clear ho1)
            (try clear ho2)
            obtain ⟨Ao130, co130, eo130⟩ := Kd.R_slice HO272.out
            (first | subst eo130 | (injection eo130 with f1_ f2_ f3_; have f4_ := f1_.symm; have f5_ := f3_.symm; clear f1_ f2_ f3_; subst f4_; subst f5_))
            obtain ⟨Ao131, co131, eo131⟩ := Kd.R_slice HO275.out
            (first | subst eo131 | (injection eo131 with f1_ f2_ f3_; have f4_ := f1_.symm; have f5_ := f3_.symm; clear f1_ f2_ f3_; subst f4_; subst f5_))
            obtain ⟨Ao132, co132, eo132⟩ := Kd.R_slice HO278.out
            (first | subst eo132 | (injection eo132 with f1_ f2_ f3_; have f4_ := f1_.symm; have f5_ := f3_.symm; clear f1_ f2_ f3_; subst f4_; subst f5_))
            obtain ⟨Ao133, co133, eo133⟩ := Kd.R_slice HO281.out
            (first | subst eo133 | (injection eo133 with f1_ f2_ f3_; have f4_ := f1_.symm; have f5_ := f3_.symm; clear f1_ f2_ f3_; subst f4_; subst f5_))
            obtain ⟨Ao134, co134, eo134⟩ := Kd.R_slice HO284.out
            (first | subst eo134 | (injection eo134 with f1_ f2_ f3_; have f4_ := f1_.symm; have f5_ := f3_.symm; clear f1_ f2_ f3_; subst f4_; subst f5_))
            obtain ⟨Ao135, co135, eo135⟩ := Kd.R_slice HO287.out
            (first | subst eo135 | (injection eo135 with f1_ f2_ f3_; have f4_ := f1_.symm; have f5_ := f3_.symm; clear f1_ f2_ f3_; subst f4_; subst f5_))
            refine hK.out _ _ ⟨(blk_cell BK266.out 0).trans rfl, (blk_cell BK266.out 1).trans rfl, (blk_cell BK266.out 2).trans rfl, (blk_cell BK267.out 0).trans rfl, (blk_cell BK267.out 1).trans rfl, (blk_cell BK267.out 2).trans rfl⟩ (fun hHeld => ?_)
            clear hK K
            refine norm_ (a' := ?_) ?_ ?_
            rotate_left
            · show Act.put _ (some 23) _ = _
              simp only [Act.put, List.setIfInBounds_toArray, List.set_cons_zero, List.set_cons_succ, i64_w, i32_w]
              rfl
            refine one_ (i := 4) (N := some 24) #[true, true, true, true, true, false] rfl rfl (by kernel_rfl) (by decide) (fun K hK => ?_)
            refine goes_ Try.func13 (by kernel_rfl) rfl #[.agg #[.slice Ao130 t270.length co130, .slice Ao131 t273.length co131, .slice Ao132 t276.length co132], .agg #[.slice Ao133 t279.length co133, .slice Ao134 t282.length co134, .slice Ao135 t285.length co135]] (by rfl) rfl rfl (by (try simp only [List.map_toArray, List.map_cons, List.map_nil]); first | done | rfl | (simp only [List.length_drop, List.length_take]; rfl)) ?_
            with_reducible refine (spec_TreeSame.calls k _ _ t270 _ _ t273 _ _ t276 _ _ t279 _ _ t282 _ _ t285 t288 _ ?side1 ?side2 ?side3 ?side4 ?side5 ?side6 ?side7 ?side8 ?side9 ?side10 ?side11 ?side12 A21.out).mono ?_
            (case side1 => repeat (first | exact (Kd.R_reads' HO272.out).2.2 | (with_reducible refine Kd.C_alloc ?_ _) | (with_reducible refine Kd.C_drewN ?_ _) | (with_reducible refine Kd.C_drew ?_)))
            (case side2 => exact (Kd.R_reads' HO272.out).2.1)
            (case side3 => repeat (first | exact (Kd.R_reads' HO275.out).2.2 | (with_reducible refine Kd.C_alloc ?_ _) | (with_reducible refine Kd.C_drewN ?_ _) | (with_reducible refine Kd.C_drew ?_)))
            (case side4 => exact (Kd.R_reads' HO275.out).2.1)
            (case side5 => repeat (first | exact (Kd.R_reads' HO278.out).2.2 | (with_reducible refine Kd.C_alloc ?_ _) | (with_reducible refine Kd.C_drewN ?_ _) | (with_reducible refine Kd.C_drew ?_)))
            (case side6 => exact (Kd.R_reads' HO278.out).2.1)
            (case side7 => repeat (first | exact (Kd.R_reads' HO281.out).2.2 | (with_reducible refine Kd.C_alloc ?_ _) | (with_reducible refine Kd.C_drewN ?_ _) | (with_reducible refine Kd.C_drew ?_)))
            (case side8 => exact (Kd.R_reads' HO281.out).2.1)
            (case side9 => repeat (first | exact (Kd.R_reads' HO284.out).2.2 | (with_reducible refine Kd.C_alloc ?_ _) | (with_reducible refine Kd.C_drewN ?_ _) | (with_reducible refine Kd.C_drew ?_)))
            (case side10 => exact (Kd.R_reads' HO284.out).2.1)
            (case side11 => repeat (first | exact (Kd.R_reads' HO287.out).2.2 | (with_reducible refine Kd.C_alloc ?_ _) | (with_reducible refine Kd.C_drewN ?_ _) | (with_reducible refine Kd.C_drew ?_)))
            (case side12 => exact (Kd.R_reads' HO287.out).2.1)
            rintro e w136 ⟨rfl, hb⟩
            refine ⟨_, rfl, ?_⟩
            replace HO272 := Rb HO272 hb
            replace HO275 := Rb HO275 hb
            replace HO278 := Rb HO278 hb
            replace HO281 := Rb HO281 hb
            replace HO284 := Rb HO284 hb
            replace HO287 := Rb HO287 hb
            replace BK266 := Kb BK266 hb
            replace BK267 := Kb BK267 hb
            replace HB := Bs HB hb
            (try clear hb)
            (try clear hb2)
            (try clear hk)
            (try clear hi)
            refine hK.out _ _ ⟨(blk_cell BK266.out 0).trans rfl, (blk_cell BK266.out 1).trans rfl, (blk_cell BK266.out 2).trans rfl, (blk_cell BK267.out 0).trans rfl, (blk_cell BK267.out 1).trans rfl, (blk_cell BK267.out 2).trans rfl⟩ (fun hHeld => ?_)
            clear hK K
            refine norm_ (a' := ?_) ?_ ?_
            rotate_left
            · show Act.put _ (some 24) _ = _
              simp only [Act.put, List.setIfInBounds_toArray, List.set_cons_zero, List.set_cons_succ, i64_w, i32_w]
              rfl
            refine pure_ (i := 5) (N := some 6) (v := ?_) (a' := ?_) #[true, true, true, true, true, true] rfl rfl (by kernel_rfl) (fun _ _ _ h => h) (Or.inl ⟨by rfl, ?_⟩) ?_ ?_
            rotate_left
            · intro w'
              go_simp
              with_reducible rfl
            rotate_left
            · simp only [Act.put, List.setIfInBounds_toArray, List.set_cons_zero, List.set_cons_succ, i64_w, i32_w]
              rfl
            refine done_ (by kernel_rfl) ?_
            obtain ⟨hcz137_0, hcz137_1, hcz137_2⟩ := bc3 (W := w136) BK266.out
            obtain ⟨hfz137_0, hfz137_1, hfz137_2⟩ := bf3 BK266.out
            try go_wp2_with (first | ((with_reducible refine gate_callee (f := 14) rfl ?_); refine goesL_ (some 26) rfl rfl Try.func14 (by kernel_rfl) rfl #[.agg #[.slice A0_0 l0_0.length c0_0, .slice A0_1 l0_1.length c0_1, .slice A0_2 l0_2.length c0_2]] rfl (by (try simp only [List.map_toArray, List.map_cons, List.map_nil]); first | done | rfl | (simp only [List.length_drop, List.length_take]; rfl)) ?_; (with_reducible refine (laws_toTreeMod.calls k _ _ l0_0 _ _ l0_1 _ _ l0_2 t289 t292 t295 _ ?side1 ?side2 ?side3 ?side4 ?side5 ?side6 A22.out).mono ?_); (case side1 => exact Cb HR0_0 HB); (case side2 => exact HC0_0.out); (case side3 => exact Cb HR0_1 HB); (case side4 => exact HC0_1.out); (case side5 => exact Cb HR0_2 HB); (case side6 => exact HC0_2.out); rintro e w138 ⟨v290, v293, v296, rfl, ho0, ho1, ho2, hb⟩; refine ⟨_, rfl, ?_⟩; have HO291 := Aside0.mk (Rl (Kd.R_new' (Kd.R_new' ho0 (Rt HO272)) (Rt HO281)) HB); replace HO272 := Aside0.mk (Re HO272 ho0 hb); replace HO281 := Aside0.mk (Re HO281 ho0 hb); have HO294 := Aside0.mk (Kd.R_lower (Kd.R_new' (Kd.R_new' (Kd.R_new' (Kd.R_new' ho1 (Rt HO275)) (Rt HO278)) (Rt HO284)) (Rt HO287)) (below_size (Bp HB))); replace HO275 := Aside0.mk (Kd.R_mono (Kd.R_told (Kd.R_told (Kd.R_old (Rp HO275) hb) (Kd.R_base ho1)) (Kd.R_base ho2)) (fun _ h_ => h_.1)); replace HO284 := Aside0.mk (Kd.R_mono (Kd.R_told (Kd.R_told (Kd.R_old (Rp HO284) hb) (Kd.R_base ho1)) (Kd.R_base ho2)) (fun _ h_ => h_.1)); have HO297 := Aside0.mk (Rl (Kd.R_new' (Kd.R_new' ho2 (Rt HO278)) (Rt HO287)) HB); replace HO278 := Aside0.mk (Re HO278 ho2 hb); replace HO287 := Aside0.mk (Re HO287 ho2 hb); replace BK266 := Kb BK266 hb; replace BK267 := Kb BK267 hb; replace HB := Bs HB hb; (try clear hb); (try clear hb2); (try clear hk); (try clear hi); (try clear ho0); (try clear ho1); (try clear ho2)) | ((with_reducible refine gate_dst (N := 7) rfl ?_); refine box_event ?hg (N := 7) ?hd (cs := #[.slice none 0 0, .slice none 0 0, .slice none 0 0]) (t := 32) ?hr ?_; (case hd => rfl); (case hg => rfl); (case hr => first | (go_simp; done) | (go_simp; rfl)); intro gb298 hg w139 hbox hb; replace HO272 := Rb HO272 hb; replace HO275 := Rb HO275 hb; replace HO278 := Rb HO278 hb; replace HO281 := Rb HO281 hb; replace HO284 := Rb HO284 hb; replace HO287 := Rb HO287 hb; replace HO291 := Rb HO291 hb; replace HO294 := Rb HO294 hb; replace HO297 := Rb HO297 hb; have BK298 := Aside0.mk (hbox); have GW298 := Aside0.mk ((by rw [hg]; exact (below_size (Bp HB)) : w.heap.size ≤ gb298)); have GE298 := Aside0.mk ((by rw [hg]; exact (below_size (Bp HB)) : w.heap.size ≤ gb298)); replace HB := Bs HB hb; have NB266_298 := Aside0.mk ((by rw [hg]; exact Nat.ne_of_lt (blk_lt (Kp BK266)) : gb266 ≠ gb298)); have NB298_266 := Aside0.mk ((by rw [hg]; exact Nat.ne_of_gt (blk_lt (Kp BK266)) : gb298 ≠ gb266)); replace BK266 := Kb BK266 hb; have NB267_298 := Aside0.mk ((by rw [hg]; exact Nat.ne_of_lt (blk_lt (Kp BK267)) : gb267 ≠ gb298)); have NB298_267 := Aside0.mk ((by rw [hg]; exact Nat.ne_of_gt (blk_lt (Kp BK267)) : gb298 ≠ gb267)); replace BK267 := Kb BK267 hb; clear hb hbox hg; obtain ⟨Ao140, co140, eo140⟩ := Kd.R_slice HO291.out; subst eo140; have hnb141 := NB298_266.out; have hnc141 := NB266_298.out; have hnb142 := NB298_267.out; have hnc142 := NB267_298.out; obtain ⟨hcz143_0, hcz143_1, hcz143_2⟩ := bc3 (W := w139) BK298.out; obtain ⟨hfz143_0, hfz143_1, hfz143_2⟩ := bf3 BK298.out; obtain ⟨Ao144, co144, eo144⟩ := Kd.R_slice HO294.out; subst eo144; obtain ⟨Ao145, co145, eo145⟩ := Kd.R_slice HO297.out; subst eo145; obtain ⟨hcz146_0, hcz146_1, hcz146_2⟩ := bc3 (W := w139) BK267.out; obtain ⟨hfz146_0, hfz146_1, hfz146_2⟩ := bf3 BK267.out) | ((with_reducible refine gate_callee (f := 14) rfl ?_); refine goesL_ (some 28) rfl rfl Try.func14 (by kernel_rfl) rfl #[.agg #[.slice A1_0 l1_0.length c1_0, .slice A1_1 l1_1.length c1_1, .slice A1_2 l1_2.length c1_2]] rfl (by (try simp only [List.map_toArray, List.map_cons, List.map_nil]); first | done | rfl | (simp only [List.length_drop, List.length_take]; rfl)) ?_; (with_reducible refine (laws_toTreeMod.calls k _ _ l1_0 _ _ l1_1 _ _ l1_2 t299 t302 t305 _ ?side1 ?side2 ?side3 ?side4 ?side5 ?side6 A23.out).mono ?_); (case side1 => exact Kd.C_below HR1_0.out (Bp HB)); (case side2 => exact HC1_0.out); (case side3 => exact Kd.C_below HR1_1.out (Bp HB)); (case side4 => exact HC1_1.out); (case side5 => exact Kd.C_below HR1_2.out (Bp HB)); (case side6 => exact HC1_2.out); rintro e w147 ⟨v300, v303, v306, rfl, ho0, ho1, ho2, hb⟩; refine ⟨_, rfl, ?_⟩; have HO301 := Aside0.mk (Kd.R_lower (Kd.R_new' (Kd.R_new' (Kd.R_new' ho0 (Kd.R_lt (by (with_reducible repeat (first | apply Kd.R_alloc | apply Kd.R_drewN | apply Kd.R_drew)); exact (Kd.R_mono (RF (g := gb298) (Kd.R_types HO272.out BK298.out (by decide)) (fun _ hk => hk.2)) (fun _ h_ => h_.1))))) (Kd.R_lt (by (with_reducible repeat (first | apply Kd.R_alloc | apply Kd.R_drewN | apply Kd.R_drew)); exact (Kd.R_mono (RF (g := gb298) (Kd.R_types HO281.out BK298.out (by decide)) (fun _ hk => hk.2)) (fun _ h_ => h_.1))))) (Kd.R_lt (by (with_reducible repeat (first | apply Kd.R_alloc | apply Kd.R_drewN | apply Kd.R_drew)); exact (Kd.R_mono (RF (g := gb298) (Kd.R_types HO291.out BK298.out (by decide)) (fun _ hk => hk.2)) (fun _ h_ => h_.1))))) (below_size (Bp HB))); replace HO272 := Aside0.mk (Kd.R_elder' (by (with_reducible repeat (first | apply Kd.R_alloc | apply Kd.R_drewN | apply Kd.R_drew)); exact (Kd.R_mono (RF (g := gb298) (Kd.R_types HO272.out BK298.out (by decide)) (fun _ hk => hk.2)) (fun _ h_ => h_.1))) (Kd.R_base ho0) hb); replace HO281 := Aside0.mk (Kd.R_elder' (by (with_reducible repeat (first | apply Kd.R_alloc | apply Kd.R_drewN | apply Kd.R_drew)); exact (Kd.R_mono (RF (g := gb298) (Kd.R_types HO281.out BK298.out (by decide)) (fun _ hk => hk.2)) (fun _ h_ => h_.1))) (Kd.R_base ho0) hb); replace HO291 := Aside0.mk (Kd.R_elder' (by (with_reducible repeat (first | apply Kd.R_alloc | apply Kd.R_drewN | apply Kd.R_drew)); exact (Kd.R_mono (RF (g := gb298) (Kd.R_types HO291.out BK298.out (by decide)) (fun _ hk => hk.2)) (fun _ h_ => h_.1))) (Kd.R_base ho0) hb); have HO304 := Aside0.mk (Kd.R_lower (Kd.R_new' (Kd.R_new' (Kd.R_new' (Kd.R_new' (Kd.R_new' (Kd.R_new' ho1 (Kd.R_lt (by (with_reducible repeat (first | apply Kd.R_alloc | apply Kd.R_drewN | apply Kd.R_drew)); exact (Kd.R_mono (RF (g := gb298) (Kd.R_types HO275.out BK298.out (by decide)) (fun _ hk => hk.2)) (fun _ h_ => h_.1))))) (Kd.R_lt (by (with_reducible repeat (first | apply Kd.R_alloc | apply Kd.R_drewN | apply Kd.R_drew)); exact (Kd.R_mono (RF (g := gb298) (Kd.R_types HO278.out BK298.out (by decide)) (fun _ hk => hk.2)) (fun _ h_ => h_.1))))) (Kd.R_lt (by (with_reducible repeat (first | apply Kd.R_alloc | apply Kd.R_drewN | apply Kd.R_drew)); exact (Kd.R_mono (RF (g := gb298) (Kd.R_types HO284.out BK298.out (by decide)) (fun _ hk => hk.2)) (fun _ h_ => h_.1))))) (Kd.R_lt (by (with_reducible repeat (first | apply Kd.R_alloc | apply Kd.R_drewN | apply Kd.R_drew)); exact (Kd.R_mono (RF (g := gb298) (Kd.R_types HO287.out BK298.out (by decide)) (fun _ hk => hk.2)) (fun _ h_ => h_.1))))) (Kd.R_lt (by (with_reducible repeat (first | apply Kd.R_alloc | apply Kd.R_drewN | apply Kd.R_drew)); exact (Kd.R_mono (RF (g := gb298) (Kd.R_types HO294.out BK298.out (by decide)) (fun _ hk => hk.2)) (fun _ h_ => h_.1))))) (Kd.R_lt (by (with_reducible repeat (first | apply Kd.R_alloc | apply Kd.R_drewN | apply Kd.R_drew)); exact (Kd.R_mono (RF (g := gb298) (Kd.R_types HO297.out BK298.out (by decide)) (fun _ hk => hk.2)) (fun _ h_ => h_.1))))) (below_size (Bp HB))); replace HO275 := Aside0.mk (Kd.R_mono (Kd.R_told (Kd.R_told (Kd.R_old (by (with_reducible repeat (first | apply Kd.R_alloc | apply Kd.R_drewN | apply Kd.R_drew)); exact (Kd.R_mono (RF (g := gb298) (Kd.R_types HO275.out BK298.out (by decide)) (fun _ hk => hk.2)) (fun _ h_ => h_.1))) hb) (Kd.R_base ho1)) (Kd.R_base ho2)) (fun _ h_ => h_.1)); replace HO284 := Aside0.mk (Kd.R_mono (Kd.R_told (Kd.R_told (Kd.R_old (by (with_reducible repeat (first | apply Kd.R_alloc | apply Kd.R_drewN | apply Kd.R_drew)); exact (Kd.R_mono (RF (g := gb298) (Kd.R_types HO284.out BK298.out (by decide)) (fun _ hk => hk.2)) (fun _ h_ => h_.1))) hb) (Kd.R_base ho1)) (Kd.R_base ho2)) (fun _ h_ => h_.1)); replace HO294 := Aside0.mk (Kd.R_mono (Kd.R_told (Kd.R_told (Kd.R_old (by (with_reducible repeat (first | apply Kd.R_alloc | apply Kd.R_drewN | apply Kd.R_drew)); exact (Kd.R_mono (RF (g := gb298) (Kd.R_types HO294.out BK298.out (by decide)) (fun _ hk => hk.2)) (fun _ h_ => h_.1))) hb) (Kd.R_base ho1)) (Kd.R_base ho2)) (fun _ h_ => h_.1)); have HO307 := Aside0.mk (Kd.R_lower (Kd.R_new' (Kd.R_new' (Kd.R_new' ho2 (Kd.R_lt (by (with_reducible repeat (first | apply Kd.R_alloc | apply Kd.R_drewN | apply Kd.R_drew)); exact (Kd.R_mono (RF (g := gb298) (Kd.R_types HO278.out BK298.out (by decide)) (fun _ hk => hk.2)) (fun _ h_ => h_.1))))) (Kd.R_lt (by (with_reducible repeat (first | apply Kd.R_alloc | apply Kd.R_drewN | apply Kd.R_drew)); exact (Kd.R_mono (RF (g := gb298) (Kd.R_types HO287.out BK298.out (by decide)) (fun _ hk => hk.2)) (fun _ h_ => h_.1))))) (Kd.R_lt (by (with_reducible repeat (first | apply Kd.R_alloc | apply Kd.R_drewN | apply Kd.R_drew)); exact (Kd.R_mono (RF (g := gb298) (Kd.R_types HO297.out BK298.out (by decide)) (fun _ hk => hk.2)) (fun _ h_ => h_.1))))) (below_size (Bp HB))); replace HO278 := Aside0.mk (Kd.R_elder' (by (with_reducible repeat (first | apply Kd.R_alloc | apply Kd.R_drewN | apply Kd.R_drew)); exact (Kd.R_mono (RF (g := gb298) (Kd.R_types HO278.out BK298.out (by decide)) (fun _ hk => hk.2)) (fun _ h_ => h_.1))) (Kd.R_base ho2) hb); replace HO287 := Aside0.mk (Kd.R_elder' (by (with_reducible repeat (first | apply Kd.R_alloc | apply Kd.R_drewN | apply Kd.R_drew)); exact (Kd.R_mono (RF (g := gb298) (Kd.R_types HO287.out BK298.out (by decide)) (fun _ hk => hk.2)) (fun _ h_ => h_.1))) (Kd.R_base ho2) hb); replace HO297 := Aside0.mk (Kd.R_elder' (by (with_reducible repeat (first | apply Kd.R_alloc | apply Kd.R_drewN | apply Kd.R_drew)); exact (Kd.R_mono (RF (g := gb298) (Kd.R_types HO297.out BK298.out (by decide)) (fun _ hk => hk.2)) (fun _ h_ => h_.1))) (Kd.R_base ho2) hb); replace BK266 := Aside0.mk (blk_below (Kf BK266) hb); replace BK267 := Aside0.mk (blk_below (Kf BK267) hb); replace BK298 := Aside0.mk (blk_below (g := gb298) (o := .cells #[.slice Ao140 t289.length co140, .slice Ao144 t292.length co144, .slice Ao145 t295.length co145] 32 (0, 0)) (by (with_reducible repeat (first | refine blk_drewN ?_ _ | refine blk_drew ?_ | refine blk_alloc ?_ _)); refine blk_put (cs := #[.slice Ao140 t289.length co140, .slice Ao144 t292.length co144, .slice none 0 0]) ?_ 2 _ rfl; (with_reducible repeat (first | refine blk_drewN ?_ _ | refine blk_drew ?_ | refine blk_alloc ?_ _)); refine blk_put (cs := #[.slice Ao140 t289.length co140, .slice none 0 0, .slice none 0 0]) ?_ 1 _ rfl; (with_reducible repeat (first | refine blk_drewN ?_ _ | refine blk_drew ?_ | refine blk_alloc ?_ _)); refine blk_put (cs := #[.slice none 0 0, .slice none 0 0, .slice none 0 0]) ?_ 0 _ rfl; (with_reducible repeat (first | refine blk_drewN ?_ _ | refine blk_drew ?_ | refine blk_alloc ?_ _)); exact BK298.out) hb); replace HB := Bs HB hb; (try clear hb); (try clear hb2); (try clear hk); (try clear hi); (try clear ho0); (try clear ho1); (try clear ho2)) | ((with_reducible refine gate_dst (N := 8) rfl ?_); refine box_event ?hg (N := 8) ?hd (cs := #[.slice none 0 0, .slice none 0 0, .slice none 0 0]) (t := 32) ?hr ?_; (case hd => rfl); (case hg => rfl); (case hr => first | (go_simp; done) | (go_simp; rfl)); intro gb308 hg w148 hbox hb; replace HO272 := Rb HO272 hb; replace HO275 := Rb HO275 hb; replace HO278 := Rb HO278 hb; replace HO281 := Rb HO281 hb; replace HO284 := Rb HO284 hb; replace HO287 := Rb HO287 hb; replace HO291 := Rb HO291 hb; replace HO294 := Rb HO294 hb; replace HO297 := Rb HO297 hb; replace HO301 := Rb HO301 hb; replace HO304 := Rb HO304 hb; replace HO307 := Rb HO307 hb; have BK308 := Aside0.mk (hbox); have GW308 := Aside0.mk ((by rw [hg]; exact (below_size (Bp HB)) : w.heap.size ≤ gb308)); have GE308 := Aside0.mk ((by rw [hg]; exact (below_size (Bp HB)) : w.heap.size ≤ gb308)); replace HB := Bs HB hb; have NB266_308 := Aside0.mk ((by rw [hg]; exact Nat.ne_of_lt (blk_lt (Kp BK266)) : gb266 ≠ gb308)); have NB308_266 := Aside0.mk ((by rw [hg]; exact Nat.ne_of_gt (blk_lt (Kp BK266)) : gb308 ≠ gb266)); replace BK266 := Kb BK266 hb; have NB267_308 := Aside0.mk ((by rw [hg]; exact Nat.ne_of_lt (blk_lt (Kp BK267)) : gb267 ≠ gb308)); have NB308_267 := Aside0.mk ((by rw [hg]; exact Nat.ne_of_gt (blk_lt (Kp BK267)) : gb308 ≠ gb267)); replace BK267 := Kb BK267 hb; have NB298_308 := Aside0.mk ((by rw [hg]; exact Nat.ne_of_lt (blk_lt (Kp BK298)) : gb298 ≠ gb308)); have NB308_298 := Aside0.mk ((by rw [hg]; exact Nat.ne_of_gt (blk_lt (Kp BK298)) : gb308 ≠ gb298)); replace BK298 := Kb BK298 hb; clear hb hbox hg; obtain ⟨Ao149, co149, eo149⟩ := Kd.R_slice HO301.out; subst eo149; have hnb150 := NB308_266.out; have hnc150 := NB266_308.out; have hnb151 := NB308_267.out; have hnc151 := NB267_308.out; have hnb152 := NB308_298.out; have hnc152 := NB298_308.out; obtain ⟨hcz153_0, hcz153_1, hcz153_2⟩ := bc3 (W := w148) BK308.out; obtain ⟨hfz153_0, hfz153_1, hfz153_2⟩ := bf3 BK308.out; obtain ⟨Ao154, co154, eo154⟩ := Kd.R_slice HO304.out; subst eo154; obtain ⟨Ao155, co155, eo155⟩ := Kd.R_slice HO307.out; subst eo155; obtain ⟨hcz156_0, hcz156_1, hcz156_2⟩ := bc3 (W := w148) BK298.out; obtain ⟨hfz156_0, hfz156_1, hfz156_2⟩ := bf3 BK298.out) | ((with_reducible refine gate_callee (f := 15) rfl ?_); refine goesL_ (some 31) rfl rfl Try.func15 (by kernel_rfl) rfl #[.agg #[.slice Ao140 t289.length co140, .slice Ao144 t292.length co144, .slice Ao145 t295.length co145], .agg #[.slice Ao149 t299.length co149, .slice Ao154 t302.length co154, .slice Ao155 t305.length co155]] rfl (by (try simp only [List.map_toArray, List.map_cons, List.map_nil]); first | done | rfl | (simp only [List.length_drop, List.length_take]; rfl)) ?_; (with_reducible refine (impl_TreeSame.calls k _ _ t289 _ _ t292 _ _ t295 _ _ t299 _ _ t302 _ _ t305 t309 _ ?side1 ?side2 ?side3 ?side4 ?side5 ?side6 ?side7 ?side8 ?side9 ?side10 ?side11 ?side12 A24.out).mono ?_); (case side1 => refine (Kd.R_reads' (e := 9) (base := w.heap.size) (ok := fun k_ => (((True ∧ some k_ ≠ (.slice Ao130 t270.length co130 : Value).ownBlock) ∧ some k_ ≠ (.slice Ao133 t279.length co133 : Value).ownBlock) ∧ some k_ ≠ (.slice Ao149 t299.length co149 : Value).ownBlock)) (n := t289.length) (c := co140) ?_).2.2; exact (by (with_reducible repeat (first | apply Kd.R_alloc | apply Kd.R_drewN | apply Kd.R_drew)); exact (Kd.R_mono (RF (g := gb308) (Kd.R_types HO291.out BK308.out (by decide)) (fun _ hk => hk.2)) (fun _ h_ => h_.1)))); (case side2 => exact (Kd.R_reads' HO291.out).2.1); (case side3 => refine (Kd.R_reads' (e := 45) (base := w.heap.size) (ok := fun k_ => ((((((some k_ ≠ (.slice Ao145 t295.length co145 : Value).ownBlock ∧ some k_ ≠ (.slice Ao131 t273.length co131 : Value).ownBlock) ∧ some k_ ≠ (.slice Ao132 t276.length co132 : Value).ownBlock) ∧ some k_ ≠ (.slice Ao134 t282.length co134 : Value).ownBlock) ∧ some k_ ≠ (.slice Ao135 t285.length co135 : Value).ownBlock) ∧ some k_ ≠ (.slice Ao154 t302.length co154 : Value).ownBlock) ∧ some k_ ≠ (.slice Ao155 t305.length co155 : Value).ownBlock)) (n := t292.length) (c := co144) ?_).2.2; exact (by (with_reducible repeat (first | apply Kd.R_alloc | apply Kd.R_drewN | apply Kd.R_drew)); exact (Kd.R_mono (RF (g := gb308) (Kd.R_types HO294.out BK308.out (by decide)) (fun _ hk => hk.2)) (fun _ h_ => h_.1)))); (case side4 => exact (Kd.R_reads' HO294.out).2.1); (case side5 => refine (Kd.R_reads' (e := 43) (base := w.heap.size) (ok := fun k_ => (((True ∧ some k_ ≠ (.slice Ao132 t276.length co132 : Value).ownBlock) ∧ some k_ ≠ (.slice Ao135 t285.length co135 : Value).ownBlock) ∧ some k_ ≠ (.slice Ao155 t305.length co155 : Value).ownBlock)) (n := t295.length) (c := co145) ?_).2.2; exact (by (with_reducible repeat (first | apply Kd.R_alloc | apply Kd.R_drewN | apply Kd.R_drew)); exact (Kd.R_mono (RF (g := gb308) (Kd.R_types HO297.out BK308.out (by decide)) (fun _ hk => hk.2)) (fun _ h_ => h_.1)))); (case side6 => exact (Kd.R_reads' HO297.out).2.1); (case side7 => refine (Kd.R_reads' (e := 9) (base := w.heap.size) (ok := fun k_ => (((True ∧ some k_ ≠ (.slice Ao130 t270.length co130 : Value).ownBlock) ∧ some k_ ≠ (.slice Ao133 t279.length co133 : Value).ownBlock) ∧ some k_ ≠ (.slice Ao140 t289.length co140 : Value).ownBlock)) (n := t299.length) (c := co149) ?_).2.2; exact (by (with_reducible repeat (first | apply Kd.R_alloc | apply Kd.R_drewN | apply Kd.R_drew)); exact (Kd.R_mono (RF (g := gb308) (Kd.R_types HO301.out BK308.out (by decide)) (fun _ hk => hk.2)) (fun _ h_ => h_.1)))); (case side8 => exact (Kd.R_reads' HO301.out).2.1); (case side9 => refine (Kd.R_reads' (e := 45) (base := w.heap.size) (ok := fun k_ => ((((((some k_ ≠ (.slice Ao155 t305.length co155 : Value).ownBlock ∧ some k_ ≠ (.slice Ao131 t273.length co131 : Value).ownBlock) ∧ some k_ ≠ (.slice Ao132 t276.length co132 : Value).ownBlock) ∧ some k_ ≠ (.slice Ao134 t282.length co134 : Value).ownBlock) ∧ some k_ ≠ (.slice Ao135 t285.length co135 : Value).ownBlock) ∧ some k_ ≠ (.slice Ao144 t292.length co144 : Value).ownBlock) ∧ some k_ ≠ (.slice Ao145 t295.length co145 : Value).ownBlock)) (n := t302.length) (c := co154) ?_).2.2; exact (by (with_reducible repeat (first | apply Kd.R_alloc | apply Kd.R_drewN | apply Kd.R_drew)); exact (Kd.R_mono (RF (g := gb308) (Kd.R_types HO304.out BK308.out (by decide)) (fun _ hk => hk.2)) (fun _ h_ => h_.1)))); (case side10 => exact (Kd.R_reads' HO304.out).2.1); (case side11 => refine (Kd.R_reads' (e := 43) (base := w.heap.size) (ok := fun k_ => (((True ∧ some k_ ≠ (.slice Ao132 t276.length co132 : Value).ownBlock) ∧ some k_ ≠ (.slice Ao135 t285.length co135 : Value).ownBlock) ∧ some k_ ≠ (.slice Ao145 t295.length co145 : Value).ownBlock)) (n := t305.length) (c := co155) ?_).2.2; exact (by (with_reducible repeat (first | apply Kd.R_alloc | apply Kd.R_drewN | apply Kd.R_drew)); exact (Kd.R_mono (RF (g := gb308) (Kd.R_types HO307.out BK308.out (by decide)) (fun _ hk => hk.2)) (fun _ h_ => h_.1)))); (case side12 => exact (Kd.R_reads' HO307.out).2.1); rintro e w157 ⟨rfl, hb⟩; refine ⟨_, rfl, ?_⟩; replace HO272 := Aside0.mk (Kd.R_below (by (with_reducible repeat (first | apply Kd.R_alloc | apply Kd.R_drewN | apply Kd.R_drew)); exact (Kd.R_mono (RF (g := gb308) (Kd.R_types HO272.out BK308.out (by decide)) (fun _ hk => hk.2)) (fun _ h_ => h_.1))) hb); replace HO275 := Aside0.mk (Kd.R_below (by (with_reducible repeat (first | apply Kd.R_alloc | apply Kd.R_drewN | apply Kd.R_drew)); exact (Kd.R_mono (RF (g := gb308) (Kd.R_types HO275.out BK308.out (by decide)) (fun _ hk => hk.2)) (fun _ h_ => h_.1))) hb); replace HO278 := Aside0.mk (Kd.R_below (by (with_reducible repeat (first | apply Kd.R_alloc | apply Kd.R_drewN | apply Kd.R_drew)); exact (Kd.R_mono (RF (g := gb308) (Kd.R_types HO278.out BK308.out (by decide)) (fun _ hk => hk.2)) (fun _ h_ => h_.1))) hb); replace HO281 := Aside0.mk (Kd.R_below (by (with_reducible repeat (first | apply Kd.R_alloc | apply Kd.R_drewN | apply Kd.R_drew)); exact (Kd.R_mono (RF (g := gb308) (Kd.R_types HO281.out BK308.out (by decide)) (fun _ hk => hk.2)) (fun _ h_ => h_.1))) hb); replace HO284 := Aside0.mk (Kd.R_below (by (with_reducible repeat (first | apply Kd.R_alloc | apply Kd.R_drewN | apply Kd.R_drew)); exact (Kd.R_mono (RF (g := gb308) (Kd.R_types HO284.out BK308.out (by decide)) (fun _ hk => hk.2)) (fun _ h_ => h_.1))) hb); replace HO287 := Aside0.mk (Kd.R_below (by (with_reducible repeat (first | apply Kd.R_alloc | apply Kd.R_drewN | apply Kd.R_drew)); exact (Kd.R_mono (RF (g := gb308) (Kd.R_types HO287.out BK308.out (by decide)) (fun _ hk => hk.2)) (fun _ h_ => h_.1))) hb); replace HO291 := Aside0.mk (Kd.R_below (by (with_reducible repeat (first | apply Kd.R_alloc | apply Kd.R_drewN | apply Kd.R_drew)); exact (Kd.R_mono (RF (g := gb308) (Kd.R_types HO291.out BK308.out (by decide)) (fun _ hk => hk.2)) (fun _ h_ => h_.1))) hb); replace HO294 := Aside0.mk (Kd.R_below (by (with_reducible repeat (first | apply Kd.R_alloc | apply Kd.R_drewN | apply Kd.R_drew)); exact (Kd.R_mono (RF (g := gb308) (Kd.R_types HO294.out BK308.out (by decide)) (fun _ hk => hk.2)) (fun _ h_ => h_.1))) hb); replace HO297 := Aside0.mk (Kd.R_below (by (with_reducible repeat (first | apply Kd.R_alloc | apply Kd.R_drewN | apply Kd.R_drew)); exact (Kd.R_mono (RF (g := gb308) (Kd.R_types HO297.out BK308.out (by decide)) (fun _ hk => hk.2)) (fun _ h_ => h_.1))) hb); replace HO301 := Aside0.mk (Kd.R_below (by (with_reducible repeat (first | apply Kd.R_alloc | apply Kd.R_drewN | apply Kd.R_drew)); exact (Kd.R_mono (RF (g := gb308) (Kd.R_types HO301.out BK308.out (by decide)) (fun _ hk => hk.2)) (fun _ h_ => h_.1))) hb); replace HO304 := Aside0.mk (Kd.R_below (by (with_reducible repeat (first | apply Kd.R_alloc | apply Kd.R_drewN | apply Kd.R_drew)); exact (Kd.R_mono (RF (g := gb308) (Kd.R_types HO304.out BK308.out (by decide)) (fun _ hk => hk.2)) (fun _ h_ => h_.1))) hb); replace HO307 := Aside0.mk (Kd.R_below (by (with_reducible repeat (first | apply Kd.R_alloc | apply Kd.R_drewN | apply Kd.R_drew)); exact (Kd.R_mono (RF (g := gb308) (Kd.R_types HO307.out BK308.out (by decide)) (fun _ hk => hk.2)) (fun _ h_ => h_.1))) hb); replace BK266 := Aside0.mk (blk_below (Kf BK266) hb); replace BK267 := Aside0.mk (blk_below (Kf BK267) hb); replace BK298 := Aside0.mk (blk_below (Kf BK298) hb); replace BK308 := Aside0.mk (blk_below (g := gb308) (o := .cells #[.slice Ao149 t299.length co149, .slice Ao154 t302.length co154, .slice Ao155 t305.length co155] 32 (0, 0)) (by (with_reducible repeat (first | refine blk_drewN ?_ _ | refine blk_drew ?_ | refine blk_alloc ?_ _)); refine blk_put (cs := #[.slice Ao149 t299.length co149, .slice Ao154 t302.length co154, .slice none 0 0]) ?_ 2 _ rfl; (with_reducible repeat (first | refine blk_drewN ?_ _ | refine blk_drew ?_ | refine blk_alloc ?_ _)); refine blk_put (cs := #[.slice Ao149 t299.length co149, .slice none 0 0, .slice none 0 0]) ?_ 1 _ rfl; (with_reducible repeat (first | refine blk_drewN ?_ _ | refine blk_drew ?_ | refine blk_alloc ?_ _)); refine blk_put (cs := #[.slice none 0 0, .slice none 0 0, .slice none 0 0]) ?_ 0 _ rfl; (with_reducible repeat (first | refine blk_drewN ?_ _ | refine blk_drew ?_ | refine blk_alloc ?_ _)); exact BK308.out) hb); replace HB := Bs HB hb; (try clear hb); (try clear hb2); (try clear hk); (try clear hi)))
            replace HO272 := Aside0.mk (Kd.R_drew HO272.out)
            replace HO275 := Aside0.mk (Kd.R_drew HO275.out)
            replace HO278 := Aside0.mk (Kd.R_drew HO278.out)
            replace HO281 := Aside0.mk (Kd.R_drew HO281.out)
            replace HO284 := Aside0.mk (Kd.R_drew HO284.out)
            replace HO287 := Aside0.mk (Kd.R_drew HO287.out)
            replace HO291 := Aside0.mk (Kd.R_drew HO291.out)
            replace HO294 := Aside0.mk (Kd.R_drew HO294.out)
            replace HO297 := Aside0.mk (Kd.R_drew HO297.out)
            replace HO301 := Aside0.mk (Kd.R_drew HO301.out)
            replace HO304 := Aside0.mk (Kd.R_drew HO304.out)
            replace HO307 := Aside0.mk (Kd.R_drew HO307.out)
            replace BK266 := Aside0.mk (blk_drew BK266.out)
            replace BK267 := Aside0.mk (blk_drew BK267.out)
            replace BK298 := Aside0.mk (blk_drew BK298.out)
            replace BK308 := Aside0.mk (blk_drew BK308.out)
            replace HB := Aside0.mk (below_drew1 HB.out)
            refine start_ (n := 5) (S := fun w' => w'.cell? ⟨gb298, 0, none⟩ = some (.slice Ao140 t289.length co140) ∧ w'.cell? ⟨gb298, 1, none⟩ = some (.slice Ao144 t292.length co144) ∧ w'.cell? ⟨gb298, 2, none⟩ = some (.slice Ao145 t295.length co145) ∧ w'.cell? ⟨gb266, 0, none⟩ = some (.slice A0_0 l0_0.length c0_0) ∧ w'.cell? ⟨gb266, 1, none⟩ = some (.slice A0_1 l0_1.length c0_1) ∧ w'.cell? ⟨gb266, 2, none⟩ = some (.slice A0_2 l0_2.length c0_2)) (ds := []) #[false, false, false, false, false] (by kernel_rfl) rfl rfl ⟨(blk_cell BK298.out 0).trans rfl, (blk_cell BK298.out 1).trans rfl, (blk_cell BK298.out 2).trans rfl, (blk_cell BK266.out 0).trans rfl, (blk_cell BK266.out 1).trans rfl, (blk_cell BK266.out 2).trans rfl⟩ (fun hHeld => ?_)
            generalize w157.drew = w158 at HO272 HO275 HO278 HO281 HO284 HO287 HO291 HO294 HO297 HO301 HO304 HO307 BK266 BK267 BK298 BK308 HB hHeld ⊢
            refine take_ (i := 0) (N := some 35) (v := ?_) (a' := ?_) #[true, false, false, false, false] rfl rfl (by kernel_rfl) (fun _ _ _ h => h) (Or.inl ⟨by rfl, ?_⟩) hHeld ?_ ?_
            rotate_left
            · rintro w' ⟨s0, s1, s2, s3, s4, s5⟩
              go_simp
              with_reducible rfl
            rotate_left
            · simp only [Act.put, List.setIfInBounds_toArray, List.set_cons_zero, List.set_cons_succ, i64_w, i32_w]
              rfl
            refine take_ (i := 1) (N := some 36) (v := ?_) (a' := ?_) #[true, true, false, false, false] rfl rfl (by kernel_rfl) (fun _ _ _ h => h) (Or.inl ⟨by rfl, ?_⟩) hHeld ?_ ?_
            rotate_left
            · rintro w' ⟨s0, s1, s2, s3, s4, s5⟩
              go_simp
              with_reducible rfl
            rotate_left
            · simp only [Act.put, List.setIfInBounds_toArray, List.set_cons_zero, List.set_cons_succ, i64_w, i32_w]
              rfl
            refine one_ (i := 2) (N := some 37) #[true, true, true, false, false] rfl rfl (by kernel_rfl) (by decide) (fun K hK => ?_)
            refine goes_ Try.func14 (by kernel_rfl) rfl #[.agg #[.slice A0_0 l0_0.length c0_0, .slice A0_1 l0_1.length c0_1, .slice A0_2 l0_2.length c0_2]] (by rfl) rfl rfl (by (try simp only [List.map_toArray, List.map_cons, List.map_nil]); first | done | rfl | (simp only [List.length_drop, List.length_take]; rfl)) ?_
            with_reducible refine (laws_toTreeMod.calls k _ _ l0_0 _ _ l0_1 _ _ l0_2 t310 t313 t316 _ ?side1 ?side2 ?side3 ?side4 ?side5 ?side6 A64.out).mono ?_
            (case side1 => exact Cb HR0_0 HB)
            (case side2 => exact HC0_0.out)
            (case side3 => exact Cb HR0_1 HB)
            (case side4 => exact HC0_1.out)
            (case side5 => exact Cb HR0_2 HB)
            (case side6 => exact HC0_2.out)
            rintro e w159 ⟨v311, v314, v317, rfl, ho0, ho1, ho2, hb⟩
            refine ⟨_, rfl, ?_⟩
            have HO312 := Aside0.mk (Kd.R_lower (Kd.R_new' (Kd.R_new' (Kd.R_new' (Kd.R_new' ho0 (Rt HO272)) (Rt HO281)) (Rt HO291)) (Rt HO301)) (below_size (Bp HB)))
            replace HO272 := Aside0.mk (Re HO272 ho0 hb)
            replace HO281 := Aside0.mk (Re HO281 ho0 hb)
            replace HO291 := Aside0.mk (Re HO291 ho0 hb)
            replace HO301 := Aside0.mk (Re HO301 ho0 hb)
            have HO315 := Aside0.mk (Kd.R_lower (Kd.R_new' (Kd.R_new' (Kd.R_new' (Kd.R_new' (Kd.R_new' (Kd.R_new' (Kd.R_new' (Kd.R_new' ho1 (Rt HO275)) (Rt HO278)) (Rt HO284)) (Rt HO287)) (Rt HO294)) (Rt HO297)) (Rt HO304)) (Rt HO307)) (below_size (Bp HB)))
            replace HO275 := Aside0.mk (Kd.R_mono (Kd.R_told (Kd.R_told (Kd.R_old (Rp HO275) hb) (Kd.R_base ho1)) (Kd.R_base ho2)) (fun _ h_ => h_.1))
            replace HO284 := Aside0.mk (Kd.R_mono (Kd.R_told (Kd.R_told (Kd.R_old (Rp HO284) hb) (Kd.R_base ho1)) (Kd.R_base ho2)) (fun _ h_ => h_.1))
            replace HO294 := Aside0.mk (Kd.R_mono (Kd.R_told (Kd.R_told (Kd.R_old (Rp HO294) hb) (Kd.R_base ho1)) (Kd.R_base ho2)) (fun _ h_ => h_.1))
            replace HO304 := Aside0.mk (Kd.R_mono (Kd.R_told (Kd.R_told (Kd.R_old (Rp HO304) hb) (Kd.R_base ho1)) (Kd.R_base ho2)) (fun _ h_ => h_.1))
            have HO318 := Aside0.mk (Kd.R_lower (Kd.R_new' (Kd.R_new' (Kd.R_new' (Kd.R_new' ho2 (Rt HO278)) (Rt HO287)) (Rt HO297)) (Rt HO307)) (below_size (Bp HB)))
            replace HO278 := Aside0.mk (Re HO278 ho2 hb)
            replace HO287 := Aside0.mk (Re HO287 ho2 hb)
            replace HO297 := Aside0.mk (Re HO297 ho2 hb)
            replace HO307 := Aside0.mk (Re HO307 ho2 hb)
            replace BK266 := Kb BK266 hb
            replace BK267 := Kb BK267 hb
            replace BK298 := Kb BK298 hb
            replace BK308 := Kb BK308 hb
            replace HB := Bs HB hb
            (try clear hb)
            (try clear hb2)
            (try clear hk)
            (try clear hi)
            (try clear ho0)
            (try clear ho1)
            (try clear ho2)
            obtain ⟨Ao160, co160, eo160⟩ := Kd.R_slice HO312.out
            (first | subst eo160 | (injection eo160 with f1_ f2_ f3_; have f4_ := f1_.symm; have f5_ := f3_.symm; clear f1_ f2_ f3_; subst f4_; subst f5_))
            obtain ⟨Ao161, co161, eo161⟩ := Kd.R_slice HO315.out
            (first | subst eo161 | (injection eo161 with f1_ f2_ f3_; have f4_ := f1_.symm; have f5_ := f3_.symm; clear f1_ f2_ f3_; subst f4_; subst f5_))
            obtain ⟨Ao162, co162, eo162⟩ := Kd.R_slice HO318.out
            (first | subst eo162 | (injection eo162 with f1_ f2_ f3_; have f4_ := f1_.symm; have f5_ := f3_.symm; clear f1_ f2_ f3_; subst f4_; subst f5_))
            refine hK.out _ _ ⟨(blk_cell BK298.out 0).trans rfl, (blk_cell BK298.out 1).trans rfl, (blk_cell BK298.out 2).trans rfl, (blk_cell BK266.out 0).trans rfl, (blk_cell BK266.out 1).trans rfl, (blk_cell BK266.out 2).trans rfl⟩ (fun hHeld => ?_)
            clear hK K
            refine norm_ (a' := ?_) ?_ ?_
            rotate_left
            · show Act.put _ (some 37) _ = _
              simp only [Act.put, List.setIfInBounds_toArray, List.set_cons_zero, List.set_cons_succ, i64_w, i32_w]
              rfl
            refine one_ (i := 3) (N := some 38) #[true, true, true, true, false] rfl rfl (by kernel_rfl) (by decide) (fun K hK => ?_)
            refine goes_ Try.func16 (by kernel_rfl) rfl #[.agg #[.slice Ao140 t289.length co140, .slice Ao144 t292.length co144, .slice Ao145 t295.length co145], .agg #[.slice Ao160 t310.length co160, .slice Ao161 t313.length co161, .slice Ao162 t316.length co162]] (by rfl) rfl rfl (by (try simp only [List.map_toArray, List.map_cons, List.map_nil]); first | done | rfl | (simp only [List.length_drop, List.length_take]; rfl)) ?_
            with_reducible refine (laws_eqTreeMod.calls k _ _ t289 _ _ t292 _ _ t295 _ _ t310 _ _ t313 _ _ t316 true _ ?side1 ?side2 ?side3 ?side4 ?side5 ?side6 ?side7 ?side8 ?side9 ?side10 ?side11 ?side12 A65.out).mono ?_
            (case side1 => repeat (first | exact (Kd.R_reads' HO291.out).2.2 | (with_reducible refine Kd.C_alloc ?_ _) | (with_reducible refine Kd.C_drewN ?_ _) | (with_reducible refine Kd.C_drew ?_)))
            (case side2 => exact (Kd.R_reads' HO291.out).2.1)
            (case side3 => repeat (first | exact (Kd.R_reads' HO294.out).2.2 | (with_reducible refine Kd.C_alloc ?_ _) | (with_reducible refine Kd.C_drewN ?_ _) | (with_reducible refine Kd.C_drew ?_)))
            (case side4 => exact (Kd.R_reads' HO294.out).2.1)
            (case side5 => repeat (first | exact (Kd.R_reads' HO297.out).2.2 | (with_reducible refine Kd.C_alloc ?_ _) | (with_reducible refine Kd.C_drewN ?_ _) | (with_reducible refine Kd.C_drew ?_)))
            (case side6 => exact (Kd.R_reads' HO297.out).2.1)
            (case side7 => repeat (first | exact (Kd.R_reads' HO312.out).2.2 | (with_reducible refine Kd.C_alloc ?_ _) | (with_reducible refine Kd.C_drewN ?_ _) | (with_reducible refine Kd.C_drew ?_)))
            (case side8 => exact (Kd.R_reads' HO312.out).2.1)
            (case side9 => repeat (first | exact (Kd.R_reads' HO315.out).2.2 | (with_reducible refine Kd.C_alloc ?_ _) | (with_reducible refine Kd.C_drewN ?_ _) | (with_reducible refine Kd.C_drew ?_)))
            (case side10 => exact (Kd.R_reads' HO315.out).2.1)
            (case side11 => repeat (first | exact (Kd.R_reads' HO318.out).2.2 | (with_reducible refine Kd.C_alloc ?_ _) | (with_reducible refine Kd.C_drewN ?_ _) | (with_reducible refine Kd.C_drew ?_)))
            (case side12 => exact (Kd.R_reads' HO318.out).2.1)
            rintro e w163 ⟨rfl, hb⟩
            refine ⟨_, rfl, ?_⟩
            replace HO272 := Rb HO272 hb
            replace HO275 := Rb HO275 hb
            replace HO278 := Rb HO278 hb
            replace HO281 := Rb HO281 hb
            replace HO284 := Rb HO284 hb
            replace HO287 := Rb HO287 hb
            replace HO291 := Rb HO291 hb
            replace HO294 := Rb HO294 hb
            replace HO297 := Rb HO297 hb
            replace HO301 := Rb HO301 hb
            replace HO304 := Rb HO304 hb
            replace HO307 := Rb HO307 hb
            replace HO312 := Rb HO312 hb
            replace HO315 := Rb HO315 hb
            replace HO318 := Rb HO318 hb
            replace BK266 := Kb BK266 hb
            replace BK267 := Kb BK267 hb
            replace BK298 := Kb BK298 hb
            replace BK308 := Kb BK308 hb
            replace HB := Bs HB hb
            (try clear hb)
            (try clear hb2)
            (try clear hk)
            (try clear hi)
            refine hK.out _ _ ⟨(blk_cell BK298.out 0).trans rfl, (blk_cell BK298.out 1).trans rfl, (blk_cell BK298.out 2).trans rfl, (blk_cell BK266.out 0).trans rfl, (blk_cell BK266.out 1).trans rfl, (blk_cell BK266.out 2).trans rfl⟩ (fun hHeld => ?_)
            clear hK K
            refine norm_ (a' := ?_) ?_ ?_
            rotate_left
            · show Act.put _ (some 38) _ = _
              simp only [Act.put, List.setIfInBounds_toArray, List.set_cons_zero, List.set_cons_succ, i64_w, i32_w]
              rfl
            refine pure_ (i := 4) (N := some 39) (v := ?_) (a' := ?_) #[true, true, true, true, true] rfl rfl (by kernel_rfl) (fun _ _ _ h => h) (Or.inl ⟨by rfl, ?_⟩) ?_ ?_
            rotate_left
            · intro w'
              go_simp
              with_reducible rfl
            rotate_left
            · simp only [Act.put, List.setIfInBounds_toArray, List.set_cons_zero, List.set_cons_succ, i64_w, i32_w]
              rfl
            refine done_ (by kernel_rfl) ?_
            try go_wp2
            replace HO272 := Aside0.mk (Kd.R_drew HO272.out)
            replace HO275 := Aside0.mk (Kd.R_drew HO275.out)
            replace HO278 := Aside0.mk (Kd.R_drew HO278.out)
            replace HO281 := Aside0.mk (Kd.R_drew HO281.out)
            replace HO284 := Aside0.mk (Kd.R_drew HO284.out)
            replace HO287 := Aside0.mk (Kd.R_drew HO287.out)
            replace HO291 := Aside0.mk (Kd.R_drew HO291.out)
            replace HO294 := Aside0.mk (Kd.R_drew HO294.out)
            replace HO297 := Aside0.mk (Kd.R_drew HO297.out)
            replace HO301 := Aside0.mk (Kd.R_drew HO301.out)
            replace HO304 := Aside0.mk (Kd.R_drew HO304.out)
            replace HO307 := Aside0.mk (Kd.R_drew HO307.out)
            replace HO312 := Aside0.mk (Kd.R_drew HO312.out)
            replace HO315 := Aside0.mk (Kd.R_drew HO315.out)
            replace HO318 := Aside0.mk (Kd.R_drew HO318.out)
            replace BK266 := Aside0.mk (blk_drew BK266.out)
            replace BK267 := Aside0.mk (blk_drew BK267.out)
            replace BK298 := Aside0.mk (blk_drew BK298.out)
            replace BK308 := Aside0.mk (blk_drew BK308.out)
            replace HB := Aside0.mk (below_drew1 HB.out)
            refine start_ (n := 5) (S := fun w' => w'.cell? ⟨gb308, 0, none⟩ = some (.slice Ao149 t299.length co149) ∧ w'.cell? ⟨gb308, 1, none⟩ = some (.slice Ao154 t302.length co154) ∧ w'.cell? ⟨gb308, 2, none⟩ = some (.slice Ao155 t305.length co155) ∧ w'.cell? ⟨gb267, 0, none⟩ = some (.slice A1_0 l1_0.length c1_0) ∧ w'.cell? ⟨gb267, 1, none⟩ = some (.slice A1_1 l1_1.length c1_1) ∧ w'.cell? ⟨gb267, 2, none⟩ = some (.slice A1_2 l1_2.length c1_2)) (ds := []) #[false, false, false, false, false] (by kernel_rfl) rfl rfl ⟨(blk_cell BK308.out 0).trans rfl, (blk_cell BK308.out 1).trans rfl, (blk_cell BK308.out 2).trans rfl, (blk_cell BK267.out 0).trans rfl, (blk_cell BK267.out 1).trans rfl, (blk_cell BK267.out 2).trans rfl⟩ (fun hHeld => ?_)
            generalize w163.drew = w164 at HO272 HO275 HO278 HO281 HO284 HO287 HO291 HO294 HO297 HO301 HO304 HO307 HO312 HO315 HO318 BK266 BK267 BK298 BK308 HB hHeld ⊢
            refine take_ (i := 0) (N := some 40) (v := ?_) (a' := ?_) #[true, false, false, false, false] rfl rfl (by kernel_rfl) (fun _ _ _ h => h) (Or.inl ⟨by rfl, ?_⟩) hHeld ?_ ?_
            rotate_left
            · rintro w' ⟨s0, s1, s2, s3, s4, s5⟩
              go_simp
              with_reducible rfl
            rotate_left
            · simp only [Act.put, List.setIfInBounds_toArray, List.set_cons_zero, List.set_cons_succ, i64_w, i32_w]
              rfl
            refine take_ (i := 1) (N := some 41) (v := ?_) (a' := ?_) #[true, true, false, false, false] rfl rfl (by kernel_rfl) (fun _ _ _ h => h) (Or.inl ⟨by rfl, ?_⟩) hHeld ?_ ?_
            rotate_left
            · rintro w' ⟨s0, s1, s2, s3, s4, s5⟩
              go_simp
              with_reducible rfl
            rotate_left
            · simp only [Act.put, List.setIfInBounds_toArray, List.set_cons_zero, List.set_cons_succ, i64_w, i32_w]
              rfl
            refine one_ (i := 2) (N := some 42) #[true, true, true, false, false] rfl rfl (by kernel_rfl) (by decide) (fun K hK => ?_)
            refine goes_ Try.func14 (by kernel_rfl) rfl #[.agg #[.slice A1_0 l1_0.length c1_0, .slice A1_1 l1_1.length c1_1, .slice A1_2 l1_2.length c1_2]] (by rfl) rfl rfl (by (try simp only [List.map_toArray, List.map_cons, List.map_nil]); first | done | rfl | (simp only [List.length_drop, List.length_take]; rfl)) ?_
            with_reducible refine (laws_toTreeMod.calls k _ _ l1_0 _ _ l1_1 _ _ l1_2 t320 t323 t326 _ ?side1 ?side2 ?side3 ?side4 ?side5 ?side6 A67.out).mono ?_
            (case side1 => exact Cb HR1_0 HB)
            (case side2 => exact HC1_0.out)
            (case side3 => exact Cb HR1_1 HB)
            (case side4 => exact HC1_1.out)
            (case side5 => exact Cb HR1_2 HB)
            (case side6 => exact HC1_2.out)
            rintro e w165 ⟨v321, v324, v327, rfl, ho0, ho1, ho2, hb⟩
            refine ⟨_, rfl, ?_⟩
            have HO322 := Aside0.mk (Kd.R_lower (Kd.R_new' (Kd.R_new' (Kd.R_new' (Kd.R_new' (Kd.R_new' ho0 (Rt HO272)) (Rt HO281)) (Rt HO291)) (Rt HO301)) (Rt HO312)) (below_size (Bp HB)))
            replace HO272 := Aside0.mk (Re HO272 ho0 hb)
            replace HO281 := Aside0.mk (Re HO281 ho0 hb)
            replace HO291 := Aside0.mk (Re HO291 ho0 hb)
            replace HO301 := Aside0.mk (Re HO301 ho0 hb)
            replace HO312 := Aside0.mk (Re HO312 ho0 hb)
            have HO325 := Aside0.mk (Kd.R_lower (Kd.R_new' (Kd.R_new' (Kd.R_new' (Kd.R_new' (Kd.R_new' (Kd.R_new' (Kd.R_new' (Kd.R_new' (Kd.R_new' (Kd.R_new' ho1 (Rt HO275)) (Rt HO278)) (Rt HO284)) (Rt HO287)) (Rt HO294)) (Rt HO297)) (Rt HO304)) (Rt HO307)) (Rt HO315)) (Rt HO318)) (below_size (Bp HB)))
            replace HO275 := Aside0.mk (Kd.R_mono (Kd.R_told (Kd.R_told (Kd.R_old (Rp HO275) hb) (Kd.R_base ho1)) (Kd.R_base ho2)) (fun _ h_ => h_.1))
            replace HO284 := Aside0.mk (Kd.R_mono (Kd.R_told (Kd.R_told (Kd.R_old (Rp HO284) hb) (Kd.R_base ho1)) (Kd.R_base ho2)) (fun _ h_ => h_.1))
            replace HO294 := Aside0.mk (Kd.R_mono (Kd.R_told (Kd.R_told (Kd.R_old (Rp HO294) hb) (Kd.R_base ho1)) (Kd.R_base ho2)) (fun _ h_ => h_.1))
            replace HO304 := Aside0.mk (Kd.R_mono (Kd.R_told (Kd.R_told (Kd.R_old (Rp HO304) hb) (Kd.R_base ho1)) (Kd.R_base ho2)) (fun _ h_ => h_.1))
            replace HO315 := Aside0.mk (Kd.R_mono (Kd.R_told (Kd.R_told (Kd.R_old (Rp HO315) hb) (Kd.R_base ho1)) (Kd.R_base ho2)) (fun _ h_ => h_.1))
            have HO328 := Aside0.mk (Kd.R_lower (Kd.R_new' (Kd.R_new' (Kd.R_new' (Kd.R_new' (Kd.R_new' ho2 (Rt HO278)) (Rt HO287)) (Rt HO297)) (Rt HO307)) (Rt HO318)) (below_size (Bp HB)))
            replace HO278 := Aside0.mk (Re HO278 ho2 hb)
            replace HO287 := Aside0.mk (Re HO287 ho2 hb)
            replace HO297 := Aside0.mk (Re HO297 ho2 hb)
            replace HO307 := Aside0.mk (Re HO307 ho2 hb)
            replace HO318 := Aside0.mk (Re HO318 ho2 hb)
            replace BK266 := Kb BK266 hb
            replace BK267 := Kb BK267 hb
            replace BK298 := Kb BK298 hb
            replace BK308 := Kb BK308 hb
            replace HB := Bs HB hb
            (try clear hb)
            (try clear hb2)
            (try clear hk)
            (try clear hi)
            (try clear ho0)
            (try clear ho1)
            (try clear ho2)
            obtain ⟨Ao166, co166, eo166⟩ := Kd.R_slice HO322.out
            (first | subst eo166 | (injection eo166 with f1_ f2_ f3_; have f4_ := f1_.symm; have f5_ := f3_.symm; clear f1_ f2_ f3_; subst f4_; subst f5_))
            obtain ⟨Ao167, co167, eo167⟩ := Kd.R_slice HO325.out
            (first | subst eo167 | (injection eo167 with f1_ f2_ f3_; have f4_ := f1_.symm; have f5_ := f3_.symm; clear f1_ f2_ f3_; subst f4_; subst f5_))
            obtain ⟨Ao168, co168, eo168⟩ := Kd.R_slice HO328.out
            (first | subst eo168 | (injection eo168 with f1_ f2_ f3_; have f4_ := f1_.symm; have f5_ := f3_.symm; clear f1_ f2_ f3_; subst f4_; subst f5_))
            refine hK.out _ _ ⟨(blk_cell BK308.out 0).trans rfl, (blk_cell BK308.out 1).trans rfl, (blk_cell BK308.out 2).trans rfl, (blk_cell BK267.out 0).trans rfl, (blk_cell BK267.out 1).trans rfl, (blk_cell BK267.out 2).trans rfl⟩ (fun hHeld => ?_)
            clear hK K
            refine norm_ (a' := ?_) ?_ ?_
            rotate_left
            · show Act.put _ (some 42) _ = _
              simp only [Act.put, List.setIfInBounds_toArray, List.set_cons_zero, List.set_cons_succ, i64_w, i32_w]
              rfl
            refine one_ (i := 3) (N := some 43) #[true, true, true, true, false] rfl rfl (by kernel_rfl) (by decide) (fun K hK => ?_)
            refine goes_ Try.func16 (by kernel_rfl) rfl #[.agg #[.slice Ao149 t299.length co149, .slice Ao154 t302.length co154, .slice Ao155 t305.length co155], .agg #[.slice Ao166 t320.length co166, .slice Ao167 t323.length co167, .slice Ao168 t326.length co168]] (by rfl) rfl rfl (by (try simp only [List.map_toArray, List.map_cons, List.map_nil]); first | done | rfl | (simp only [List.length_drop, List.length_take]; rfl)) ?_
            with_reducible refine (laws_eqTreeMod.calls k _ _ t299 _ _ t302 _ _ t305 _ _ t320 _ _ t323 _ _ t326 false _ ?side1 ?side2 ?side3 ?side4 ?side5 ?side6 ?side7 ?side8 ?side9 ?side10 ?side11 ?side12 A68.out).mono ?_
            (case side1 => repeat (first | exact (Kd.R_reads' HO301.out).2.2 | (with_reducible refine Kd.C_alloc ?_ _) | (with_reducible refine Kd.C_drewN ?_ _) | (with_reducible refine Kd.C_drew ?_)))
            (case side2 => exact (Kd.R_reads' HO301.out).2.1)
            (case side3 => repeat (first | exact (Kd.R_reads' HO304.out).2.2 | (with_reducible refine Kd.C_alloc ?_ _) | (with_reducible refine Kd.C_drewN ?_ _) | (with_reducible refine Kd.C_drew ?_)))
            (case side4 => exact (Kd.R_reads' HO304.out).2.1)
            (case side5 => repeat (first | exact (Kd.R_reads' HO307.out).2.2 | (with_reducible refine Kd.C_alloc ?_ _) | (with_reducible refine Kd.C_drewN ?_ _) | (with_reducible refine Kd.C_drew ?_)))
            (case side6 => exact (Kd.R_reads' HO307.out).2.1)
            (case side7 => repeat (first | exact (Kd.R_reads' HO322.out).2.2 | (with_reducible refine Kd.C_alloc ?_ _) | (with_reducible refine Kd.C_drewN ?_ _) | (with_reducible refine Kd.C_drew ?_)))
            (case side8 => exact (Kd.R_reads' HO322.out).2.1)
            (case side9 => repeat (first | exact (Kd.R_reads' HO325.out).2.2 | (with_reducible refine Kd.C_alloc ?_ _) | (with_reducible refine Kd.C_drewN ?_ _) | (with_reducible refine Kd.C_drew ?_)))
            (case side10 => exact (Kd.R_reads' HO325.out).2.1)
            (case side11 => repeat (first | exact (Kd.R_reads' HO328.out).2.2 | (with_reducible refine Kd.C_alloc ?_ _) | (with_reducible refine Kd.C_drewN ?_ _) | (with_reducible refine Kd.C_drew ?_)))
            (case side12 => exact (Kd.R_reads' HO328.out).2.1)
            rintro e w169 ⟨rfl, hb⟩
            refine ⟨_, rfl, ?_⟩
            replace HO272 := Rb HO272 hb
            replace HO275 := Rb HO275 hb
            replace HO278 := Rb HO278 hb
            replace HO281 := Rb HO281 hb
            replace HO284 := Rb HO284 hb
            replace HO287 := Rb HO287 hb
            replace HO291 := Rb HO291 hb
            replace HO294 := Rb HO294 hb
            replace HO297 := Rb HO297 hb
            replace HO301 := Rb HO301 hb
            replace HO304 := Rb HO304 hb
            replace HO307 := Rb HO307 hb
            replace HO312 := Rb HO312 hb
            replace HO315 := Rb HO315 hb
            replace HO318 := Rb HO318 hb
            replace HO322 := Rb HO322 hb
            replace HO325 := Rb HO325 hb
            replace HO328 := Rb HO328 hb
            replace BK266 := Kb BK266 hb
            replace BK267 := Kb BK267 hb
            replace BK298 := Kb BK298 hb
            replace BK308 := Kb BK308 hb
            replace HB := Bs HB hb
            (try clear hb)
            (try clear hb2)
            (try clear hk)
            (try clear hi)
            refine hK.out _ _ ⟨(blk_cell BK308.out 0).trans rfl, (blk_cell BK308.out 1).trans rfl, (blk_cell BK308.out 2).trans rfl, (blk_cell BK267.out 0).trans rfl, (blk_cell BK267.out 1).trans rfl, (blk_cell BK267.out 2).trans rfl⟩ (fun hHeld => ?_)
            clear hK K
            refine norm_ (a' := ?_) ?_ ?_
            rotate_left
            · show Act.put _ (some 43) _ = _
              simp only [Act.put, List.setIfInBounds_toArray, List.set_cons_zero, List.set_cons_succ, i64_w, i32_w]
              rfl
            refine pure_ (i := 4) (N := some 44) (v := ?_) (a' := ?_) #[true, true, true, true, true] rfl rfl (by kernel_rfl) (fun _ _ _ h => h) (Or.inl ⟨by rfl, ?_⟩) ?_ ?_
            rotate_left
            · intro w'
              go_simp
              with_reducible rfl
            rotate_left
            · simp only [Act.put, List.setIfInBounds_toArray, List.set_cons_zero, List.set_cons_succ, i64_w, i32_w]
              rfl
            refine done_ (by kernel_rfl) ?_
            try go_wp2
            go_ret
            exact ⟨by first | rfl | (simp [errW_none, errW_some] <;> rfl) | (simp [*, errW_none, errW_some] <;> rfl), Bp HB⟩
        · replace c66 := Bool.eq_false_iff.mpr c66
          subst c66
          have H1 : (some false) = some r := by rw [if_neg (show ¬ (false = true) by decide)] at H; exact H
          clear H
          have H := H1
          clear H1
          obtain rfl := Option.some.inj H
          go_enter Try.func3, Try.ntmps3
          try go_wp2_with (first | ((with_reducible refine gate_dst (N := 2) rfl ?_); refine box_event ?hg (N := 2) ?hd (cs := #[.slice A0_0 l0_0.length c0_0, .slice A0_1 l0_1.length c0_1, .slice A0_2 l0_2.length c0_2]) (t := 26) ?hr ?_; (case hd => rfl); (case hg => rfl); (case hr => first | (go_simp; done) | (go_simp; rfl)); intro gb266 hg w170 hbox hb; have BK266 := Aside0.mk (hbox); have GW266 := Aside0.mk ((by rw [hg]; exact (below_size (Bp HB)) : w.heap.size ≤ gb266)); have GE266 := Aside0.mk ((by rw [hg]; exact (below_size (Bp HB)) : w.heap.size ≤ gb266)); replace HB := Bs HB hb; clear hb hbox hg) | ((with_reducible refine gate_dst (N := 3) rfl ?_); refine box_event ?hg (N := 3) ?hd (cs := #[.slice A1_0 l1_0.length c1_0, .slice A1_1 l1_1.length c1_1, .slice A1_2 l1_2.length c1_2]) (t := 26) ?hr ?_; (case hd => rfl); (case hg => rfl); (case hr => first | (go_simp; done) | (go_simp; rfl)); intro gb267 hg w171 hbox hb; have BK267 := Aside0.mk (hbox); have GW267 := Aside0.mk ((by rw [hg]; exact (below_size (Bp HB)) : w.heap.size ≤ gb267)); have GE267 := Aside0.mk ((by rw [hg]; exact (below_size (Bp HB)) : w.heap.size ≤ gb267)); replace HB := Bs HB hb; have NB266_267 := Aside0.mk ((by rw [hg]; exact Nat.ne_of_lt (blk_lt (Kp BK266)) : gb266 ≠ gb267)); have NB267_266 := Aside0.mk ((by rw [hg]; exact Nat.ne_of_gt (blk_lt (Kp BK266)) : gb267 ≠ gb266)); replace BK266 := Kb BK266 hb; clear hb hbox hg; have hnb172 := NB266_267.out; have hnc172 := NB267_266.out; obtain ⟨hcz173_0, hcz173_1, hcz173_2⟩ := bc3 (W := w171) BK266.out; obtain ⟨hfz173_0, hfz173_1, hfz173_2⟩ := bf3 BK266.out) | ((with_reducible refine gate_callee (f := 12) rfl ?_); refine goesL_ (some 12) rfl rfl Try.func12 (by kernel_rfl) rfl #[.agg #[.slice A0_0 l0_0.length c0_0, .slice A0_1 l0_1.length c0_1, .slice A0_2 l0_2.length c0_2], .int .i64 1048576] rfl (by (try simp only [List.map_toArray, List.map_cons, List.map_nil]); first | done | rfl | (simp only [List.length_drop, List.length_take]; rfl)) ?_; (with_reducible refine (laws_szTreeMod.calls k _ _ l0_0 _ _ l0_1 _ _ l0_2 1048576 t268 _ ?side1 ?side2 ?side3 ?side4 ?side5 ?side6 A3.out).mono ?_); (case side1 => exact Cb HR0_0 HB); (case side2 => exact HC0_0.out); (case side3 => exact Cb HR0_1 HB); (case side4 => exact HC0_1.out); (case side5 => exact Cb HR0_2 HB); (case side6 => exact HC0_2.out); rintro e w174 ⟨rfl, hb⟩; refine ⟨_, rfl, ?_⟩; replace BK266 := Kb BK266 hb; replace BK267 := Kb BK267 hb; replace HB := Bs HB hb; (try clear hb); (try clear hb2); (try clear hk); (try clear hi); obtain ⟨hcz175_0, hcz175_1, hcz175_2⟩ := bc3 (W := w174) BK267.out; obtain ⟨hfz175_0, hfz175_1, hfz175_2⟩ := bf3 BK267.out) | ((with_reducible refine gate_callee (f := 12) rfl ?_); refine goesL_ (some 17) rfl rfl Try.func12 (by kernel_rfl) rfl #[.agg #[.slice A1_0 l1_0.length c1_0, .slice A1_1 l1_1.length c1_1, .slice A1_2 l1_2.length c1_2], .int .i64 t268] rfl (by (try simp only [List.map_toArray, List.map_cons, List.map_nil]); first | done | rfl | (simp only [List.length_drop, List.length_take]; rfl)) ?_; (with_reducible refine (laws_szTreeMod.calls k _ _ l1_0 _ _ l1_1 _ _ l1_2 t268 t269 _ ?side1 ?side2 ?side3 ?side4 ?side5 ?side6 A10.out).mono ?_); (case side1 => exact Cb HR1_0 HB); (case side2 => exact HC1_0.out); (case side3 => exact Cb HR1_1 HB); (case side4 => exact HC1_1.out); (case side5 => exact Cb HR1_2 HB); (case side6 => exact HC1_2.out); rintro e w176 ⟨rfl, hb⟩; refine ⟨_, rfl, ?_⟩; replace BK266 := Kb BK266 hb; replace BK267 := Kb BK267 hb; replace HB := Bs HB hb; (try clear hb); (try clear hb2); (try clear hk); (try clear hi)))
          replace BK266 := Aside0.mk (blk_drew BK266.out)
          replace BK267 := Aside0.mk (blk_drew BK267.out)
          replace HB := Aside0.mk (below_drew1 HB.out)
          refine start_ (n := 6) (S := fun w' => w'.cell? ⟨gb266, 0, none⟩ = some (.slice A0_0 l0_0.length c0_0) ∧ w'.cell? ⟨gb266, 1, none⟩ = some (.slice A0_1 l0_1.length c0_1) ∧ w'.cell? ⟨gb266, 2, none⟩ = some (.slice A0_2 l0_2.length c0_2) ∧ w'.cell? ⟨gb267, 0, none⟩ = some (.slice A1_0 l1_0.length c1_0) ∧ w'.cell? ⟨gb267, 1, none⟩ = some (.slice A1_1 l1_1.length c1_1) ∧ w'.cell? ⟨gb267, 2, none⟩ = some (.slice A1_2 l1_2.length c1_2)) (ds := []) #[false, false, false, false, false, false] (by kernel_rfl) rfl rfl ⟨(blk_cell BK266.out 0).trans rfl, (blk_cell BK266.out 1).trans rfl, (blk_cell BK266.out 2).trans rfl, (blk_cell BK267.out 0).trans rfl, (blk_cell BK267.out 1).trans rfl, (blk_cell BK267.out 2).trans rfl⟩ (fun hHeld => ?_)
          generalize w176.drew = w177 at BK266 BK267 HB hHeld ⊢
          refine take_ (i := 0) (N := some 20) (v := ?_) (a' := ?_) #[true, false, false, false, false, false] rfl rfl (by kernel_rfl) (fun _ _ _ h => h) (Or.inl ⟨by rfl, ?_⟩) hHeld ?_ ?_
          rotate_left
          · rintro w' ⟨s0, s1, s2, s3, s4, s5⟩
            go_simp
            with_reducible rfl
          rotate_left
          · simp only [Act.put, List.setIfInBounds_toArray, List.set_cons_zero, List.set_cons_succ, i64_w, i32_w]
            rfl
          refine take_ (i := 2) (N := some 22) (v := ?_) (a' := ?_) #[true, false, true, false, false, false] rfl rfl (by kernel_rfl) (fun _ _ _ h => h) (Or.inl ⟨by rfl, ?_⟩) hHeld ?_ ?_
          rotate_left
          · rintro w' ⟨s0, s1, s2, s3, s4, s5⟩
            go_simp
            with_reducible rfl
          rotate_left
          · simp only [Act.put, List.setIfInBounds_toArray, List.set_cons_zero, List.set_cons_succ, i64_w, i32_w]
            rfl
          refine one_ (i := 1) (N := some 21) #[true, true, true, false, false, false] rfl rfl (by kernel_rfl) (by decide) (fun K hK => ?_)
          refine goes_ Try.func14 (by kernel_rfl) rfl #[.agg #[.slice A0_0 l0_0.length c0_0, .slice A0_1 l0_1.length c0_1, .slice A0_2 l0_2.length c0_2]] (by rfl) rfl rfl (by (try simp only [List.map_toArray, List.map_cons, List.map_nil]); first | done | rfl | (simp only [List.length_drop, List.length_take]; rfl)) ?_
          with_reducible refine (laws_toTreeMod.calls k _ _ l0_0 _ _ l0_1 _ _ l0_2 t270 t273 t276 _ ?side1 ?side2 ?side3 ?side4 ?side5 ?side6 A19.out).mono ?_
          (case side1 => exact Cb HR0_0 HB)
          (case side2 => exact HC0_0.out)
          (case side3 => exact Cb HR0_1 HB)
          (case side4 => exact HC0_1.out)
          (case side5 => exact Cb HR0_2 HB)
          (case side6 => exact HC0_2.out)
          rintro e w178 ⟨v271, v274, v277, rfl, ho0, ho1, ho2, hb⟩
          refine ⟨_, rfl, ?_⟩
          have HO272 := Aside0.mk (Kd.R_lower ho0 (below_size (Bp HB)))
          have HO275 := Aside0.mk (Kd.R_lower ho1 (below_size (Bp HB)))
          have HO278 := Aside0.mk (Kd.R_lower ho2 (below_size (Bp HB)))
          replace BK266 := Kb BK266 hb
          replace BK267 := Kb BK267 hb
          replace HB := Bs HB hb
          (try clear hb)
          (try clear hb2)
          (try clear hk)
          (try clear hi)
          (try clear ho0)
          (try clear ho1)
          (try clear ho2)
          refine hK.out _ _ ⟨(blk_cell BK266.out 0).trans rfl, (blk_cell BK266.out 1).trans rfl, (blk_cell BK266.out 2).trans rfl, (blk_cell BK267.out 0).trans rfl, (blk_cell BK267.out 1).trans rfl, (blk_cell BK267.out 2).trans rfl⟩ (fun hHeld => ?_)
          clear hK K
          refine norm_ (a' := ?_) ?_ ?_
          rotate_left
          · show Act.put _ (some 21) _ = _
            simp only [Act.put, List.setIfInBounds_toArray, List.set_cons_zero, List.set_cons_succ, i64_w, i32_w]
            rfl
          refine one_ (i := 3) (N := some 23) #[true, true, true, true, false, false] rfl rfl (by kernel_rfl) (by decide) (fun K hK => ?_)
          refine goes_ Try.func14 (by kernel_rfl) rfl #[.agg #[.slice A1_0 l1_0.length c1_0, .slice A1_1 l1_1.length c1_1, .slice A1_2 l1_2.length c1_2]] (by rfl) rfl rfl (by (try simp only [List.map_toArray, List.map_cons, List.map_nil]); first | done | rfl | (simp only [List.length_drop, List.length_take]; rfl)) ?_
          with_reducible refine (laws_toTreeMod.calls k _ _ l1_0 _ _ l1_1 _ _ l1_2 t279 t282 t285 _ ?side1 ?side2 ?side3 ?side4 ?side5 ?side6 A20.out).mono ?_
          (case side1 => exact Cb HR1_0 HB)
          (case side2 => exact HC1_0.out)
          (case side3 => exact Cb HR1_1 HB)
          (case side4 => exact HC1_1.out)
          (case side5 => exact Cb HR1_2 HB)
          (case side6 => exact HC1_2.out)
          rintro e w179 ⟨v280, v283, v286, rfl, ho0, ho1, ho2, hb⟩
          refine ⟨_, rfl, ?_⟩
          have HO281 := Aside0.mk (Rl (Kd.R_new' ho0 (Rt HO272)) HB)
          replace HO272 := Aside0.mk (Re HO272 ho0 hb)
          have HO284 := Aside0.mk (Rl (Kd.R_new' (Kd.R_new' ho1 (Rt HO275)) (Rt HO278)) HB)
          replace HO275 := Aside0.mk (Kd.R_mono (Kd.R_told (Kd.R_told (Kd.R_old (Rp HO275) hb) (Kd.R_base ho1)) (Kd.R_base ho2)) (fun _ h_ => h_.1))
          have HO287 := Aside0.mk (Rl (Kd.R_new' ho2 (Rt HO278)) HB)
          replace HO278 := Aside0.mk (Re HO278 ho2 hb)
          replace BK266 := Kb BK266 hb
          replace BK267 := Kb BK267 hb
          replace HB := Bs HB hb
          (try clear hb)
          (try clear hb2)
          (try clear hk)
          (try clear hi)
          (try clear ho0)
          (try clear ho1)
          (try clear ho2)
          obtain ⟨Ao180, co180, eo180⟩ := Kd.R_slice HO272.out
          (first | subst eo180 | (injection eo180 with f1_ f2_ f3_; have f4_ := f1_.symm; have f5_ := f3_.symm; clear f1_ f2_ f3_; subst f4_; subst f5_))
          obtain ⟨Ao181, co181, eo181⟩ := Kd.R_slice HO275.out
          (first | subst eo181 | (injection eo181 with f1_ f2_ f3_; have f4_ := f1_.symm; have f5_ := f3_.symm; clear f1_ f2_ f3_; subst f4_; subst f5_))
          obtain ⟨Ao182, co182, eo182⟩ := Kd.R_slice HO278.out
          (first | subst eo182 | (injection eo182 with f1_ f2_ f3_; have f4_ := f1_.symm; have f5_ := f3_.symm; clear f1_ f2_ f3_; subst f4_; subst f5_))
          obtain ⟨Ao183, co183, eo183⟩ := Kd.R_slice HO281.out
          (first | subst eo183 | (injection eo183 with f1_ f2_ f3_; have f4_ := f1_.symm; have f5_ := f3_.symm; clear f1_ f2_ f3_; subst f4_; subst f5_))
          obtain ⟨Ao184, co184, eo184⟩ := Kd.R_slice HO284.out
          (first | subst eo184 | (injection eo184 with f1_ f2_ f3_; have f4_ := f1_.symm; have f5_ := f3_.symm; clear f1_ f2_ f3_; subst f4_; subst f5_))
          obtain ⟨Ao185, co185, eo185⟩ := Kd.R_slice HO287.out
          (first | subst eo185 | (injection eo185 with f1_ f2_ f3_; have f4_ := f1_.symm; have f5_ := f3_.symm; clear f1_ f2_ f3_; subst f4_; subst f5_))
          refine hK.out _ _ ⟨(blk_cell BK266.out 0).trans rfl, (blk_cell BK266.out 1).trans rfl, (blk_cell BK266.out 2).trans rfl, (blk_cell BK267.out 0).trans rfl, (blk_cell BK267.out 1).trans rfl, (blk_cell BK267.out 2).trans rfl⟩ (fun hHeld => ?_)
          clear hK K
          refine norm_ (a' := ?_) ?_ ?_
          rotate_left
          · show Act.put _ (some 23) _ = _
            simp only [Act.put, List.setIfInBounds_toArray, List.set_cons_zero, List.set_cons_succ, i64_w, i32_w]
            rfl
          refine one_ (i := 4) (N := some 24) #[true, true, true, true, true, false] rfl rfl (by kernel_rfl) (by decide) (fun K hK => ?_)
          refine goes_ Try.func13 (by kernel_rfl) rfl #[.agg #[.slice Ao180 t270.length co180, .slice Ao181 t273.length co181, .slice Ao182 t276.length co182], .agg #[.slice Ao183 t279.length co183, .slice Ao184 t282.length co184, .slice Ao185 t285.length co185]] (by rfl) rfl rfl (by (try simp only [List.map_toArray, List.map_cons, List.map_nil]); first | done | rfl | (simp only [List.length_drop, List.length_take]; rfl)) ?_
          with_reducible refine (spec_TreeSame.calls k _ _ t270 _ _ t273 _ _ t276 _ _ t279 _ _ t282 _ _ t285 t288 _ ?side1 ?side2 ?side3 ?side4 ?side5 ?side6 ?side7 ?side8 ?side9 ?side10 ?side11 ?side12 A21.out).mono ?_
          (case side1 => repeat (first | exact (Kd.R_reads' HO272.out).2.2 | (with_reducible refine Kd.C_alloc ?_ _) | (with_reducible refine Kd.C_drewN ?_ _) | (with_reducible refine Kd.C_drew ?_)))
          (case side2 => exact (Kd.R_reads' HO272.out).2.1)
          (case side3 => repeat (first | exact (Kd.R_reads' HO275.out).2.2 | (with_reducible refine Kd.C_alloc ?_ _) | (with_reducible refine Kd.C_drewN ?_ _) | (with_reducible refine Kd.C_drew ?_)))
          (case side4 => exact (Kd.R_reads' HO275.out).2.1)
          (case side5 => repeat (first | exact (Kd.R_reads' HO278.out).2.2 | (with_reducible refine Kd.C_alloc ?_ _) | (with_reducible refine Kd.C_drewN ?_ _) | (with_reducible refine Kd.C_drew ?_)))
          (case side6 => exact (Kd.R_reads' HO278.out).2.1)
          (case side7 => repeat (first | exact (Kd.R_reads' HO281.out).2.2 | (with_reducible refine Kd.C_alloc ?_ _) | (with_reducible refine Kd.C_drewN ?_ _) | (with_reducible refine Kd.C_drew ?_)))
          (case side8 => exact (Kd.R_reads' HO281.out).2.1)
          (case side9 => repeat (first | exact (Kd.R_reads' HO284.out).2.2 | (with_reducible refine Kd.C_alloc ?_ _) | (with_reducible refine Kd.C_drewN ?_ _) | (with_reducible refine Kd.C_drew ?_)))
          (case side10 => exact (Kd.R_reads' HO284.out).2.1)
          (case side11 => repeat (first | exact (Kd.R_reads' HO287.out).2.2 | (with_reducible refine Kd.C_alloc ?_ _) | (with_reducible refine Kd.C_drewN ?_ _) | (with_reducible refine Kd.C_drew ?_)))
          (case side12 => exact (Kd.R_reads' HO287.out).2.1)
          rintro e w186 ⟨rfl, hb⟩
          refine ⟨_, rfl, ?_⟩
          replace HO272 := Rb HO272 hb
          replace HO275 := Rb HO275 hb
          replace HO278 := Rb HO278 hb
          replace HO281 := Rb HO281 hb
          replace HO284 := Rb HO284 hb
          replace HO287 := Rb HO287 hb
          replace BK266 := Kb BK266 hb
          replace BK267 := Kb BK267 hb
          replace HB := Bs HB hb
          (try clear hb)
          (try clear hb2)
          (try clear hk)
          (try clear hi)
          refine hK.out _ _ ⟨(blk_cell BK266.out 0).trans rfl, (blk_cell BK266.out 1).trans rfl, (blk_cell BK266.out 2).trans rfl, (blk_cell BK267.out 0).trans rfl, (blk_cell BK267.out 1).trans rfl, (blk_cell BK267.out 2).trans rfl⟩ (fun hHeld => ?_)
          clear hK K
          refine norm_ (a' := ?_) ?_ ?_
          rotate_left
          · show Act.put _ (some 24) _ = _
            simp only [Act.put, List.setIfInBounds_toArray, List.set_cons_zero, List.set_cons_succ, i64_w, i32_w]
            rfl
          refine pure_ (i := 5) (N := some 6) (v := ?_) (a' := ?_) #[true, true, true, true, true, true] rfl rfl (by kernel_rfl) (fun _ _ _ h => h) (Or.inl ⟨by rfl, ?_⟩) ?_ ?_
          rotate_left
          · intro w'
            go_simp
            with_reducible rfl
          rotate_left
          · simp only [Act.put, List.setIfInBounds_toArray, List.set_cons_zero, List.set_cons_succ, i64_w, i32_w]
            rfl
          refine done_ (by kernel_rfl) ?_
          obtain ⟨hcz187_0, hcz187_1, hcz187_2⟩ := bc3 (W := w186) BK266.out
          obtain ⟨hfz187_0, hfz187_1, hfz187_2⟩ := bf3 BK266.out
          try go_wp2_with (first | ((with_reducible refine gate_callee (f := 14) rfl ?_); refine goesL_ (some 26) rfl rfl Try.func14 (by kernel_rfl) rfl #[.agg #[.slice A0_0 l0_0.length c0_0, .slice A0_1 l0_1.length c0_1, .slice A0_2 l0_2.length c0_2]] rfl (by (try simp only [List.map_toArray, List.map_cons, List.map_nil]); first | done | rfl | (simp only [List.length_drop, List.length_take]; rfl)) ?_; (with_reducible refine (laws_toTreeMod.calls k _ _ l0_0 _ _ l0_1 _ _ l0_2 t289 t292 t295 _ ?side1 ?side2 ?side3 ?side4 ?side5 ?side6 A22.out).mono ?_); (case side1 => exact Cb HR0_0 HB); (case side2 => exact HC0_0.out); (case side3 => exact Cb HR0_1 HB); (case side4 => exact HC0_1.out); (case side5 => exact Cb HR0_2 HB); (case side6 => exact HC0_2.out); rintro e w188 ⟨v290, v293, v296, rfl, ho0, ho1, ho2, hb⟩; refine ⟨_, rfl, ?_⟩; have HO291 := Aside0.mk (Rl (Kd.R_new' (Kd.R_new' ho0 (Rt HO272)) (Rt HO281)) HB); replace HO272 := Aside0.mk (Re HO272 ho0 hb); replace HO281 := Aside0.mk (Re HO281 ho0 hb); have HO294 := Aside0.mk (Kd.R_lower (Kd.R_new' (Kd.R_new' (Kd.R_new' (Kd.R_new' ho1 (Rt HO275)) (Rt HO278)) (Rt HO284)) (Rt HO287)) (below_size (Bp HB))); replace HO275 := Aside0.mk (Kd.R_mono (Kd.R_told (Kd.R_told (Kd.R_old (Rp HO275) hb) (Kd.R_base ho1)) (Kd.R_base ho2)) (fun _ h_ => h_.1)); replace HO284 := Aside0.mk (Kd.R_mono (Kd.R_told (Kd.R_told (Kd.R_old (Rp HO284) hb) (Kd.R_base ho1)) (Kd.R_base ho2)) (fun _ h_ => h_.1)); have HO297 := Aside0.mk (Rl (Kd.R_new' (Kd.R_new' ho2 (Rt HO278)) (Rt HO287)) HB); replace HO278 := Aside0.mk (Re HO278 ho2 hb); replace HO287 := Aside0.mk (Re HO287 ho2 hb); replace BK266 := Kb BK266 hb; replace BK267 := Kb BK267 hb; replace HB := Bs HB hb; (try clear hb); (try clear hb2); (try clear hk); (try clear hi); (try clear ho0); (try clear ho1); (try clear ho2)) | ((with_reducible refine gate_dst (N := 7) rfl ?_); refine box_event ?hg (N := 7) ?hd (cs := #[.slice none 0 0, .slice none 0 0, .slice none 0 0]) (t := 32) ?hr ?_; (case hd => rfl); (case hg => rfl); (case hr => first | (go_simp; done) | (go_simp; rfl)); intro gb298 hg w189 hbox hb; replace HO272 := Rb HO272 hb; replace HO275 := Rb HO275 hb; replace HO278 := Rb HO278 hb; replace HO281 := Rb HO281 hb; replace HO284 := Rb HO284 hb; replace HO287 := Rb HO287 hb; replace HO291 := Rb HO291 hb; replace HO294 := Rb HO294 hb; replace HO297 := Rb HO297 hb; have BK298 := Aside0.mk (hbox); have GW298 := Aside0.mk ((by rw [hg]; exact (below_size (Bp HB)) : w.heap.size ≤ gb298)); have GE298 := Aside0.mk ((by rw [hg]; exact (below_size (Bp HB)) : w.heap.size ≤ gb298)); replace HB := Bs HB hb; have NB266_298 := Aside0.mk ((by rw [hg]; exact Nat.ne_of_lt (blk_lt (Kp BK266)) : gb266 ≠ gb298)); have NB298_266 := Aside0.mk ((by rw [hg]; exact Nat.ne_of_gt (blk_lt (Kp BK266)) : gb298 ≠ gb266)); replace BK266 := Kb BK266 hb; have NB267_298 := Aside0.mk ((by rw [hg]; exact Nat.ne_of_lt (blk_lt (Kp BK267)) : gb267 ≠ gb298)); have NB298_267 := Aside0.mk ((by rw [hg]; exact Nat.ne_of_gt (blk_lt (Kp BK267)) : gb298 ≠ gb267)); replace BK267 := Kb BK267 hb; clear hb hbox hg; obtain ⟨Ao190, co190, eo190⟩ := Kd.R_slice HO291.out; subst eo190; have hnb191 := NB298_266.out; have hnc191 := NB266_298.out; have hnb192 := NB298_267.out; have hnc192 := NB267_298.out; obtain ⟨hcz193_0, hcz193_1, hcz193_2⟩ := bc3 (W := w189) BK298.out; obtain ⟨hfz193_0, hfz193_1, hfz193_2⟩ := bf3 BK298.out; obtain ⟨Ao194, co194, eo194⟩ := Kd.R_slice HO294.out; subst eo194; obtain ⟨Ao195, co195, eo195⟩ := Kd.R_slice HO297.out; subst eo195; obtain ⟨hcz196_0, hcz196_1, hcz196_2⟩ := bc3 (W := w189) BK267.out; obtain ⟨hfz196_0, hfz196_1, hfz196_2⟩ := bf3 BK267.out) | ((with_reducible refine gate_callee (f := 14) rfl ?_); refine goesL_ (some 28) rfl rfl Try.func14 (by kernel_rfl) rfl #[.agg #[.slice A1_0 l1_0.length c1_0, .slice A1_1 l1_1.length c1_1, .slice A1_2 l1_2.length c1_2]] rfl (by (try simp only [List.map_toArray, List.map_cons, List.map_nil]); first | done | rfl | (simp only [List.length_drop, List.length_take]; rfl)) ?_; (with_reducible refine (laws_toTreeMod.calls k _ _ l1_0 _ _ l1_1 _ _ l1_2 t299 t302 t305 _ ?side1 ?side2 ?side3 ?side4 ?side5 ?side6 A23.out).mono ?_); (case side1 => exact Kd.C_below HR1_0.out (Bp HB)); (case side2 => exact HC1_0.out); (case side3 => exact Kd.C_below HR1_1.out (Bp HB)); (case side4 => exact HC1_1.out); (case side5 => exact Kd.C_below HR1_2.out (Bp HB)); (case side6 => exact HC1_2.out); rintro e w197 ⟨v300, v303, v306, rfl, ho0, ho1, ho2, hb⟩; refine ⟨_, rfl, ?_⟩; have HO301 := Aside0.mk (Kd.R_lower (Kd.R_new' (Kd.R_new' (Kd.R_new' ho0 (Kd.R_lt (by (with_reducible repeat (first | apply Kd.R_alloc | apply Kd.R_drewN | apply Kd.R_drew)); exact (Kd.R_mono (RF (g := gb298) (Kd.R_types HO272.out BK298.out (by decide)) (fun _ hk => hk.2)) (fun _ h_ => h_.1))))) (Kd.R_lt (by (with_reducible repeat (first | apply Kd.R_alloc | apply Kd.R_drewN | apply Kd.R_drew)); exact (Kd.R_mono (RF (g := gb298) (Kd.R_types HO281.out BK298.out (by decide)) (fun _ hk => hk.2)) (fun _ h_ => h_.1))))) (Kd.R_lt (by (with_reducible repeat (first | apply Kd.R_alloc | apply Kd.R_drewN | apply Kd.R_drew)); exact (Kd.R_mono (RF (g := gb298) (Kd.R_types HO291.out BK298.out (by decide)) (fun _ hk => hk.2)) (fun _ h_ => h_.1))))) (below_size (Bp HB))); replace HO272 := Aside0.mk (Kd.R_elder' (by (with_reducible repeat (first | apply Kd.R_alloc | apply Kd.R_drewN | apply Kd.R_drew)); exact (Kd.R_mono (RF (g := gb298) (Kd.R_types HO272.out BK298.out (by decide)) (fun _ hk => hk.2)) (fun _ h_ => h_.1))) (Kd.R_base ho0) hb); replace HO281 := Aside0.mk (Kd.R_elder' (by (with_reducible repeat (first | apply Kd.R_alloc | apply Kd.R_drewN | apply Kd.R_drew)); exact (Kd.R_mono (RF (g := gb298) (Kd.R_types HO281.out BK298.out (by decide)) (fun _ hk => hk.2)) (fun _ h_ => h_.1))) (Kd.R_base ho0) hb); replace HO291 := Aside0.mk (Kd.R_elder' (by (with_reducible repeat (first | apply Kd.R_alloc | apply Kd.R_drewN | apply Kd.R_drew)); exact (Kd.R_mono (RF (g := gb298) (Kd.R_types HO291.out BK298.out (by decide)) (fun _ hk => hk.2)) (fun _ h_ => h_.1))) (Kd.R_base ho0) hb); have HO304 := Aside0.mk (Kd.R_lower (Kd.R_new' (Kd.R_new' (Kd.R_new' (Kd.R_new' (Kd.R_new' (Kd.R_new' ho1 (Kd.R_lt (by (with_reducible repeat (first | apply Kd.R_alloc | apply Kd.R_drewN | apply Kd.R_drew)); exact (Kd.R_mono (RF (g := gb298) (Kd.R_types HO275.out BK298.out (by decide)) (fun _ hk => hk.2)) (fun _ h_ => h_.1))))) (Kd.R_lt (by (with_reducible repeat (first | apply Kd.R_alloc | apply Kd.R_drewN | apply Kd.R_drew)); exact (Kd.R_mono (RF (g := gb298) (Kd.R_types HO278.out BK298.out (by decide)) (fun _ hk => hk.2)) (fun _ h_ => h_.1))))) (Kd.R_lt (by (with_reducible repeat (first | apply Kd.R_alloc | apply Kd.R_drewN | apply Kd.R_drew)); exact (Kd.R_mono (RF (g := gb298) (Kd.R_types HO284.out BK298.out (by decide)) (fun _ hk => hk.2)) (fun _ h_ => h_.1))))) (Kd.R_lt (by (with_reducible repeat (first | apply Kd.R_alloc | apply Kd.R_drewN | apply Kd.R_drew)); exact (Kd.R_mono (RF (g := gb298) (Kd.R_types HO287.out BK298.out (by decide)) (fun _ hk => hk.2)) (fun _ h_ => h_.1))))) (Kd.R_lt (by (with_reducible repeat (first | apply Kd.R_alloc | apply Kd.R_drewN | apply Kd.R_drew)); exact (Kd.R_mono (RF (g := gb298) (Kd.R_types HO294.out BK298.out (by decide)) (fun _ hk => hk.2)) (fun _ h_ => h_.1))))) (Kd.R_lt (by (with_reducible repeat (first | apply Kd.R_alloc | apply Kd.R_drewN | apply Kd.R_drew)); exact (Kd.R_mono (RF (g := gb298) (Kd.R_types HO297.out BK298.out (by decide)) (fun _ hk => hk.2)) (fun _ h_ => h_.1))))) (below_size (Bp HB))); replace HO275 := Aside0.mk (Kd.R_mono (Kd.R_told (Kd.R_told (Kd.R_old (by (with_reducible repeat (first | apply Kd.R_alloc | apply Kd.R_drewN | apply Kd.R_drew)); exact (Kd.R_mono (RF (g := gb298) (Kd.R_types HO275.out BK298.out (by decide)) (fun _ hk => hk.2)) (fun _ h_ => h_.1))) hb) (Kd.R_base ho1)) (Kd.R_base ho2)) (fun _ h_ => h_.1)); replace HO284 := Aside0.mk (Kd.R_mono (Kd.R_told (Kd.R_told (Kd.R_old (by (with_reducible repeat (first | apply Kd.R_alloc | apply Kd.R_drewN | apply Kd.R_drew)); exact (Kd.R_mono (RF (g := gb298) (Kd.R_types HO284.out BK298.out (by decide)) (fun _ hk => hk.2)) (fun _ h_ => h_.1))) hb) (Kd.R_base ho1)) (Kd.R_base ho2)) (fun _ h_ => h_.1)); replace HO294 := Aside0.mk (Kd.R_mono (Kd.R_told (Kd.R_told (Kd.R_old (by (with_reducible repeat (first | apply Kd.R_alloc | apply Kd.R_drewN | apply Kd.R_drew)); exact (Kd.R_mono (RF (g := gb298) (Kd.R_types HO294.out BK298.out (by decide)) (fun _ hk => hk.2)) (fun _ h_ => h_.1))) hb) (Kd.R_base ho1)) (Kd.R_base ho2)) (fun _ h_ => h_.1)); have HO307 := Aside0.mk (Kd.R_lower (Kd.R_new' (Kd.R_new' (Kd.R_new' ho2 (Kd.R_lt (by (with_reducible repeat (first | apply Kd.R_alloc | apply Kd.R_drewN | apply Kd.R_drew)); exact (Kd.R_mono (RF (g := gb298) (Kd.R_types HO278.out BK298.out (by decide)) (fun _ hk => hk.2)) (fun _ h_ => h_.1))))) (Kd.R_lt (by (with_reducible repeat (first | apply Kd.R_alloc | apply Kd.R_drewN | apply Kd.R_drew)); exact (Kd.R_mono (RF (g := gb298) (Kd.R_types HO287.out BK298.out (by decide)) (fun _ hk => hk.2)) (fun _ h_ => h_.1))))) (Kd.R_lt (by (with_reducible repeat (first | apply Kd.R_alloc | apply Kd.R_drewN | apply Kd.R_drew)); exact (Kd.R_mono (RF (g := gb298) (Kd.R_types HO297.out BK298.out (by decide)) (fun _ hk => hk.2)) (fun _ h_ => h_.1))))) (below_size (Bp HB))); replace HO278 := Aside0.mk (Kd.R_elder' (by (with_reducible repeat (first | apply Kd.R_alloc | apply Kd.R_drewN | apply Kd.R_drew)); exact (Kd.R_mono (RF (g := gb298) (Kd.R_types HO278.out BK298.out (by decide)) (fun _ hk => hk.2)) (fun _ h_ => h_.1))) (Kd.R_base ho2) hb); replace HO287 := Aside0.mk (Kd.R_elder' (by (with_reducible repeat (first | apply Kd.R_alloc | apply Kd.R_drewN | apply Kd.R_drew)); exact (Kd.R_mono (RF (g := gb298) (Kd.R_types HO287.out BK298.out (by decide)) (fun _ hk => hk.2)) (fun _ h_ => h_.1))) (Kd.R_base ho2) hb); replace HO297 := Aside0.mk (Kd.R_elder' (by (with_reducible repeat (first | apply Kd.R_alloc | apply Kd.R_drewN | apply Kd.R_drew)); exact (Kd.R_mono (RF (g := gb298) (Kd.R_types HO297.out BK298.out (by decide)) (fun _ hk => hk.2)) (fun _ h_ => h_.1))) (Kd.R_base ho2) hb); replace BK266 := Aside0.mk (blk_below (Kf BK266) hb); replace BK267 := Aside0.mk (blk_below (Kf BK267) hb); replace BK298 := Aside0.mk (blk_below (g := gb298) (o := .cells #[.slice Ao190 t289.length co190, .slice Ao194 t292.length co194, .slice Ao195 t295.length co195] 32 (0, 0)) (by (with_reducible repeat (first | refine blk_drewN ?_ _ | refine blk_drew ?_ | refine blk_alloc ?_ _)); refine blk_put (cs := #[.slice Ao190 t289.length co190, .slice Ao194 t292.length co194, .slice none 0 0]) ?_ 2 _ rfl; (with_reducible repeat (first | refine blk_drewN ?_ _ | refine blk_drew ?_ | refine blk_alloc ?_ _)); refine blk_put (cs := #[.slice Ao190 t289.length co190, .slice none 0 0, .slice none 0 0]) ?_ 1 _ rfl; (with_reducible repeat (first | refine blk_drewN ?_ _ | refine blk_drew ?_ | refine blk_alloc ?_ _)); refine blk_put (cs := #[.slice none 0 0, .slice none 0 0, .slice none 0 0]) ?_ 0 _ rfl; (with_reducible repeat (first | refine blk_drewN ?_ _ | refine blk_drew ?_ | refine blk_alloc ?_ _)); exact BK298.out) hb); replace HB := Bs HB hb; (try clear hb); (try clear hb2); (try clear hk); (try clear hi); (try clear ho0); (try clear ho1); (try clear ho2)) | ((with_reducible refine gate_dst (N := 8) rfl ?_); refine box_event ?hg (N := 8) ?hd (cs := #[.slice none 0 0, .slice none 0 0, .slice none 0 0]) (t := 32) ?hr ?_; (case hd => rfl); (case hg => rfl); (case hr => first | (go_simp; done) | (go_simp; rfl)); intro gb308 hg w198 hbox hb; replace HO272 := Rb HO272 hb; replace HO275 := Rb HO275 hb; replace HO278 := Rb HO278 hb; replace HO281 := Rb HO281 hb; replace HO284 := Rb HO284 hb; replace HO287 := Rb HO287 hb; replace HO291 := Rb HO291 hb; replace HO294 := Rb HO294 hb; replace HO297 := Rb HO297 hb; replace HO301 := Rb HO301 hb; replace HO304 := Rb HO304 hb; replace HO307 := Rb HO307 hb; have BK308 := Aside0.mk (hbox); have GW308 := Aside0.mk ((by rw [hg]; exact (below_size (Bp HB)) : w.heap.size ≤ gb308)); have GE308 := Aside0.mk ((by rw [hg]; exact (below_size (Bp HB)) : w.heap.size ≤ gb308)); replace HB := Bs HB hb; have NB266_308 := Aside0.mk ((by rw [hg]; exact Nat.ne_of_lt (blk_lt (Kp BK266)) : gb266 ≠ gb308)); have NB308_266 := Aside0.mk ((by rw [hg]; exact Nat.ne_of_gt (blk_lt (Kp BK266)) : gb308 ≠ gb266)); replace BK266 := Kb BK266 hb; have NB267_308 := Aside0.mk ((by rw [hg]; exact Nat.ne_of_lt (blk_lt (Kp BK267)) : gb267 ≠ gb308)); have NB308_267 := Aside0.mk ((by rw [hg]; exact Nat.ne_of_gt (blk_lt (Kp BK267)) : gb308 ≠ gb267)); replace BK267 := Kb BK267 hb; have NB298_308 := Aside0.mk ((by rw [hg]; exact Nat.ne_of_lt (blk_lt (Kp BK298)) : gb298 ≠ gb308)); have NB308_298 := Aside0.mk ((by rw [hg]; exact Nat.ne_of_gt (blk_lt (Kp BK298)) : gb308 ≠ gb298)); replace BK298 := Kb BK298 hb; clear hb hbox hg; obtain ⟨Ao199, co199, eo199⟩ := Kd.R_slice HO301.out; subst eo199; have hnb200 := NB308_266.out; have hnc200 := NB266_308.out; have hnb201 := NB308_267.out; have hnc201 := NB267_308.out; have hnb202 := NB308_298.out; have hnc202 := NB298_308.out; obtain ⟨hcz203_0, hcz203_1, hcz203_2⟩ := bc3 (W := w198) BK308.out; obtain ⟨hfz203_0, hfz203_1, hfz203_2⟩ := bf3 BK308.out; obtain ⟨Ao204, co204, eo204⟩ := Kd.R_slice HO304.out; subst eo204; obtain ⟨Ao205, co205, eo205⟩ := Kd.R_slice HO307.out; subst eo205; obtain ⟨hcz206_0, hcz206_1, hcz206_2⟩ := bc3 (W := w198) BK298.out; obtain ⟨hfz206_0, hfz206_1, hfz206_2⟩ := bf3 BK298.out) | ((with_reducible refine gate_callee (f := 15) rfl ?_); refine goesL_ (some 31) rfl rfl Try.func15 (by kernel_rfl) rfl #[.agg #[.slice Ao190 t289.length co190, .slice Ao194 t292.length co194, .slice Ao195 t295.length co195], .agg #[.slice Ao199 t299.length co199, .slice Ao204 t302.length co204, .slice Ao205 t305.length co205]] rfl (by (try simp only [List.map_toArray, List.map_cons, List.map_nil]); first | done | rfl | (simp only [List.length_drop, List.length_take]; rfl)) ?_; (with_reducible refine (impl_TreeSame.calls k _ _ t289 _ _ t292 _ _ t295 _ _ t299 _ _ t302 _ _ t305 t309 _ ?side1 ?side2 ?side3 ?side4 ?side5 ?side6 ?side7 ?side8 ?side9 ?side10 ?side11 ?side12 A24.out).mono ?_); (case side1 => refine (Kd.R_reads' (e := 9) (base := w.heap.size) (ok := fun k_ => (((True ∧ some k_ ≠ (.slice Ao180 t270.length co180 : Value).ownBlock) ∧ some k_ ≠ (.slice Ao183 t279.length co183 : Value).ownBlock) ∧ some k_ ≠ (.slice Ao199 t299.length co199 : Value).ownBlock)) (n := t289.length) (c := co190) ?_).2.2; exact (by (with_reducible repeat (first | apply Kd.R_alloc | apply Kd.R_drewN | apply Kd.R_drew)); exact (Kd.R_mono (RF (g := gb308) (Kd.R_types HO291.out BK308.out (by decide)) (fun _ hk => hk.2)) (fun _ h_ => h_.1)))); (case side2 => exact (Kd.R_reads' HO291.out).2.1); (case side3 => refine (Kd.R_reads' (e := 45) (base := w.heap.size) (ok := fun k_ => ((((((some k_ ≠ (.slice Ao195 t295.length co195 : Value).ownBlock ∧ some k_ ≠ (.slice Ao181 t273.length co181 : Value).ownBlock) ∧ some k_ ≠ (.slice Ao182 t276.length co182 : Value).ownBlock) ∧ some k_ ≠ (.slice Ao184 t282.length co184 : Value).ownBlock) ∧ some k_ ≠ (.slice Ao185 t285.length co185 : Value).ownBlock) ∧ some k_ ≠ (.slice Ao204 t302.length co204 : Value).ownBlock) ∧ some k_ ≠ (.slice Ao205 t305.length co205 : Value).ownBlock)) (n := t292.length) (c := co194) ?_).2.2; exact (by (with_reducible repeat (first | apply Kd.R_alloc | apply Kd.R_drewN | apply Kd.R_drew)); exact (Kd.R_mono (RF (g := gb308) (Kd.R_types HO294.out BK308.out (by decide)) (fun _ hk => hk.2)) (fun _ h_ => h_.1)))); (case side4 => exact (Kd.R_reads' HO294.out).2.1); (case side5 => refine (Kd.R_reads' (e := 43) (base := w.heap.size) (ok := fun k_ => (((True ∧ some k_ ≠ (.slice Ao182 t276.length co182 : Value).ownBlock) ∧ some k_ ≠ (.slice Ao185 t285.length co185 : Value).ownBlock) ∧ some k_ ≠ (.slice Ao205 t305.length co205 : Value).ownBlock)) (n := t295.length) (c := co195) ?_).2.2; exact (by (with_reducible repeat (first | apply Kd.R_alloc | apply Kd.R_drewN | apply Kd.R_drew)); exact (Kd.R_mono (RF (g := gb308) (Kd.R_types HO297.out BK308.out (by decide)) (fun _ hk => hk.2)) (fun _ h_ => h_.1)))); (case side6 => exact (Kd.R_reads' HO297.out).2.1); (case side7 => refine (Kd.R_reads' (e := 9) (base := w.heap.size) (ok := fun k_ => (((True ∧ some k_ ≠ (.slice Ao180 t270.length co180 : Value).ownBlock) ∧ some k_ ≠ (.slice Ao183 t279.length co183 : Value).ownBlock) ∧ some k_ ≠ (.slice Ao190 t289.length co190 : Value).ownBlock)) (n := t299.length) (c := co199) ?_).2.2; exact (by (with_reducible repeat (first | apply Kd.R_alloc | apply Kd.R_drewN | apply Kd.R_drew)); exact (Kd.R_mono (RF (g := gb308) (Kd.R_types HO301.out BK308.out (by decide)) (fun _ hk => hk.2)) (fun _ h_ => h_.1)))); (case side8 => exact (Kd.R_reads' HO301.out).2.1); (case side9 => refine (Kd.R_reads' (e := 45) (base := w.heap.size) (ok := fun k_ => ((((((some k_ ≠ (.slice Ao205 t305.length co205 : Value).ownBlock ∧ some k_ ≠ (.slice Ao181 t273.length co181 : Value).ownBlock) ∧ some k_ ≠ (.slice Ao182 t276.length co182 : Value).ownBlock) ∧ some k_ ≠ (.slice Ao184 t282.length co184 : Value).ownBlock) ∧ some k_ ≠ (.slice Ao185 t285.length co185 : Value).ownBlock) ∧ some k_ ≠ (.slice Ao194 t292.length co194 : Value).ownBlock) ∧ some k_ ≠ (.slice Ao195 t295.length co195 : Value).ownBlock)) (n := t302.length) (c := co204) ?_).2.2; exact (by (with_reducible repeat (first | apply Kd.R_alloc | apply Kd.R_drewN | apply Kd.R_drew)); exact (Kd.R_mono (RF (g := gb308) (Kd.R_types HO304.out BK308.out (by decide)) (fun _ hk => hk.2)) (fun _ h_ => h_.1)))); (case side10 => exact (Kd.R_reads' HO304.out).2.1); (case side11 => refine (Kd.R_reads' (e := 43) (base := w.heap.size) (ok := fun k_ => (((True ∧ some k_ ≠ (.slice Ao182 t276.length co182 : Value).ownBlock) ∧ some k_ ≠ (.slice Ao185 t285.length co185 : Value).ownBlock) ∧ some k_ ≠ (.slice Ao195 t295.length co195 : Value).ownBlock)) (n := t305.length) (c := co205) ?_).2.2; exact (by (with_reducible repeat (first | apply Kd.R_alloc | apply Kd.R_drewN | apply Kd.R_drew)); exact (Kd.R_mono (RF (g := gb308) (Kd.R_types HO307.out BK308.out (by decide)) (fun _ hk => hk.2)) (fun _ h_ => h_.1)))); (case side12 => exact (Kd.R_reads' HO307.out).2.1); rintro e w207 ⟨rfl, hb⟩; refine ⟨_, rfl, ?_⟩; replace HO272 := Aside0.mk (Kd.R_below (by (with_reducible repeat (first | apply Kd.R_alloc | apply Kd.R_drewN | apply Kd.R_drew)); exact (Kd.R_mono (RF (g := gb308) (Kd.R_types HO272.out BK308.out (by decide)) (fun _ hk => hk.2)) (fun _ h_ => h_.1))) hb); replace HO275 := Aside0.mk (Kd.R_below (by (with_reducible repeat (first | apply Kd.R_alloc | apply Kd.R_drewN | apply Kd.R_drew)); exact (Kd.R_mono (RF (g := gb308) (Kd.R_types HO275.out BK308.out (by decide)) (fun _ hk => hk.2)) (fun _ h_ => h_.1))) hb); replace HO278 := Aside0.mk (Kd.R_below (by (with_reducible repeat (first | apply Kd.R_alloc | apply Kd.R_drewN | apply Kd.R_drew)); exact (Kd.R_mono (RF (g := gb308) (Kd.R_types HO278.out BK308.out (by decide)) (fun _ hk => hk.2)) (fun _ h_ => h_.1))) hb); replace HO281 := Aside0.mk (Kd.R_below (by (with_reducible repeat (first | apply Kd.R_alloc | apply Kd.R_drewN | apply Kd.R_drew)); exact (Kd.R_mono (RF (g := gb308) (Kd.R_types HO281.out BK308.out (by decide)) (fun _ hk => hk.2)) (fun _ h_ => h_.1))) hb); replace HO284 := Aside0.mk (Kd.R_below (by (with_reducible repeat (first | apply Kd.R_alloc | apply Kd.R_drewN | apply Kd.R_drew)); exact (Kd.R_mono (RF (g := gb308) (Kd.R_types HO284.out BK308.out (by decide)) (fun _ hk => hk.2)) (fun _ h_ => h_.1))) hb); replace HO287 := Aside0.mk (Kd.R_below (by (with_reducible repeat (first | apply Kd.R_alloc | apply Kd.R_drewN | apply Kd.R_drew)); exact (Kd.R_mono (RF (g := gb308) (Kd.R_types HO287.out BK308.out (by decide)) (fun _ hk => hk.2)) (fun _ h_ => h_.1))) hb); replace HO291 := Aside0.mk (Kd.R_below (by (with_reducible repeat (first | apply Kd.R_alloc | apply Kd.R_drewN | apply Kd.R_drew)); exact (Kd.R_mono (RF (g := gb308) (Kd.R_types HO291.out BK308.out (by decide)) (fun _ hk => hk.2)) (fun _ h_ => h_.1))) hb); replace HO294 := Aside0.mk (Kd.R_below (by (with_reducible repeat (first | apply Kd.R_alloc | apply Kd.R_drewN | apply Kd.R_drew)); exact (Kd.R_mono (RF (g := gb308) (Kd.R_types HO294.out BK308.out (by decide)) (fun _ hk => hk.2)) (fun _ h_ => h_.1))) hb); replace HO297 := Aside0.mk (Kd.R_below (by (with_reducible repeat (first | apply Kd.R_alloc | apply Kd.R_drewN | apply Kd.R_drew)); exact (Kd.R_mono (RF (g := gb308) (Kd.R_types HO297.out BK308.out (by decide)) (fun _ hk => hk.2)) (fun _ h_ => h_.1))) hb); replace HO301 := Aside0.mk (Kd.R_below (by (with_reducible repeat (first | apply Kd.R_alloc | apply Kd.R_drewN | apply Kd.R_drew)); exact (Kd.R_mono (RF (g := gb308) (Kd.R_types HO301.out BK308.out (by decide)) (fun _ hk => hk.2)) (fun _ h_ => h_.1))) hb); replace HO304 := Aside0.mk (Kd.R_below (by (with_reducible repeat (first | apply Kd.R_alloc | apply Kd.R_drewN | apply Kd.R_drew)); exact (Kd.R_mono (RF (g := gb308) (Kd.R_types HO304.out BK308.out (by decide)) (fun _ hk => hk.2)) (fun _ h_ => h_.1))) hb); replace HO307 := Aside0.mk (Kd.R_below (by (with_reducible repeat (first | apply Kd.R_alloc | apply Kd.R_drewN | apply Kd.R_drew)); exact (Kd.R_mono (RF (g := gb308) (Kd.R_types HO307.out BK308.out (by decide)) (fun _ hk => hk.2)) (fun _ h_ => h_.1))) hb); replace BK266 := Aside0.mk (blk_below (Kf BK266) hb); replace BK267 := Aside0.mk (blk_below (Kf BK267) hb); replace BK298 := Aside0.mk (blk_below (Kf BK298) hb); replace BK308 := Aside0.mk (blk_below (g := gb308) (o := .cells #[.slice Ao199 t299.length co199, .slice Ao204 t302.length co204, .slice Ao205 t305.length co205] 32 (0, 0)) (by (with_reducible repeat (first | refine blk_drewN ?_ _ | refine blk_drew ?_ | refine blk_alloc ?_ _)); refine blk_put (cs := #[.slice Ao199 t299.length co199, .slice Ao204 t302.length co204, .slice none 0 0]) ?_ 2 _ rfl; (with_reducible repeat (first | refine blk_drewN ?_ _ | refine blk_drew ?_ | refine blk_alloc ?_ _)); refine blk_put (cs := #[.slice Ao199 t299.length co199, .slice none 0 0, .slice none 0 0]) ?_ 1 _ rfl; (with_reducible repeat (first | refine blk_drewN ?_ _ | refine blk_drew ?_ | refine blk_alloc ?_ _)); refine blk_put (cs := #[.slice none 0 0, .slice none 0 0, .slice none 0 0]) ?_ 0 _ rfl; (with_reducible repeat (first | refine blk_drewN ?_ _ | refine blk_drew ?_ | refine blk_alloc ?_ _)); exact BK308.out) hb); replace HB := Bs HB hb; (try clear hb); (try clear hb2); (try clear hk); (try clear hi)))
          replace HO272 := Aside0.mk (Kd.R_drew HO272.out)
          replace HO275 := Aside0.mk (Kd.R_drew HO275.out)
          replace HO278 := Aside0.mk (Kd.R_drew HO278.out)
          replace HO281 := Aside0.mk (Kd.R_drew HO281.out)
          replace HO284 := Aside0.mk (Kd.R_drew HO284.out)
          replace HO287 := Aside0.mk (Kd.R_drew HO287.out)
          replace HO291 := Aside0.mk (Kd.R_drew HO291.out)
          replace HO294 := Aside0.mk (Kd.R_drew HO294.out)
          replace HO297 := Aside0.mk (Kd.R_drew HO297.out)
          replace HO301 := Aside0.mk (Kd.R_drew HO301.out)
          replace HO304 := Aside0.mk (Kd.R_drew HO304.out)
          replace HO307 := Aside0.mk (Kd.R_drew HO307.out)
          replace BK266 := Aside0.mk (blk_drew BK266.out)
          replace BK267 := Aside0.mk (blk_drew BK267.out)
          replace BK298 := Aside0.mk (blk_drew BK298.out)
          replace BK308 := Aside0.mk (blk_drew BK308.out)
          replace HB := Aside0.mk (below_drew1 HB.out)
          refine start_ (n := 5) (S := fun w' => w'.cell? ⟨gb298, 0, none⟩ = some (.slice Ao190 t289.length co190) ∧ w'.cell? ⟨gb298, 1, none⟩ = some (.slice Ao194 t292.length co194) ∧ w'.cell? ⟨gb298, 2, none⟩ = some (.slice Ao195 t295.length co195) ∧ w'.cell? ⟨gb266, 0, none⟩ = some (.slice A0_0 l0_0.length c0_0) ∧ w'.cell? ⟨gb266, 1, none⟩ = some (.slice A0_1 l0_1.length c0_1) ∧ w'.cell? ⟨gb266, 2, none⟩ = some (.slice A0_2 l0_2.length c0_2)) (ds := []) #[false, false, false, false, false] (by kernel_rfl) rfl rfl ⟨(blk_cell BK298.out 0).trans rfl, (blk_cell BK298.out 1).trans rfl, (blk_cell BK298.out 2).trans rfl, (blk_cell BK266.out 0).trans rfl, (blk_cell BK266.out 1).trans rfl, (blk_cell BK266.out 2).trans rfl⟩ (fun hHeld => ?_)
          generalize w207.drew = w208 at HO272 HO275 HO278 HO281 HO284 HO287 HO291 HO294 HO297 HO301 HO304 HO307 BK266 BK267 BK298 BK308 HB hHeld ⊢
          refine take_ (i := 0) (N := some 35) (v := ?_) (a' := ?_) #[true, false, false, false, false] rfl rfl (by kernel_rfl) (fun _ _ _ h => h) (Or.inl ⟨by rfl, ?_⟩) hHeld ?_ ?_
          rotate_left
          · rintro w' ⟨s0, s1, s2, s3, s4, s5⟩
            go_simp
            with_reducible rfl
          rotate_left
          · simp only [Act.put, List.setIfInBounds_toArray, List.set_cons_zero, List.set_cons_succ, i64_w, i32_w]
            rfl
          refine take_ (i := 1) (N := some 36) (v := ?_) (a' := ?_) #[true, true, false, false, false] rfl rfl (by kernel_rfl) (fun _ _ _ h => h) (Or.inl ⟨by rfl, ?_⟩) hHeld ?_ ?_
          rotate_left
          · rintro w' ⟨s0, s1, s2, s3, s4, s5⟩
            go_simp
            with_reducible rfl
          rotate_left
          · simp only [Act.put, List.setIfInBounds_toArray, List.set_cons_zero, List.set_cons_succ, i64_w, i32_w]
            rfl
          refine one_ (i := 2) (N := some 37) #[true, true, true, false, false] rfl rfl (by kernel_rfl) (by decide) (fun K hK => ?_)
          refine goes_ Try.func14 (by kernel_rfl) rfl #[.agg #[.slice A0_0 l0_0.length c0_0, .slice A0_1 l0_1.length c0_1, .slice A0_2 l0_2.length c0_2]] (by rfl) rfl rfl (by (try simp only [List.map_toArray, List.map_cons, List.map_nil]); first | done | rfl | (simp only [List.length_drop, List.length_take]; rfl)) ?_
          with_reducible refine (laws_toTreeMod.calls k _ _ l0_0 _ _ l0_1 _ _ l0_2 t310 t313 t316 _ ?side1 ?side2 ?side3 ?side4 ?side5 ?side6 A64.out).mono ?_
          (case side1 => exact Cb HR0_0 HB)
          (case side2 => exact HC0_0.out)
          (case side3 => exact Cb HR0_1 HB)
          (case side4 => exact HC0_1.out)
          (case side5 => exact Cb HR0_2 HB)
          (case side6 => exact HC0_2.out)
          rintro e w209 ⟨v311, v314, v317, rfl, ho0, ho1, ho2, hb⟩
          refine ⟨_, rfl, ?_⟩
          have HO312 := Aside0.mk (Kd.R_lower (Kd.R_new' (Kd.R_new' (Kd.R_new' (Kd.R_new' ho0 (Rt HO272)) (Rt HO281)) (Rt HO291)) (Rt HO301)) (below_size (Bp HB)))
          replace HO272 := Aside0.mk (Re HO272 ho0 hb)
          replace HO281 := Aside0.mk (Re HO281 ho0 hb)
          replace HO291 := Aside0.mk (Re HO291 ho0 hb)
          replace HO301 := Aside0.mk (Re HO301 ho0 hb)
          have HO315 := Aside0.mk (Kd.R_lower (Kd.R_new' (Kd.R_new' (Kd.R_new' (Kd.R_new' (Kd.R_new' (Kd.R_new' (Kd.R_new' (Kd.R_new' ho1 (Rt HO275)) (Rt HO278)) (Rt HO284)) (Rt HO287)) (Rt HO294)) (Rt HO297)) (Rt HO304)) (Rt HO307)) (below_size (Bp HB)))
          replace HO275 := Aside0.mk (Kd.R_mono (Kd.R_told (Kd.R_told (Kd.R_old (Rp HO275) hb) (Kd.R_base ho1)) (Kd.R_base ho2)) (fun _ h_ => h_.1))
          replace HO284 := Aside0.mk (Kd.R_mono (Kd.R_told (Kd.R_told (Kd.R_old (Rp HO284) hb) (Kd.R_base ho1)) (Kd.R_base ho2)) (fun _ h_ => h_.1))
          replace HO294 := Aside0.mk (Kd.R_mono (Kd.R_told (Kd.R_told (Kd.R_old (Rp HO294) hb) (Kd.R_base ho1)) (Kd.R_base ho2)) (fun _ h_ => h_.1))
          replace HO304 := Aside0.mk (Kd.R_mono (Kd.R_told (Kd.R_told (Kd.R_old (Rp HO304) hb) (Kd.R_base ho1)) (Kd.R_base ho2)) (fun _ h_ => h_.1))
          have HO318 := Aside0.mk (Kd.R_lower (Kd.R_new' (Kd.R_new' (Kd.R_new' (Kd.R_new' ho2 (Rt HO278)) (Rt HO287)) (Rt HO297)) (Rt HO307)) (below_size (Bp HB)))
          replace HO278 := Aside0.mk (Re HO278 ho2 hb)
          replace HO287 := Aside0.mk (Re HO287 ho2 hb)
          replace HO297 := Aside0.mk (Re HO297 ho2 hb)
          replace HO307 := Aside0.mk (Re HO307 ho2 hb)
          replace BK266 := Kb BK266 hb
          replace BK267 := Kb BK267 hb
          replace BK298 := Kb BK298 hb
          replace BK308 := Kb BK308 hb
          replace HB := Bs HB hb
          (try clear hb)
          (try clear hb2)
          (try clear hk)
          (try clear hi)
          (try clear ho0)
          (try clear ho1)
          (try clear ho2)
          obtain ⟨Ao210, co210, eo210⟩ := Kd.R_slice HO312.out
          (first | subst eo210 | (injection eo210 with f1_ f2_ f3_; have f4_ := f1_.symm; have f5_ := f3_.symm; clear f1_ f2_ f3_; subst f4_; subst f5_))
          obtain ⟨Ao211, co211, eo211⟩ := Kd.R_slice HO315.out
          (first | subst eo211 | (injection eo211 with f1_ f2_ f3_; have f4_ := f1_.symm; have f5_ := f3_.symm; clear f1_ f2_ f3_; subst f4_; subst f5_))
          obtain ⟨Ao212, co212, eo212⟩ := Kd.R_slice HO318.out
          (first | subst eo212 | (injection eo212 with f1_ f2_ f3_; have f4_ := f1_.symm; have f5_ := f3_.symm; clear f1_ f2_ f3_; subst f4_; subst f5_))
          refine hK.out _ _ ⟨(blk_cell BK298.out 0).trans rfl, (blk_cell BK298.out 1).trans rfl, (blk_cell BK298.out 2).trans rfl, (blk_cell BK266.out 0).trans rfl, (blk_cell BK266.out 1).trans rfl, (blk_cell BK266.out 2).trans rfl⟩ (fun hHeld => ?_)
          clear hK K
          refine norm_ (a' := ?_) ?_ ?_
          rotate_left
          · show Act.put _ (some 37) _ = _
            simp only [Act.put, List.setIfInBounds_toArray, List.set_cons_zero, List.set_cons_succ, i64_w, i32_w]
            rfl
          refine one_ (i := 3) (N := some 38) #[true, true, true, true, false] rfl rfl (by kernel_rfl) (by decide) (fun K hK => ?_)
          refine goes_ Try.func16 (by kernel_rfl) rfl #[.agg #[.slice Ao190 t289.length co190, .slice Ao194 t292.length co194, .slice Ao195 t295.length co195], .agg #[.slice Ao210 t310.length co210, .slice Ao211 t313.length co211, .slice Ao212 t316.length co212]] (by rfl) rfl rfl (by (try simp only [List.map_toArray, List.map_cons, List.map_nil]); first | done | rfl | (simp only [List.length_drop, List.length_take]; rfl)) ?_
          with_reducible refine (laws_eqTreeMod.calls k _ _ t289 _ _ t292 _ _ t295 _ _ t310 _ _ t313 _ _ t316 false _ ?side1 ?side2 ?side3 ?side4 ?side5 ?side6 ?side7 ?side8 ?side9 ?side10 ?side11 ?side12 A65.out).mono ?_
          (case side1 => repeat (first | exact (Kd.R_reads' HO291.out).2.2 | (with_reducible refine Kd.C_alloc ?_ _) | (with_reducible refine Kd.C_drewN ?_ _) | (with_reducible refine Kd.C_drew ?_)))
          (case side2 => exact (Kd.R_reads' HO291.out).2.1)
          (case side3 => repeat (first | exact (Kd.R_reads' HO294.out).2.2 | (with_reducible refine Kd.C_alloc ?_ _) | (with_reducible refine Kd.C_drewN ?_ _) | (with_reducible refine Kd.C_drew ?_)))
          (case side4 => exact (Kd.R_reads' HO294.out).2.1)
          (case side5 => repeat (first | exact (Kd.R_reads' HO297.out).2.2 | (with_reducible refine Kd.C_alloc ?_ _) | (with_reducible refine Kd.C_drewN ?_ _) | (with_reducible refine Kd.C_drew ?_)))
          (case side6 => exact (Kd.R_reads' HO297.out).2.1)
          (case side7 => repeat (first | exact (Kd.R_reads' HO312.out).2.2 | (with_reducible refine Kd.C_alloc ?_ _) | (with_reducible refine Kd.C_drewN ?_ _) | (with_reducible refine Kd.C_drew ?_)))
          (case side8 => exact (Kd.R_reads' HO312.out).2.1)
          (case side9 => repeat (first | exact (Kd.R_reads' HO315.out).2.2 | (with_reducible refine Kd.C_alloc ?_ _) | (with_reducible refine Kd.C_drewN ?_ _) | (with_reducible refine Kd.C_drew ?_)))
          (case side10 => exact (Kd.R_reads' HO315.out).2.1)
          (case side11 => repeat (first | exact (Kd.R_reads' HO318.out).2.2 | (with_reducible refine Kd.C_alloc ?_ _) | (with_reducible refine Kd.C_drewN ?_ _) | (with_reducible refine Kd.C_drew ?_)))
          (case side12 => exact (Kd.R_reads' HO318.out).2.1)
          rintro e w213 ⟨rfl, hb⟩
          refine ⟨_, rfl, ?_⟩
          replace HO272 := Rb HO272 hb
          replace HO275 := Rb HO275 hb
          replace HO278 := Rb HO278 hb
          replace HO281 := Rb HO281 hb
          replace HO284 := Rb HO284 hb
          replace HO287 := Rb HO287 hb
          replace HO291 := Rb HO291 hb
          replace HO294 := Rb HO294 hb
          replace HO297 := Rb HO297 hb
          replace HO301 := Rb HO301 hb
          replace HO304 := Rb HO304 hb
          replace HO307 := Rb HO307 hb
          replace HO312 := Rb HO312 hb
          replace HO315 := Rb HO315 hb
          replace HO318 := Rb HO318 hb
          replace BK266 := Kb BK266 hb
          replace BK267 := Kb BK267 hb
          replace BK298 := Kb BK298 hb
          replace BK308 := Kb BK308 hb
          replace HB := Bs HB hb
          (try clear hb)
          (try clear hb2)
          (try clear hk)
          (try clear hi)
          refine hK.out _ _ ⟨(blk_cell BK298.out 0).trans rfl, (blk_cell BK298.out 1).trans rfl, (blk_cell BK298.out 2).trans rfl, (blk_cell BK266.out 0).trans rfl, (blk_cell BK266.out 1).trans rfl, (blk_cell BK266.out 2).trans rfl⟩ (fun hHeld => ?_)
          clear hK K
          refine norm_ (a' := ?_) ?_ ?_
          rotate_left
          · show Act.put _ (some 38) _ = _
            simp only [Act.put, List.setIfInBounds_toArray, List.set_cons_zero, List.set_cons_succ, i64_w, i32_w]
            rfl
          refine pure_ (i := 4) (N := some 39) (v := ?_) (a' := ?_) #[true, true, true, true, true] rfl rfl (by kernel_rfl) (fun _ _ _ h => h) (Or.inl ⟨by rfl, ?_⟩) ?_ ?_
          rotate_left
          · intro w'
            go_simp
            with_reducible rfl
          rotate_left
          · simp only [Act.put, List.setIfInBounds_toArray, List.set_cons_zero, List.set_cons_succ, i64_w, i32_w]
            rfl
          refine done_ (by kernel_rfl) ?_
          try go_wp2
          go_ret
          exact ⟨by first | rfl | (simp [errW_none, errW_some] <;> rfl) | (simp [*, errW_none, errW_some] <;> rfl), Bp HB⟩

end Go.Proofs.Ythcinellhbmcoaa.Q
