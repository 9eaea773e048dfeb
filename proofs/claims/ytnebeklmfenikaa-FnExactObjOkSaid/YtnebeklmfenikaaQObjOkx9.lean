-- written by xprint.py, a program of this session, out of the translation: Lean checks it
import Derived.Test.YtnebeklmfenikaaQObjOkx0
import Derived.Test.YtnebeklmfenikaaQObjOkx1
import Derived.Test.YtnebeklmfenikaaQObjOkx2
import Derived.Test.YtnebeklmfenikaaQObjOkx4
import Derived.Test.YtnebeklmfenikaaQObjOkx6
import Derived.Test.YtnebeklmfenikaaQObjOkx8
namespace Go.Proofs.Ytnebeklmfenikaa.Q
open Go.RowKit Go.Proofs.YtnebeklmfenikaaW.PrintWords Go.Proofs.YtnebeklmfenikaaW.PrintLast Go.Proofs.YtnebeklmfenikaaW.PrintMore
attribute [local go_sem] max2_int min2_int max_two min_two max_three min_three max_four min_four   -- for this text's walks alone
set_option linter.unusedVariables false
set_option linter.unusedSimpArgs false

/-! ### laws_FnExactObjOk: function 4 -/
def laws_FnExactObjOk.f (k : Nat) (l0_0 : List (S123)) (l0_1 : List (S127)) : Option (Bool) := (laws_szCodeObj.f k l0_0 l0_1 1048576).bind fun t265 => (if t265 < 0 then (some true) else ((laws_toCodeObj.f k l0_0 l0_1).bind fun bt266 => ((spec_ObjOk.f k bt266.1 bt266.2).bind fun t272 => ((laws_toCodeObj.f k l0_0 l0_1).bind fun bt273 => ((impl_ObjOk.f k bt273.1 bt273.2).bind fun t280 => (if (t280 != t272) = true then (some false) else ((laws_toCodeObj.f k l0_0 l0_1).bind fun bt281 => ((laws_eqCodeObj.f k bt273.1 bt273.2 bt281.1 bt281.2).bind fun t287 => (if t287 = true then (some true) else (some false))))))))))
theorem laws_FnExactObjOk.mono : ∀ a0 a1 k, LeO (laws_FnExactObjOk.f k a0 a1) (laws_FnExactObjOk.f (k + 1) a0 a1) := by
  intro a0 a1 k
  unfold laws_FnExactObjOk.f
  repeat' first
      | (with_reducible exact impl_ObjOk.mono _ _ _)
      | (with_reducible exact laws_eqCodeObj.mono _ _ _ _ _)
      | (with_reducible exact laws_szCodeObj.mono _ _ _ _)
      | (with_reducible exact laws_toCodeObj.mono _ _ _)
      | (with_reducible exact spec_ObjOk.mono _ _ _)
      | (with_reducible exact LeO.refl _)
      | (with_reducible exact LeO.none _)
      | (with_reducible refine LeO.ite ?_ ?_)
      | (with_reducible refine LeO.bind ?_ (fun _ => ?_))
      | exact impl_ObjOk.mono _ _ _
      | exact laws_eqCodeObj.mono _ _ _ _ _
      | exact laws_szCodeObj.mono _ _ _ _
      | exact laws_toCodeObj.mono _ _ _
      | exact spec_ObjOk.mono _ _ _
      | exact LeO.none _
      | refine LeO.ite ?_ ?_
      | refine LeO.bind ?_ (fun _ => ?_)
set_option maxHeartbeats 8000000 in
set_option maxRecDepth 100000 in
theorem laws_FnExactObjOk.calls (k : Nat) (A0_0 : Option Addr) (c0_0 : Nat) (l0_0 : List (S123)) (A0_1 : Option Addr) (c0_1 : Nat) (l0_1 : List (S127)) (r : Bool) (w : World) (hr0_0 : Kd.C k123 w A0_0 l0_0.length l0_0) (hc0_0 : l0_0.length ≤ c0_0) (hr0_1 : Kd.C k127 w A0_1 l0_1.length l0_1) (hc0_1 : l0_1.length ≤ c0_1) (h : laws_FnExactObjOk.f k l0_0 l0_1 = some r) :
    Calls Try.prog 4 #[.agg #[.slice A0_0 l0_0.length c0_0, .slice A0_1 l0_1.length c0_1]] w fun e w' => e = .returned (.bool r) ∧ Below w.heap.size w w' := by
  have hu25 := Try.underlying25
  have hu31 := Try.underlying31
  have HR0_0 := Aside0.mk hr0_0
  have HC0_0 := Aside0.mk hc0_0
  clear hr0_0 hc0_0
  have HR0_1 := Aside0.mk hr0_1
  have HC0_1 := Aside0.mk hc0_1
  clear hr0_1 hc0_1
  have HB := Aside0.mk (Below.refl w.heap.size w)
  have H : ((laws_szCodeObj.f k l0_0 l0_1 1048576).bind fun t265 => (if t265 < 0 then (some true) else ((laws_toCodeObj.f k l0_0 l0_1).bind fun bt266 => ((spec_ObjOk.f k bt266.1 bt266.2).bind fun t272 => ((laws_toCodeObj.f k l0_0 l0_1).bind fun bt273 => ((impl_ObjOk.f k bt273.1 bt273.2).bind fun t280 => (if (t280 != t272) = true then (some false) else ((laws_toCodeObj.f k l0_0 l0_1).bind fun bt281 => ((laws_eqCodeObj.f k bt273.1 bt273.2 bt281.1 bt281.2).bind fun t287 => (if t287 = true then (some true) else (some false))))))))))) = some r := h
  clear h
  replace H := Option.bind_eq_some_iff.mp H
  obtain ⟨t265, A20, H⟩ := H
  replace H : (if t265 < 0 then (some true) else ((laws_toCodeObj.f k l0_0 l0_1).bind fun bt266 => ((spec_ObjOk.f k bt266.1 bt266.2).bind fun t272 => ((laws_toCodeObj.f k l0_0 l0_1).bind fun bt273 => ((impl_ObjOk.f k bt273.1 bt273.2).bind fun t280 => (if (t280 != t272) = true then (some false) else ((laws_toCodeObj.f k l0_0 l0_1).bind fun bt281 => ((laws_eqCodeObj.f k bt273.1 bt273.2 bt281.1 bt281.2).bind fun t287 => (if t287 = true then (some true) else (some false)))))))))) = some r := H
  have A2 := Aside0.mk A20
  clear A20
  by_cases c3 : t265 < 0
  · rw [if_pos c3] at H
    have c3b0 : decide (t265 < 0) = true := decide_eq_true c3
    clear c3
    obtain rfl := Option.some.inj H
    go_enter Try.func4, Try.ntmps4
    go_wp2_with (first | ((with_reducible refine gate_dst (N := 1) rfl ?_); refine box_event ?hg (N := 1) ?hd (cs := #[.slice A0_0 l0_0.length c0_0, .slice A0_1 l0_1.length c0_1]) (t := 25) ?hr ?_; (case hd => rfl); (case hg => rfl); (case hr => first | (go_simp; done) | (go_simp; rfl)); intro gb264 hg w4 hbox hb; have BK264 := Aside0.mk (hbox); have GW264 := Aside0.mk ((by rw [hg]; exact (below_size (Bp HB)) : w.heap.size ≤ gb264)); have GE264 := Aside0.mk ((by rw [hg]; exact (below_size (Bp HB)) : w.heap.size ≤ gb264)); replace HB := Bs HB hb; clear hb hbox hg; obtain ⟨hcz5_0, hcz5_1⟩ := bc2 (W := w4) BK264.out; obtain ⟨hfz5_0, hfz5_1⟩ := bf2 BK264.out) | ((with_reducible refine gate_callee (f := 9) rfl ?_); refine goesL_ (some 9) rfl rfl Try.func9 (by kernel_rfl) rfl #[.agg #[.slice A0_0 l0_0.length c0_0, .slice A0_1 l0_1.length c0_1], .int .i64 1048576] rfl (by (try simp only [List.map_toArray, List.map_cons, List.map_nil]); first | done | rfl | (simp only [List.length_drop, List.length_take]; rfl)) ?_; (with_reducible refine (laws_szCodeObj.calls k _ _ l0_0 _ _ l0_1 1048576 t265 _ ?side1 ?side2 ?side3 ?side4 A2.out).mono ?_); (case side1 => exact Cb HR0_0 HB); (case side2 => exact HC0_0.out); (case side3 => exact Cb HR0_1 HB); (case side4 => exact HC0_1.out); rintro e w6 ⟨rfl, hb⟩; refine ⟨_, rfl, ?_⟩; replace BK264 := Kb BK264 hb; replace HB := Bs HB hb; (try clear hb); (try clear hb2); (try clear hk); (try clear hi)))
    go_ret
    exact ⟨by first | rfl | (simp [errW_none, errW_some] <;> rfl) | (simp [*, errW_none, errW_some] <;> rfl), Bp HB⟩
  · rw [if_neg c3] at H
    have c3b0 : decide (t265 < 0) = false := decide_eq_false c3
    clear c3
    replace H := Option.bind_eq_some_iff.mp H
    obtain ⟨⟨t266, t269⟩, A70, H⟩ := H
    replace H : ((spec_ObjOk.f k t266 t269).bind fun t272 => ((laws_toCodeObj.f k l0_0 l0_1).bind fun bt273 => ((impl_ObjOk.f k bt273.1 bt273.2).bind fun t280 => (if (t280 != t272) = true then (some false) else ((laws_toCodeObj.f k l0_0 l0_1).bind fun bt281 => ((laws_eqCodeObj.f k bt273.1 bt273.2 bt281.1 bt281.2).bind fun t287 => (if t287 = true then (some true) else (some false)))))))) = some r := H
    have A7 := Aside0.mk A70
    clear A70
    replace H := Option.bind_eq_some_iff.mp H
    obtain ⟨t272, A80, H⟩ := H
    replace H : ((laws_toCodeObj.f k l0_0 l0_1).bind fun bt273 => ((impl_ObjOk.f k bt273.1 bt273.2).bind fun t280 => (if (t280 != t272) = true then (some false) else ((laws_toCodeObj.f k l0_0 l0_1).bind fun bt281 => ((laws_eqCodeObj.f k bt273.1 bt273.2 bt281.1 bt281.2).bind fun t287 => (if t287 = true then (some true) else (some false))))))) = some r := H
    have A8 := Aside0.mk A80
    clear A80
    replace H := Option.bind_eq_some_iff.mp H
    obtain ⟨⟨t273, t276⟩, A90, H⟩ := H
    replace H : ((impl_ObjOk.f k t273 t276).bind fun t280 => (if (t280 != t272) = true then (some false) else ((laws_toCodeObj.f k l0_0 l0_1).bind fun bt281 => ((laws_eqCodeObj.f k t273 t276 bt281.1 bt281.2).bind fun t287 => (if t287 = true then (some true) else (some false)))))) = some r := H
    have A9 := Aside0.mk A90
    clear A90
    replace H := Option.bind_eq_some_iff.mp H
    obtain ⟨t280, A100, H⟩ := H
    replace H : (if (t280 != t272) = true then (some false) else ((laws_toCodeObj.f k l0_0 l0_1).bind fun bt281 => ((laws_eqCodeObj.f k t273 t276 bt281.1 bt281.2).bind fun t287 => (if t287 = true then (some true) else (some false))))) = some r := H
    have A10 := Aside0.mk A100
    clear A100
    by_cases c11 : (t280 != t272) = true
    · rw [if_pos c11] at H
      have c11b0 : (t280 != t272) = true := c11
      (try (have c11b1 : decide (t280 = t272) = false := by simpa using c11))
      (try (have c11b2 : (t280 == t272) = false := by simpa using c11))
      (try (have c11b3 : ¬ (t280 = t272) := by simpa using c11))
      clear c11
      obtain rfl := Option.some.inj H
      go_enter Try.func4, Try.ntmps4
      go_wp2_with (first | ((with_reducible refine gate_dst (N := 1) rfl ?_); refine box_event ?hg (N := 1) ?hd (cs := #[.slice A0_0 l0_0.length c0_0, .slice A0_1 l0_1.length c0_1]) (t := 25) ?hr ?_; (case hd => rfl); (case hg => rfl); (case hr => first | (go_simp; done) | (go_simp; rfl)); intro gb264 hg w12 hbox hb; have BK264 := Aside0.mk (hbox); have GW264 := Aside0.mk ((by rw [hg]; exact (below_size (Bp HB)) : w.heap.size ≤ gb264)); have GE264 := Aside0.mk ((by rw [hg]; exact (below_size (Bp HB)) : w.heap.size ≤ gb264)); replace HB := Bs HB hb; clear hb hbox hg; obtain ⟨hcz13_0, hcz13_1⟩ := bc2 (W := w12) BK264.out; obtain ⟨hfz13_0, hfz13_1⟩ := bf2 BK264.out) | ((with_reducible refine gate_callee (f := 9) rfl ?_); refine goesL_ (some 9) rfl rfl Try.func9 (by kernel_rfl) rfl #[.agg #[.slice A0_0 l0_0.length c0_0, .slice A0_1 l0_1.length c0_1], .int .i64 1048576] rfl (by (try simp only [List.map_toArray, List.map_cons, List.map_nil]); first | done | rfl | (simp only [List.length_drop, List.length_take]; rfl)) ?_; (with_reducible refine (laws_szCodeObj.calls k _ _ l0_0 _ _ l0_1 1048576 t265 _ ?side1 ?side2 ?side3 ?side4 A2.out).mono ?_); (case side1 => exact Cb HR0_0 HB); (case side2 => exact HC0_0.out); (case side3 => exact Cb HR0_1 HB); (case side4 => exact HC0_1.out); rintro e w14 ⟨rfl, hb⟩; refine ⟨_, rfl, ?_⟩; replace BK264 := Kb BK264 hb; replace HB := Bs HB hb; (try clear hb); (try clear hb2); (try clear hk); (try clear hi); obtain ⟨hcz15_0, hcz15_1⟩ := bc2 (W := w14) BK264.out; obtain ⟨hfz15_0, hfz15_1⟩ := bf2 BK264.out) | ((with_reducible refine gate_callee (f := 11) rfl ?_); refine goesL_ (some 13) rfl rfl Try.func11 (by kernel_rfl) rfl #[.agg #[.slice A0_0 l0_0.length c0_0, .slice A0_1 l0_1.length c0_1]] rfl (by (try simp only [List.map_toArray, List.map_cons, List.map_nil]); first | done | rfl | (simp only [List.length_drop, List.length_take]; rfl)) ?_; (with_reducible refine (laws_toCodeObj.calls k _ _ l0_0 _ _ l0_1 t266 t269 _ ?side1 ?side2 ?side3 ?side4 A7.out).mono ?_); (case side1 => exact Cb HR0_0 HB); (case side2 => exact HC0_0.out); (case side3 => exact Cb HR0_1 HB); (case side4 => exact HC0_1.out); rintro e w16 ⟨v267, v270, rfl, ho0, ho1, hb⟩; refine ⟨_, rfl, ?_⟩; have HO268 := Aside0.mk (Kd.R_lower ho0 (below_size (Bp HB))); have HO271 := Aside0.mk (Kd.S_lower ho1 (below_size (Bp HB))); replace BK264 := Kb BK264 hb; replace HB := Bs HB hb; (try clear hb); (try clear hb2); (try clear hk); (try clear hi); (try clear ho0); (try clear ho1); obtain ⟨Ao17, co17, eo17⟩ := Kd.R_slice HO268.out; subst eo17; obtain ⟨Ao18, co18, eo18⟩ := Kd.S_slice HO271.out; subst eo18) | ((with_reducible refine gate_callee (f := 14) rfl ?_); refine goesL_ (some 14) rfl rfl Try.func14 (by kernel_rfl) rfl #[.agg #[.slice Ao17 t266.length co17, .slice Ao18 t269.length co18]] rfl (by (try simp only [List.map_toArray, List.map_cons, List.map_nil]); first | done | rfl | (simp only [List.length_drop, List.length_take]; rfl)) ?_; (with_reducible refine (spec_ObjOk.calls k _ _ t266 _ _ t269 t272 _ ?side1 ?side2 ?side3 ?side4 A8.out).mono ?_); (case side1 => repeat (first | exact (Kd.R_reads' HO268.out).2.2 | (with_reducible refine Kd.C_alloc ?_ _) | (with_reducible refine Kd.C_drewN ?_ _) | (with_reducible refine Kd.C_drew ?_))); (case side2 => exact (Kd.R_reads' HO268.out).2.1); (case side3 => repeat (first | exact (Kd.S_reads' HO271.out).2.2 | (with_reducible refine Kd.C_alloc ?_ _) | (with_reducible refine Kd.C_drewN ?_ _) | (with_reducible refine Kd.C_drew ?_))); (case side4 => exact (Kd.S_reads' HO271.out).2.1); rintro e w19 ⟨rfl, hb⟩; refine ⟨_, rfl, ?_⟩; replace HO268 := Rb HO268 hb; replace HO271 := Aside0.mk (Kd.S_below (Sp HO271) hb); replace BK264 := Kb BK264 hb; replace HB := Bs HB hb; (try clear hb); (try clear hb2); (try clear hk); (try clear hi); obtain ⟨hcz20_0, hcz20_1⟩ := bc2 (W := w19) BK264.out; obtain ⟨hfz20_0, hfz20_1⟩ := bf2 BK264.out) | ((with_reducible refine gate_callee (f := 11) rfl ?_); refine goesL_ (some 16) rfl rfl Try.func11 (by kernel_rfl) rfl #[.agg #[.slice A0_0 l0_0.length c0_0, .slice A0_1 l0_1.length c0_1]] rfl (by (try simp only [List.map_toArray, List.map_cons, List.map_nil]); first | done | rfl | (simp only [List.length_drop, List.length_take]; rfl)) ?_; (with_reducible refine (laws_toCodeObj.calls k _ _ l0_0 _ _ l0_1 t273 t276 _ ?side1 ?side2 ?side3 ?side4 A9.out).mono ?_); (case side1 => exact Cb HR0_0 HB); (case side2 => exact HC0_0.out); (case side3 => exact Cb HR0_1 HB); (case side4 => exact HC0_1.out); rintro e w21 ⟨v274, v277, rfl, ho0, ho1, hb⟩; refine ⟨_, rfl, ?_⟩; have HO275 := Aside0.mk (Rl (Kd.R_new' ho0 (Rt HO268)) HB); replace HO268 := Aside0.mk (Re HO268 ho0 hb); have HO278 := Aside0.mk (Kd.S_lower (Kd.S_new' ho1 (Kd.S_lt (Sp HO271))) (below_size (Bp HB))); replace HO271 := Aside0.mk (Kd.S_elder' (Sp HO271) (Kd.S_base ho1) hb); replace BK264 := Kb BK264 hb; replace HB := Bs HB hb; (try clear hb); (try clear hb2); (try clear hk); (try clear hi); (try clear ho0); (try clear ho1)) | ((with_reducible refine gate_dst (N := 5) rfl ?_); refine box_event ?hg (N := 5) ?hd (cs := #[.slice none 0 0, .slice none 0 0]) (t := 31) ?hr ?_; (case hd => rfl); (case hg => rfl); (case hr => first | (go_simp; done) | (go_simp; rfl)); intro gb279 hg w22 hbox hb; replace HO268 := Rb HO268 hb; replace HO271 := Aside0.mk (Kd.S_below (Sp HO271) hb); replace HO275 := Rb HO275 hb; replace HO278 := Aside0.mk (Kd.S_below (Sp HO278) hb); have BK279 := Aside0.mk (hbox); have GW279 := Aside0.mk ((by rw [hg]; exact (below_size (Bp HB)) : w.heap.size ≤ gb279)); have GE279 := Aside0.mk ((by rw [hg]; exact (below_size (Bp HB)) : w.heap.size ≤ gb279)); replace HB := Bs HB hb; have NB264_279 := Aside0.mk ((by rw [hg]; exact Nat.ne_of_lt (blk_lt (Kp BK264)) : gb264 ≠ gb279)); have NB279_264 := Aside0.mk ((by rw [hg]; exact Nat.ne_of_gt (blk_lt (Kp BK264)) : gb279 ≠ gb264)); replace BK264 := Kb BK264 hb; clear hb hbox hg; obtain ⟨Ao23, co23, eo23⟩ := Kd.R_slice HO275.out; subst eo23; have hnb24 := NB279_264.out; have hnc24 := NB264_279.out; obtain ⟨hcz25_0, hcz25_1⟩ := bc2 (W := w22) BK279.out; obtain ⟨hfz25_0, hfz25_1⟩ := bf2 BK279.out; obtain ⟨Ao26, co26, eo26⟩ := Kd.S_slice HO278.out; subst eo26) | ((with_reducible refine gate_callee (f := 15) rfl ?_); refine goesL_ (some 18) rfl rfl Try.func15 (by kernel_rfl) rfl #[.agg #[.slice Ao23 t273.length co23, .slice Ao26 t276.length co26]] rfl (by (try simp only [List.map_toArray, List.map_cons, List.map_nil]); first | done | rfl | (simp only [List.length_drop, List.length_take]; rfl)) ?_; (with_reducible refine (impl_ObjOk.calls k _ _ t273 _ _ t276 t280 _ ?side1 ?side2 ?side3 ?side4 A10.out).mono ?_); (case side1 => refine (Kd.R_reads' (e := 70) (base := w.heap.size) (ok := fun k_ => (True ∧ some k_ ≠ (.slice Ao17 t266.length co17 : Value).ownBlock)) (n := t273.length) (c := co23) ?_).2.2; exact (by (with_reducible repeat (first | apply Kd.R_alloc | apply Kd.R_drewN | apply Kd.R_drew)); exact (Kd.R_mono (RF (g := gb279) (Kd.R_types HO275.out BK279.out (by decide)) (fun _ hk => hk.2)) (fun _ h_ => h_.1)))); (case side2 => exact (Kd.R_reads' HO275.out).2.1); (case side3 => refine (Kd.S_reads' (e := 74) (base := w.heap.size) (ok := fun k_ => (True ∧ some k_ ≠ (.slice Ao18 t269.length co18 : Value).ownBlock)) (n := t276.length) (c := co26) ?_).2.2; exact (by (with_reducible repeat (first | apply Kd.S_alloc | apply Kd.S_drewN | apply Kd.S_drew)); exact (Kd.S_mono (SF (g := gb279) (Kd.S_types HO278.out BK279.out (by decide)) (fun _ hk => hk.2)) (fun _ h_ => h_.1)))); (case side4 => exact (Kd.S_reads' HO278.out).2.1); rintro e w27 ⟨rfl, hb⟩; refine ⟨_, rfl, ?_⟩; replace HO268 := Aside0.mk (Kd.R_below (by (with_reducible repeat (first | apply Kd.R_alloc | apply Kd.R_drewN | apply Kd.R_drew)); exact (Kd.R_mono (RF (g := gb279) (Kd.R_types HO268.out BK279.out (by decide)) (fun _ hk => hk.2)) (fun _ h_ => h_.1))) hb); replace HO271 := Aside0.mk (Kd.S_below (by (with_reducible repeat (first | apply Kd.S_alloc | apply Kd.S_drewN | apply Kd.S_drew)); exact (Kd.S_mono (SF (g := gb279) (Kd.S_types HO271.out BK279.out (by decide)) (fun _ hk => hk.2)) (fun _ h_ => h_.1))) hb); replace HO275 := Aside0.mk (Kd.R_below (by (with_reducible repeat (first | apply Kd.R_alloc | apply Kd.R_drewN | apply Kd.R_drew)); exact (Kd.R_mono (RF (g := gb279) (Kd.R_types HO275.out BK279.out (by decide)) (fun _ hk => hk.2)) (fun _ h_ => h_.1))) hb); replace HO278 := Aside0.mk (Kd.S_below (by (with_reducible repeat (first | apply Kd.S_alloc | apply Kd.S_drewN | apply Kd.S_drew)); exact (Kd.S_mono (SF (g := gb279) (Kd.S_types HO278.out BK279.out (by decide)) (fun _ hk => hk.2)) (fun _ h_ => h_.1))) hb); replace BK264 := Aside0.mk (blk_below (Kf BK264) hb); replace BK279 := Aside0.mk (blk_below (g := gb279) (o := .cells #[.slice Ao23 t273.length co23, .slice Ao26 t276.length co26] 31 (0, 0)) (by (with_reducible repeat (first | refine blk_drewN ?_ _ | refine blk_drew ?_ | refine blk_alloc ?_ _)); refine blk_put (cs := #[.slice Ao23 t273.length co23, .slice none 0 0]) ?_ 1 _ rfl; (with_reducible repeat (first | refine blk_drewN ?_ _ | refine blk_drew ?_ | refine blk_alloc ?_ _)); refine blk_put (cs := #[.slice none 0 0, .slice none 0 0]) ?_ 0 _ rfl; (with_reducible repeat (first | refine blk_drewN ?_ _ | refine blk_drew ?_ | refine blk_alloc ?_ _)); exact BK279.out) hb); replace HB := Bs HB hb; (try clear hb); (try clear hb2); (try clear hk); (try clear hi)))
      go_ret
      exact ⟨by first | rfl | (simp [errW_none, errW_some] <;> rfl) | (simp [*, errW_none, errW_some] <;> rfl), Bp HB⟩
    · rw [if_neg c11] at H
      have c11b0 : (t280 != t272) = false := by simpa using c11
      (try (have c11b1 : decide (t280 = t272) = true := by simpa using c11))
      (try (have c11b2 : (t280 == t272) = true := by simpa using c11))
      clear c11
      replace H := Option.bind_eq_some_iff.mp H
      obtain ⟨⟨t281, t284⟩, A280, H⟩ := H
      replace H : ((laws_eqCodeObj.f k t273 t276 t281 t284).bind fun t287 => (if t287 = true then (some true) else (some false))) = some r := H
      have A28 := Aside0.mk A280
      clear A280
      replace H := Option.bind_eq_some_iff.mp H
      obtain ⟨t287, A290, H⟩ := H
      replace H : (if t287 = true then (some true) else (some false)) = some r := H
      have A29 := Aside0.mk A290
      clear A290
      by_cases c30 : t287 = true
      · subst c30
        have H1 : (some true) = some r := by rw [if_pos rfl] at H; exact H
        clear H
        have H := H1
        clear H1
        obtain rfl := Option.some.inj H
        go_enter Try.func4, Try.ntmps4
        try go_wp2_with (first | ((with_reducible refine gate_dst (N := 1) rfl ?_); refine box_event ?hg (N := 1) ?hd (cs := #[.slice A0_0 l0_0.length c0_0, .slice A0_1 l0_1.length c0_1]) (t := 25) ?hr ?_; (case hd => rfl); (case hg => rfl); (case hr => first | (go_simp; done) | (go_simp; rfl)); intro gb264 hg w31 hbox hb; have BK264 := Aside0.mk (hbox); have GW264 := Aside0.mk ((by rw [hg]; exact (below_size (Bp HB)) : w.heap.size ≤ gb264)); have GE264 := Aside0.mk ((by rw [hg]; exact (below_size (Bp HB)) : w.heap.size ≤ gb264)); replace HB := Bs HB hb; clear hb hbox hg; obtain ⟨hcz32_0, hcz32_1⟩ := bc2 (W := w31) BK264.out; obtain ⟨hfz32_0, hfz32_1⟩ := bf2 BK264.out) | ((with_reducible refine gate_callee (f := 9) rfl ?_); refine goesL_ (some 9) rfl rfl Try.func9 (by kernel_rfl) rfl #[.agg #[.slice A0_0 l0_0.length c0_0, .slice A0_1 l0_1.length c0_1], .int .i64 1048576] rfl (by (try simp only [List.map_toArray, List.map_cons, List.map_nil]); first | done | rfl | (simp only [List.length_drop, List.length_take]; rfl)) ?_; (with_reducible refine (laws_szCodeObj.calls k _ _ l0_0 _ _ l0_1 1048576 t265 _ ?side1 ?side2 ?side3 ?side4 A2.out).mono ?_); (case side1 => exact Cb HR0_0 HB); (case side2 => exact HC0_0.out); (case side3 => exact Cb HR0_1 HB); (case side4 => exact HC0_1.out); rintro e w33 ⟨rfl, hb⟩; refine ⟨_, rfl, ?_⟩; replace BK264 := Kb BK264 hb; replace HB := Bs HB hb; (try clear hb); (try clear hb2); (try clear hk); (try clear hi); obtain ⟨hcz34_0, hcz34_1⟩ := bc2 (W := w33) BK264.out; obtain ⟨hfz34_0, hfz34_1⟩ := bf2 BK264.out) | ((with_reducible refine gate_callee (f := 11) rfl ?_); refine goesL_ (some 13) rfl rfl Try.func11 (by kernel_rfl) rfl #[.agg #[.slice A0_0 l0_0.length c0_0, .slice A0_1 l0_1.length c0_1]] rfl (by (try simp only [List.map_toArray, List.map_cons, List.map_nil]); first | done | rfl | (simp only [List.length_drop, List.length_take]; rfl)) ?_; (with_reducible refine (laws_toCodeObj.calls k _ _ l0_0 _ _ l0_1 t266 t269 _ ?side1 ?side2 ?side3 ?side4 A7.out).mono ?_); (case side1 => exact Cb HR0_0 HB); (case side2 => exact HC0_0.out); (case side3 => exact Cb HR0_1 HB); (case side4 => exact HC0_1.out); rintro e w35 ⟨v267, v270, rfl, ho0, ho1, hb⟩; refine ⟨_, rfl, ?_⟩; have HO268 := Aside0.mk (Kd.R_lower ho0 (below_size (Bp HB))); have HO271 := Aside0.mk (Kd.S_lower ho1 (below_size (Bp HB))); replace BK264 := Kb BK264 hb; replace HB := Bs HB hb; (try clear hb); (try clear hb2); (try clear hk); (try clear hi); (try clear ho0); (try clear ho1); obtain ⟨Ao36, co36, eo36⟩ := Kd.R_slice HO268.out; subst eo36; obtain ⟨Ao37, co37, eo37⟩ := Kd.S_slice HO271.out; subst eo37) | ((with_reducible refine gate_callee (f := 14) rfl ?_); refine goesL_ (some 14) rfl rfl Try.func14 (by kernel_rfl) rfl #[.agg #[.slice Ao36 t266.length co36, .slice Ao37 t269.length co37]] rfl (by (try simp only [List.map_toArray, List.map_cons, List.map_nil]); first | done | rfl | (simp only [List.length_drop, List.length_take]; rfl)) ?_; (with_reducible refine (spec_ObjOk.calls k _ _ t266 _ _ t269 t272 _ ?side1 ?side2 ?side3 ?side4 A8.out).mono ?_); (case side1 => repeat (first | exact (Kd.R_reads' HO268.out).2.2 | (with_reducible refine Kd.C_alloc ?_ _) | (with_reducible refine Kd.C_drewN ?_ _) | (with_reducible refine Kd.C_drew ?_))); (case side2 => exact (Kd.R_reads' HO268.out).2.1); (case side3 => repeat (first | exact (Kd.S_reads' HO271.out).2.2 | (with_reducible refine Kd.C_alloc ?_ _) | (with_reducible refine Kd.C_drewN ?_ _) | (with_reducible refine Kd.C_drew ?_))); (case side4 => exact (Kd.S_reads' HO271.out).2.1); rintro e w38 ⟨rfl, hb⟩; refine ⟨_, rfl, ?_⟩; replace HO268 := Rb HO268 hb; replace HO271 := Aside0.mk (Kd.S_below (Sp HO271) hb); replace BK264 := Kb BK264 hb; replace HB := Bs HB hb; (try clear hb); (try clear hb2); (try clear hk); (try clear hi); obtain ⟨hcz39_0, hcz39_1⟩ := bc2 (W := w38) BK264.out; obtain ⟨hfz39_0, hfz39_1⟩ := bf2 BK264.out) | ((with_reducible refine gate_callee (f := 11) rfl ?_); refine goesL_ (some 16) rfl rfl Try.func11 (by kernel_rfl) rfl #[.agg #[.slice A0_0 l0_0.length c0_0, .slice A0_1 l0_1.length c0_1]] rfl (by (try simp only [List.map_toArray, List.map_cons, List.map_nil]); first | done | rfl | (simp only [List.length_drop, List.length_take]; rfl)) ?_; (with_reducible refine (laws_toCodeObj.calls k _ _ l0_0 _ _ l0_1 t273 t276 _ ?side1 ?side2 ?side3 ?side4 A9.out).mono ?_); (case side1 => exact Cb HR0_0 HB); (case side2 => exact HC0_0.out); (case side3 => exact Cb HR0_1 HB); (case side4 => exact HC0_1.out); rintro e w40 ⟨v274, v277, rfl, ho0, ho1, hb⟩; refine ⟨_, rfl, ?_⟩; have HO275 := Aside0.mk (Rl (Kd.R_new' ho0 (Rt HO268)) HB); replace HO268 := Aside0.mk (Re HO268 ho0 hb); have HO278 := Aside0.mk (Kd.S_lower (Kd.S_new' ho1 (Kd.S_lt (Sp HO271))) (below_size (Bp HB))); replace HO271 := Aside0.mk (Kd.S_elder' (Sp HO271) (Kd.S_base ho1) hb); replace BK264 := Kb BK264 hb; replace HB := Bs HB hb; (try clear hb); (try clear hb2); (try clear hk); (try clear hi); (try clear ho0); (try clear ho1)) | ((with_reducible refine gate_dst (N := 5) rfl ?_); refine box_event ?hg (N := 5) ?hd (cs := #[.slice none 0 0, .slice none 0 0]) (t := 31) ?hr ?_; (case hd => rfl); (case hg => rfl); (case hr => first | (go_simp; done) | (go_simp; rfl)); intro gb279 hg w41 hbox hb; replace HO268 := Rb HO268 hb; replace HO271 := Aside0.mk (Kd.S_below (Sp HO271) hb); replace HO275 := Rb HO275 hb; replace HO278 := Aside0.mk (Kd.S_below (Sp HO278) hb); have BK279 := Aside0.mk (hbox); have GW279 := Aside0.mk ((by rw [hg]; exact (below_size (Bp HB)) : w.heap.size ≤ gb279)); have GE279 := Aside0.mk ((by rw [hg]; exact (below_size (Bp HB)) : w.heap.size ≤ gb279)); replace HB := Bs HB hb; have NB264_279 := Aside0.mk ((by rw [hg]; exact Nat.ne_of_lt (blk_lt (Kp BK264)) : gb264 ≠ gb279)); have NB279_264 := Aside0.mk ((by rw [hg]; exact Nat.ne_of_gt (blk_lt (Kp BK264)) : gb279 ≠ gb264)); replace BK264 := Kb BK264 hb; clear hb hbox hg; obtain ⟨Ao42, co42, eo42⟩ := Kd.R_slice HO275.out; subst eo42; have hnb43 := NB279_264.out; have hnc43 := NB264_279.out; obtain ⟨hcz44_0, hcz44_1⟩ := bc2 (W := w41) BK279.out; obtain ⟨hfz44_0, hfz44_1⟩ := bf2 BK279.out; obtain ⟨Ao45, co45, eo45⟩ := Kd.S_slice HO278.out; subst eo45) | ((with_reducible refine gate_callee (f := 15) rfl ?_); refine goesL_ (some 18) rfl rfl Try.func15 (by kernel_rfl) rfl #[.agg #[.slice Ao42 t273.length co42, .slice Ao45 t276.length co45]] rfl (by (try simp only [List.map_toArray, List.map_cons, List.map_nil]); first | done | rfl | (simp only [List.length_drop, List.length_take]; rfl)) ?_; (with_reducible refine (impl_ObjOk.calls k _ _ t273 _ _ t276 t280 _ ?side1 ?side2 ?side3 ?side4 A10.out).mono ?_); (case side1 => refine (Kd.R_reads' (e := 70) (base := w.heap.size) (ok := fun k_ => (True ∧ some k_ ≠ (.slice Ao36 t266.length co36 : Value).ownBlock)) (n := t273.length) (c := co42) ?_).2.2; exact (by (with_reducible repeat (first | apply Kd.R_alloc | apply Kd.R_drewN | apply Kd.R_drew)); exact (Kd.R_mono (RF (g := gb279) (Kd.R_types HO275.out BK279.out (by decide)) (fun _ hk => hk.2)) (fun _ h_ => h_.1)))); (case side2 => exact (Kd.R_reads' HO275.out).2.1); (case side3 => refine (Kd.S_reads' (e := 74) (base := w.heap.size) (ok := fun k_ => (True ∧ some k_ ≠ (.slice Ao37 t269.length co37 : Value).ownBlock)) (n := t276.length) (c := co45) ?_).2.2; exact (by (with_reducible repeat (first | apply Kd.S_alloc | apply Kd.S_drewN | apply Kd.S_drew)); exact (Kd.S_mono (SF (g := gb279) (Kd.S_types HO278.out BK279.out (by decide)) (fun _ hk => hk.2)) (fun _ h_ => h_.1)))); (case side4 => exact (Kd.S_reads' HO278.out).2.1); rintro e w46 ⟨rfl, hb⟩; refine ⟨_, rfl, ?_⟩; replace HO268 := Aside0.mk (Kd.R_below (by (with_reducible repeat (first | apply Kd.R_alloc | apply Kd.R_drewN | apply Kd.R_drew)); exact (Kd.R_mono (RF (g := gb279) (Kd.R_types HO268.out BK279.out (by decide)) (fun _ hk => hk.2)) (fun _ h_ => h_.1))) hb); replace HO271 := Aside0.mk (Kd.S_below (by (with_reducible repeat (first | apply Kd.S_alloc | apply Kd.S_drewN | apply Kd.S_drew)); exact (Kd.S_mono (SF (g := gb279) (Kd.S_types HO271.out BK279.out (by decide)) (fun _ hk => hk.2)) (fun _ h_ => h_.1))) hb); replace HO275 := Aside0.mk (Kd.R_below (by (with_reducible repeat (first | apply Kd.R_alloc | apply Kd.R_drewN | apply Kd.R_drew)); exact (Kd.R_mono (RF (g := gb279) (Kd.R_types HO275.out BK279.out (by decide)) (fun _ hk => hk.2)) (fun _ h_ => h_.1))) hb); replace HO278 := Aside0.mk (Kd.S_below (by (with_reducible repeat (first | apply Kd.S_alloc | apply Kd.S_drewN | apply Kd.S_drew)); exact (Kd.S_mono (SF (g := gb279) (Kd.S_types HO278.out BK279.out (by decide)) (fun _ hk => hk.2)) (fun _ h_ => h_.1))) hb); replace BK264 := Aside0.mk (blk_below (Kf BK264) hb); replace BK279 := Aside0.mk (blk_below (g := gb279) (o := .cells #[.slice Ao42 t273.length co42, .slice Ao45 t276.length co45] 31 (0, 0)) (by (with_reducible repeat (first | refine blk_drewN ?_ _ | refine blk_drew ?_ | refine blk_alloc ?_ _)); refine blk_put (cs := #[.slice Ao42 t273.length co42, .slice none 0 0]) ?_ 1 _ rfl; (with_reducible repeat (first | refine blk_drewN ?_ _ | refine blk_drew ?_ | refine blk_alloc ?_ _)); refine blk_put (cs := #[.slice none 0 0, .slice none 0 0]) ?_ 0 _ rfl; (with_reducible repeat (first | refine blk_drewN ?_ _ | refine blk_drew ?_ | refine blk_alloc ?_ _)); exact BK279.out) hb); replace HB := Bs HB hb; (try clear hb); (try clear hb2); (try clear hk); (try clear hi)))
        replace HO268 := Aside0.mk (Kd.R_drew HO268.out)
        replace HO271 := Aside0.mk (Kd.S_drew HO271.out)
        replace HO275 := Aside0.mk (Kd.R_drew HO275.out)
        replace HO278 := Aside0.mk (Kd.S_drew HO278.out)
        replace BK264 := Aside0.mk (blk_drew BK264.out)
        replace BK279 := Aside0.mk (blk_drew BK279.out)
        replace HB := Aside0.mk (below_drew1 HB.out)
        refine start_ (n := 5) (S := fun w' => w'.cell? ⟨gb279, 0, none⟩ = some (.slice Ao42 t273.length co42) ∧ w'.cell? ⟨gb279, 1, none⟩ = some (.slice Ao45 t276.length co45) ∧ w'.cell? ⟨gb264, 0, none⟩ = some (.slice A0_0 l0_0.length c0_0) ∧ w'.cell? ⟨gb264, 1, none⟩ = some (.slice A0_1 l0_1.length c0_1)) (ds := []) #[false, false, false, false, false] (by kernel_rfl) rfl rfl ⟨(blk_cell BK279.out 0).trans rfl, (blk_cell BK279.out 1).trans rfl, (blk_cell BK264.out 0).trans rfl, (blk_cell BK264.out 1).trans rfl⟩ (fun hHeld => ?_)
        generalize w46.drew = w47 at HO268 HO271 HO275 HO278 BK264 BK279 HB hHeld ⊢
        refine take_ (i := 0) (N := some 22) (v := ?_) (a' := ?_) #[true, false, false, false, false] rfl rfl (by kernel_rfl) (fun _ _ _ h => h) (Or.inl ⟨by rfl, ?_⟩) hHeld ?_ ?_
        rotate_left
        · rintro w' ⟨s0, s1, s2, s3⟩
          go_simp
          with_reducible rfl
        rotate_left
        · simp only [Act.put, List.setIfInBounds_toArray, List.set_cons_zero, List.set_cons_succ, i64_w, i32_w]
          rfl
        refine take_ (i := 1) (N := some 23) (v := ?_) (a' := ?_) #[true, true, false, false, false] rfl rfl (by kernel_rfl) (fun _ _ _ h => h) (Or.inl ⟨by rfl, ?_⟩) hHeld ?_ ?_
        rotate_left
        · rintro w' ⟨s0, s1, s2, s3⟩
          go_simp
          with_reducible rfl
        rotate_left
        · simp only [Act.put, List.setIfInBounds_toArray, List.set_cons_zero, List.set_cons_succ, i64_w, i32_w]
          rfl
        refine one_ (i := 2) (N := some 24) #[true, true, true, false, false] rfl rfl (by kernel_rfl) (by decide) (fun K hK => ?_)
        refine goes_ Try.func11 (by kernel_rfl) rfl #[.agg #[.slice A0_0 l0_0.length c0_0, .slice A0_1 l0_1.length c0_1]] (by rfl) rfl rfl (by (try simp only [List.map_toArray, List.map_cons, List.map_nil]); first | done | rfl | (simp only [List.length_drop, List.length_take]; rfl)) ?_
        with_reducible refine (laws_toCodeObj.calls k _ _ l0_0 _ _ l0_1 t281 t284 _ ?side1 ?side2 ?side3 ?side4 A28.out).mono ?_
        (case side1 => exact Cb HR0_0 HB)
        (case side2 => exact HC0_0.out)
        (case side3 => exact Cb HR0_1 HB)
        (case side4 => exact HC0_1.out)
        rintro e w48 ⟨v282, v285, rfl, ho0, ho1, hb⟩
        refine ⟨_, rfl, ?_⟩
        have HO283 := Aside0.mk (Rl (Kd.R_new' (Kd.R_new' ho0 (Rt HO268)) (Rt HO275)) HB)
        replace HO268 := Aside0.mk (Re HO268 ho0 hb)
        replace HO275 := Aside0.mk (Re HO275 ho0 hb)
        have HO286 := Aside0.mk (Kd.S_lower (Kd.S_new' (Kd.S_new' ho1 (Kd.S_lt (Sp HO271))) (Kd.S_lt (Sp HO278))) (below_size (Bp HB)))
        replace HO271 := Aside0.mk (Kd.S_elder' (Sp HO271) (Kd.S_base ho1) hb)
        replace HO278 := Aside0.mk (Kd.S_elder' (Sp HO278) (Kd.S_base ho1) hb)
        replace BK264 := Kb BK264 hb
        replace BK279 := Kb BK279 hb
        replace HB := Bs HB hb
        (try clear hb)
        (try clear hb2)
        (try clear hk)
        (try clear hi)
        (try clear ho0)
        (try clear ho1)
        obtain ⟨Ao49, co49, eo49⟩ := Kd.R_slice HO283.out
        (first | subst eo49 | (injection eo49 with f1_ f2_ f3_; have f4_ := f1_.symm; have f5_ := f3_.symm; clear f1_ f2_ f3_; subst f4_; subst f5_))
        obtain ⟨Ao50, co50, eo50⟩ := Kd.S_slice HO286.out
        (first | subst eo50 | (injection eo50 with f1_ f2_ f3_; have f4_ := f1_.symm; have f5_ := f3_.symm; clear f1_ f2_ f3_; subst f4_; subst f5_))
        refine hK.out _ _ ⟨(blk_cell BK279.out 0).trans rfl, (blk_cell BK279.out 1).trans rfl, (blk_cell BK264.out 0).trans rfl, (blk_cell BK264.out 1).trans rfl⟩ (fun hHeld => ?_)
        clear hK K
        refine norm_ (a' := ?_) ?_ ?_
        rotate_left
        · show Act.put _ (some 24) _ = _
          simp only [Act.put, List.setIfInBounds_toArray, List.set_cons_zero, List.set_cons_succ, i64_w, i32_w]
          rfl
        refine one_ (i := 3) (N := some 25) #[true, true, true, true, false] rfl rfl (by kernel_rfl) (by decide) (fun K hK => ?_)
        refine goes_ Try.func13 (by kernel_rfl) rfl #[.agg #[.slice Ao42 t273.length co42, .slice Ao45 t276.length co45], .agg #[.slice Ao49 t281.length co49, .slice Ao50 t284.length co50]] (by rfl) rfl rfl (by (try simp only [List.map_toArray, List.map_cons, List.map_nil]); first | done | rfl | (simp only [List.length_drop, List.length_take]; rfl)) ?_
        with_reducible refine (laws_eqCodeObj.calls k _ _ t273 _ _ t276 _ _ t281 _ _ t284 true _ ?side1 ?side2 ?side3 ?side4 ?side5 ?side6 ?side7 ?side8 A29.out).mono ?_
        (case side1 => repeat (first | exact (Kd.R_reads' HO275.out).2.2 | (with_reducible refine Kd.C_alloc ?_ _) | (with_reducible refine Kd.C_drewN ?_ _) | (with_reducible refine Kd.C_drew ?_)))
        (case side2 => exact (Kd.R_reads' HO275.out).2.1)
        (case side3 => repeat (first | exact (Kd.S_reads' HO278.out).2.2 | (with_reducible refine Kd.C_alloc ?_ _) | (with_reducible refine Kd.C_drewN ?_ _) | (with_reducible refine Kd.C_drew ?_)))
        (case side4 => exact (Kd.S_reads' HO278.out).2.1)
        (case side5 => repeat (first | exact (Kd.R_reads' HO283.out).2.2 | (with_reducible refine Kd.C_alloc ?_ _) | (with_reducible refine Kd.C_drewN ?_ _) | (with_reducible refine Kd.C_drew ?_)))
        (case side6 => exact (Kd.R_reads' HO283.out).2.1)
        (case side7 => repeat (first | exact (Kd.S_reads' HO286.out).2.2 | (with_reducible refine Kd.C_alloc ?_ _) | (with_reducible refine Kd.C_drewN ?_ _) | (with_reducible refine Kd.C_drew ?_)))
        (case side8 => exact (Kd.S_reads' HO286.out).2.1)
        rintro e w51 ⟨rfl, hb⟩
        refine ⟨_, rfl, ?_⟩
        replace HO268 := Rb HO268 hb
        replace HO271 := Aside0.mk (Kd.S_below (Sp HO271) hb)
        replace HO275 := Rb HO275 hb
        replace HO278 := Aside0.mk (Kd.S_below (Sp HO278) hb)
        replace HO283 := Rb HO283 hb
        replace HO286 := Aside0.mk (Kd.S_below (Sp HO286) hb)
        replace BK264 := Kb BK264 hb
        replace BK279 := Kb BK279 hb
        replace HB := Bs HB hb
        (try clear hb)
        (try clear hb2)
        (try clear hk)
        (try clear hi)
        refine hK.out _ _ ⟨(blk_cell BK279.out 0).trans rfl, (blk_cell BK279.out 1).trans rfl, (blk_cell BK264.out 0).trans rfl, (blk_cell BK264.out 1).trans rfl⟩ (fun hHeld => ?_)
        clear hK K
        refine norm_ (a' := ?_) ?_ ?_
        rotate_left
        · show Act.put _ (some 25) _ = _
          simp only [Act.put, List.setIfInBounds_toArray, List.set_cons_zero, List.set_cons_succ, i64_w, i32_w]
          rfl
        refine pure_ (i := 4) (N := some 26) (v := ?_) (a' := ?_) #[true, true, true, true, true] rfl rfl (by kernel_rfl) (fun _ _ _ h => h) (Or.inl ⟨by rfl, ?_⟩) ?_ ?_
        rotate_left
        · intro w'
          go_simp
          with_reducible rfl
        rotate_left
        · simp only [Act.put, List.setIfInBounds_toArray, List.set_cons_zero, List.set_cons_succ, i64_w, i32_w]
          rfl
        refine done_ (by kernel_rfl) ?_
        try go_wp2
        go_ret
        exact ⟨by first | rfl | (simp [errW_none, errW_some] <;> rfl) | (simp [*, errW_none, errW_some] <;> rfl), Bp HB⟩
      · replace c30 := Bool.eq_false_iff.mpr c30
        subst c30
        have H1 : (some false) = some r := by rw [if_neg (show ¬ (false = true) by decide)] at H; exact H
        clear H
        have H := H1
        clear H1
        obtain rfl := Option.some.inj H
        go_enter Try.func4, Try.ntmps4
        try go_wp2_with (first | ((with_reducible refine gate_dst (N := 1) rfl ?_); refine box_event ?hg (N := 1) ?hd (cs := #[.slice A0_0 l0_0.length c0_0, .slice A0_1 l0_1.length c0_1]) (t := 25) ?hr ?_; (case hd => rfl); (case hg => rfl); (case hr => first | (go_simp; done) | (go_simp; rfl)); intro gb264 hg w52 hbox hb; have BK264 := Aside0.mk (hbox); have GW264 := Aside0.mk ((by rw [hg]; exact (below_size (Bp HB)) : w.heap.size ≤ gb264)); have GE264 := Aside0.mk ((by rw [hg]; exact (below_size (Bp HB)) : w.heap.size ≤ gb264)); replace HB := Bs HB hb; clear hb hbox hg; obtain ⟨hcz53_0, hcz53_1⟩ := bc2 (W := w52) BK264.out; obtain ⟨hfz53_0, hfz53_1⟩ := bf2 BK264.out) | ((with_reducible refine gate_callee (f := 9) rfl ?_); refine goesL_ (some 9) rfl rfl Try.func9 (by kernel_rfl) rfl #[.agg #[.slice A0_0 l0_0.length c0_0, .slice A0_1 l0_1.length c0_1], .int .i64 1048576] rfl (by (try simp only [List.map_toArray, List.map_cons, List.map_nil]); first | done | rfl | (simp only [List.length_drop, List.length_take]; rfl)) ?_; (with_reducible refine (laws_szCodeObj.calls k _ _ l0_0 _ _ l0_1 1048576 t265 _ ?side1 ?side2 ?side3 ?side4 A2.out).mono ?_); (case side1 => exact Cb HR0_0 HB); (case side2 => exact HC0_0.out); (case side3 => exact Cb HR0_1 HB); (case side4 => exact HC0_1.out); rintro e w54 ⟨rfl, hb⟩; refine ⟨_, rfl, ?_⟩; replace BK264 := Kb BK264 hb; replace HB := Bs HB hb; (try clear hb); (try clear hb2); (try clear hk); (try clear hi); obtain ⟨hcz55_0, hcz55_1⟩ := bc2 (W := w54) BK264.out; obtain ⟨hfz55_0, hfz55_1⟩ := bf2 BK264.out) | ((with_reducible refine gate_callee (f := 11) rfl ?_); refine goesL_ (some 13) rfl rfl Try.func11 (by kernel_rfl) rfl #[.agg #[.slice A0_0 l0_0.length c0_0, .slice A0_1 l0_1.length c0_1]] rfl (by (try simp only [List.map_toArray, List.map_cons, List.map_nil]); first | done | rfl | (simp only [List.length_drop, List.length_take]; rfl)) ?_; (with_reducible refine (laws_toCodeObj.calls k _ _ l0_0 _ _ l0_1 t266 t269 _ ?side1 ?side2 ?side3 ?side4 A7.out).mono ?_); (case side1 => exact Cb HR0_0 HB); (case side2 => exact HC0_0.out); (case side3 => exact Cb HR0_1 HB); (case side4 => exact HC0_1.out); rintro e w56 ⟨v267, v270, rfl, ho0, ho1, hb⟩; refine ⟨_, rfl, ?_⟩; have HO268 := Aside0.mk (Kd.R_lower ho0 (below_size (Bp HB))); have HO271 := Aside0.mk (Kd.S_lower ho1 (below_size (Bp HB))); replace BK264 := Kb BK264 hb; replace HB := Bs HB hb; (try clear hb); (try clear hb2); (try clear hk); (try clear hi); (try clear ho0); (try clear ho1); obtain ⟨Ao57, co57, eo57⟩ := Kd.R_slice HO268.out; subst eo57; obtain ⟨Ao58, co58, eo58⟩ := Kd.S_slice HO271.out; subst eo58) | ((with_reducible refine gate_callee (f := 14) rfl ?_); refine goesL_ (some 14) rfl rfl Try.func14 (by kernel_rfl) rfl #[.agg #[.slice Ao57 t266.length co57, .slice Ao58 t269.length co58]] rfl (by (try simp only [List.map_toArray, List.map_cons, List.map_nil]); first | done | rfl | (simp only [List.length_drop, List.length_take]; rfl)) ?_; (with_reducible refine (spec_ObjOk.calls k _ _ t266 _ _ t269 t272 _ ?side1 ?side2 ?side3 ?side4 A8.out).mono ?_); (case side1 => repeat (first | exact (Kd.R_reads' HO268.out).2.2 | (with_reducible refine Kd.C_alloc ?_ _) | (with_reducible refine Kd.C_drewN ?_ _) | (with_reducible refine Kd.C_drew ?_))); (case side2 => exact (Kd.R_reads' HO268.out).2.1); (case side3 => repeat (first | exact (Kd.S_reads' HO271.out).2.2 | (with_reducible refine Kd.C_alloc ?_ _) | (with_reducible refine Kd.C_drewN ?_ _) | (with_reducible refine Kd.C_drew ?_))); (case side4 => exact (Kd.S_reads' HO271.out).2.1); rintro e w59 ⟨rfl, hb⟩; refine ⟨_, rfl, ?_⟩; replace HO268 := Rb HO268 hb; replace HO271 := Aside0.mk (Kd.S_below (Sp HO271) hb); replace BK264 := Kb BK264 hb; replace HB := Bs HB hb; (try clear hb); (try clear hb2); (try clear hk); (try clear hi); obtain ⟨hcz60_0, hcz60_1⟩ := bc2 (W := w59) BK264.out; obtain ⟨hfz60_0, hfz60_1⟩ := bf2 BK264.out) | ((with_reducible refine gate_callee (f := 11) rfl ?_); refine goesL_ (some 16) rfl rfl Try.func11 (by kernel_rfl) rfl #[.agg #[.slice A0_0 l0_0.length c0_0, .slice A0_1 l0_1.length c0_1]] rfl (by (try simp only [List.map_toArray, List.map_cons, List.map_nil]); first | done | rfl | (simp only [List.length_drop, List.length_take]; rfl)) ?_; (with_reducible refine (laws_toCodeObj.calls k _ _ l0_0 _ _ l0_1 t273 t276 _ ?side1 ?side2 ?side3 ?side4 A9.out).mono ?_); (case side1 => exact Cb HR0_0 HB); (case side2 => exact HC0_0.out); (case side3 => exact Cb HR0_1 HB); (case side4 => exact HC0_1.out); rintro e w61 ⟨v274, v277, rfl, ho0, ho1, hb⟩; refine ⟨_, rfl, ?_⟩; have HO275 := Aside0.mk (Rl (Kd.R_new' ho0 (Rt HO268)) HB); replace HO268 := Aside0.mk (Re HO268 ho0 hb); have HO278 := Aside0.mk (Kd.S_lower (Kd.S_new' ho1 (Kd.S_lt (Sp HO271))) (below_size (Bp HB))); replace HO271 := Aside0.mk (Kd.S_elder' (Sp HO271) (Kd.S_base ho1) hb); replace BK264 := Kb BK264 hb; replace HB := Bs HB hb; (try clear hb); (try clear hb2); (try clear hk); (try clear hi); (try clear ho0); (try clear ho1)) | ((with_reducible refine gate_dst (N := 5) rfl ?_); refine box_event ?hg (N := 5) ?hd (cs := #[.slice none 0 0, .slice none 0 0]) (t := 31) ?hr ?_; (case hd => rfl); (case hg => rfl); (case hr => first | (go_simp; done) | (go_simp; rfl)); intro gb279 hg w62 hbox hb; replace HO268 := Rb HO268 hb; replace HO271 := Aside0.mk (Kd.S_below (Sp HO271) hb); replace HO275 := Rb HO275 hb; replace HO278 := Aside0.mk (Kd.S_below (Sp HO278) hb); have BK279 := Aside0.mk (hbox); have GW279 := Aside0.mk ((by rw [hg]; exact (below_size (Bp HB)) : w.heap.size ≤ gb279)); have GE279 := Aside0.mk ((by rw [hg]; exact (below_size (Bp HB)) : w.heap.size ≤ gb279)); replace HB := Bs HB hb; have NB264_279 := Aside0.mk ((by rw [hg]; exact Nat.ne_of_lt (blk_lt (Kp BK264)) : gb264 ≠ gb279)); have NB279_264 := Aside0.mk ((by rw [hg]; exact Nat.ne_of_gt (blk_lt (Kp BK264)) : gb279 ≠ gb264)); replace BK264 := Kb BK264 hb; clear hb hbox hg; obtain ⟨Ao63, co63, eo63⟩ := Kd.R_slice HO275.out; subst eo63; have hnb64 := NB279_264.out; have hnc64 := NB264_279.out; obtain ⟨hcz65_0, hcz65_1⟩ := bc2 (W := w62) BK279.out; obtain ⟨hfz65_0, hfz65_1⟩ := bf2 BK279.out; obtain ⟨Ao66, co66, eo66⟩ := Kd.S_slice HO278.out; subst eo66) | ((with_reducible refine gate_callee (f := 15) rfl ?_); refine goesL_ (some 18) rfl rfl Try.func15 (by kernel_rfl) rfl #[.agg #[.slice Ao63 t273.length co63, .slice Ao66 t276.length co66]] rfl (by (try simp only [List.map_toArray, List.map_cons, List.map_nil]); first | done | rfl | (simp only [List.length_drop, List.length_take]; rfl)) ?_; (with_reducible refine (impl_ObjOk.calls k _ _ t273 _ _ t276 t280 _ ?side1 ?side2 ?side3 ?side4 A10.out).mono ?_); (case side1 => refine (Kd.R_reads' (e := 70) (base := w.heap.size) (ok := fun k_ => (True ∧ some k_ ≠ (.slice Ao57 t266.length co57 : Value).ownBlock)) (n := t273.length) (c := co63) ?_).2.2; exact (by (with_reducible repeat (first | apply Kd.R_alloc | apply Kd.R_drewN | apply Kd.R_drew)); exact (Kd.R_mono (RF (g := gb279) (Kd.R_types HO275.out BK279.out (by decide)) (fun _ hk => hk.2)) (fun _ h_ => h_.1)))); (case side2 => exact (Kd.R_reads' HO275.out).2.1); (case side3 => refine (Kd.S_reads' (e := 74) (base := w.heap.size) (ok := fun k_ => (True ∧ some k_ ≠ (.slice Ao58 t269.length co58 : Value).ownBlock)) (n := t276.length) (c := co66) ?_).2.2; exact (by (with_reducible repeat (first | apply Kd.S_alloc | apply Kd.S_drewN | apply Kd.S_drew)); exact (Kd.S_mono (SF (g := gb279) (Kd.S_types HO278.out BK279.out (by decide)) (fun _ hk => hk.2)) (fun _ h_ => h_.1)))); (case side4 => exact (Kd.S_reads' HO278.out).2.1); rintro e w67 ⟨rfl, hb⟩; refine ⟨_, rfl, ?_⟩; replace HO268 := Aside0.mk (Kd.R_below (by (with_reducible repeat (first | apply Kd.R_alloc | apply Kd.R_drewN | apply Kd.R_drew)); exact (Kd.R_mono (RF (g := gb279) (Kd.R_types HO268.out BK279.out (by decide)) (fun _ hk => hk.2)) (fun _ h_ => h_.1))) hb); replace HO271 := Aside0.mk (Kd.S_below (by (with_reducible repeat (first | apply Kd.S_alloc | apply Kd.S_drewN | apply Kd.S_drew)); exact (Kd.S_mono (SF (g := gb279) (Kd.S_types HO271.out BK279.out (by decide)) (fun _ hk => hk.2)) (fun _ h_ => h_.1))) hb); replace HO275 := Aside0.mk (Kd.R_below (by (with_reducible repeat (first | apply Kd.R_alloc | apply Kd.R_drewN | apply Kd.R_drew)); exact (Kd.R_mono (RF (g := gb279) (Kd.R_types HO275.out BK279.out (by decide)) (fun _ hk => hk.2)) (fun _ h_ => h_.1))) hb); replace HO278 := Aside0.mk (Kd.S_below (by (with_reducible repeat (first | apply Kd.S_alloc | apply Kd.S_drewN | apply Kd.S_drew)); exact (Kd.S_mono (SF (g := gb279) (Kd.S_types HO278.out BK279.out (by decide)) (fun _ hk => hk.2)) (fun _ h_ => h_.1))) hb); replace BK264 := Aside0.mk (blk_below (Kf BK264) hb); replace BK279 := Aside0.mk (blk_below (g := gb279) (o := .cells #[.slice Ao63 t273.length co63, .slice Ao66 t276.length co66] 31 (0, 0)) (by (with_reducible repeat (first | refine blk_drewN ?_ _ | refine blk_drew ?_ | refine blk_alloc ?_ _)); refine blk_put (cs := #[.slice Ao63 t273.length co63, .slice none 0 0]) ?_ 1 _ rfl; (with_reducible repeat (first | refine blk_drewN ?_ _ | refine blk_drew ?_ | refine blk_alloc ?_ _)); refine blk_put (cs := #[.slice none 0 0, .slice none 0 0]) ?_ 0 _ rfl; (with_reducible repeat (first | refine blk_drewN ?_ _ | refine blk_drew ?_ | refine blk_alloc ?_ _)); exact BK279.out) hb); replace HB := Bs HB hb; (try clear hb); (try clear hb2); (try clear hk); (try clear hi)))
        replace HO268 := Aside0.mk (Kd.R_drew HO268.out)
        replace HO271 := Aside0.mk (Kd.S_drew HO271.out)
        replace HO275 := Aside0.mk (Kd.R_drew HO275.out)
        replace HO278 := Aside0.mk (Kd.S_drew HO278.out)
        replace BK264 := Aside0.mk (blk_drew BK264.out)
        replace BK279 := Aside0.mk (blk_drew BK279.out)
        replace HB := Aside0.mk (below_drew1 HB.out)
        refine start_ (n := 5) (S := fun w' => w'.cell? ⟨gb279, 0, none⟩ = some (.slice Ao63 t273.length co63) ∧ w'.cell? ⟨gb279, 1, none⟩ = some (.slice Ao66 t276.length co66) ∧ w'.cell? ⟨gb264, 0, none⟩ = some (.slice A0_0 l0_0.length c0_0) ∧ w'.cell? ⟨gb264, 1, none⟩ = some (.slice A0_1 l0_1.length c0_1)) (ds := []) #[false, false, false, false, false] (by kernel_rfl) rfl rfl ⟨(blk_cell BK279.out 0).trans rfl, (blk_cell BK279.out 1).trans rfl, (blk_cell BK264.out 0).trans rfl, (blk_cell BK264.out 1).trans rfl⟩ (fun hHeld => ?_)
        generalize w67.drew = w68 at HO268 HO271 HO275 HO278 BK264 BK279 HB hHeld ⊢
        refine take_ (i := 0) (N := some 22) (v := ?_) (a' := ?_) #[true, false, false, false, false] rfl rfl (by kernel_rfl) (fun _ _ _ h => h) (Or.inl ⟨by rfl, ?_⟩) hHeld ?_ ?_
        rotate_left
        · rintro w' ⟨s0, s1, s2, s3⟩
          go_simp
          with_reducible rfl
        rotate_left
        · simp only [Act.put, List.setIfInBounds_toArray, List.set_cons_zero, List.set_cons_succ, i64_w, i32_w]
          rfl
        refine take_ (i := 1) (N := some 23) (v := ?_) (a' := ?_) #[true, true, false, false, false] rfl rfl (by kernel_rfl) (fun _ _ _ h => h) (Or.inl ⟨by rfl, ?_⟩) hHeld ?_ ?_
        rotate_left
        · rintro w' ⟨s0, s1, s2, s3⟩
          go_simp
          with_reducible rfl
        rotate_left
        · simp only [Act.put, List.setIfInBounds_toArray, List.set_cons_zero, List.set_cons_succ, i64_w, i32_w]
          rfl
        refine one_ (i := 2) (N := some 24) #[true, true, true, false, false] rfl rfl (by kernel_rfl) (by decide) (fun K hK => ?_)
        refine goes_ Try.func11 (by kernel_rfl) rfl #[.agg #[.slice A0_0 l0_0.length c0_0, .slice A0_1 l0_1.length c0_1]] (by rfl) rfl rfl (by (try simp only [List.map_toArray, List.map_cons, List.map_nil]); first | done | rfl | (simp only [List.length_drop, List.length_take]; rfl)) ?_
        with_reducible refine (laws_toCodeObj.calls k _ _ l0_0 _ _ l0_1 t281 t284 _ ?side1 ?side2 ?side3 ?side4 A28.out).mono ?_
        (case side1 => exact Cb HR0_0 HB)
        (case side2 => exact HC0_0.out)
        (case side3 => exact Cb HR0_1 HB)
        (case side4 => exact HC0_1.out)
        rintro e w69 ⟨v282, v285, rfl, ho0, ho1, hb⟩
        refine ⟨_, rfl, ?_⟩
        have HO283 := Aside0.mk (Rl (Kd.R_new' (Kd.R_new' ho0 (Rt HO268)) (Rt HO275)) HB)
        replace HO268 := Aside0.mk (Re HO268 ho0 hb)
        replace HO275 := Aside0.mk (Re HO275 ho0 hb)
        have HO286 := Aside0.mk (Kd.S_lower (Kd.S_new' (Kd.S_new' ho1 (Kd.S_lt (Sp HO271))) (Kd.S_lt (Sp HO278))) (below_size (Bp HB)))
        replace HO271 := Aside0.mk (Kd.S_elder' (Sp HO271) (Kd.S_base ho1) hb)
        replace HO278 := Aside0.mk (Kd.S_elder' (Sp HO278) (Kd.S_base ho1) hb)
        replace BK264 := Kb BK264 hb
        replace BK279 := Kb BK279 hb
        replace HB := Bs HB hb
        (try clear hb)
        (try clear hb2)
        (try clear hk)
        (try clear hi)
        (try clear ho0)
        (try clear ho1)
        obtain ⟨Ao70, co70, eo70⟩ := Kd.R_slice HO283.out
        (first | subst eo70 | (injection eo70 with f1_ f2_ f3_; have f4_ := f1_.symm; have f5_ := f3_.symm; clear f1_ f2_ f3_; subst f4_; subst f5_))
        obtain ⟨Ao71, co71, eo71⟩ := Kd.S_slice HO286.out
        (first | subst eo71 | (injection eo71 with f1_ f2_ f3_; have f4_ := f1_.symm; have f5_ := f3_.symm; clear f1_ f2_ f3_; subst f4_; subst f5_))
        refine hK.out _ _ ⟨(blk_cell BK279.out 0).trans rfl, (blk_cell BK279.out 1).trans rfl, (blk_cell BK264.out 0).trans rfl, (blk_cell BK264.out 1).trans rfl⟩ (fun hHeld => ?_)
        clear hK K
        refine norm_ (a' := ?_) ?_ ?_
        rotate_left
        · show Act.put _ (some 24) _ = _
          simp only [Act.put, List.setIfInBounds_toArray, List.set_cons_zero, List.set_cons_succ, i64_w, i32_w]
          rfl
        refine one_ (i := 3) (N := some 25) #[true, true, true, true, false] rfl rfl (by kernel_rfl) (by decide) (fun K hK => ?_)
        refine goes_ Try.func13 (by kernel_rfl) rfl #[.agg #[.slice Ao63 t273.length co63, .slice Ao66 t276.length co66], .agg #[.slice Ao70 t281.length co70, .slice Ao71 t284.length co71]] (by rfl) rfl rfl (by (try simp only [List.map_toArray, List.map_cons, List.map_nil]); first | done | rfl | (simp only [List.length_drop, List.length_take]; rfl)) ?_
        with_reducible refine (laws_eqCodeObj.calls k _ _ t273 _ _ t276 _ _ t281 _ _ t284 false _ ?side1 ?side2 ?side3 ?side4 ?side5 ?side6 ?side7 ?side8 A29.out).mono ?_
        (case side1 => repeat (first | exact (Kd.R_reads' HO275.out).2.2 | (with_reducible refine Kd.C_alloc ?_ _) | (with_reducible refine Kd.C_drewN ?_ _) | (with_reducible refine Kd.C_drew ?_)))
        (case side2 => exact (Kd.R_reads' HO275.out).2.1)
        (case side3 => repeat (first | exact (Kd.S_reads' HO278.out).2.2 | (with_reducible refine Kd.C_alloc ?_ _) | (with_reducible refine Kd.C_drewN ?_ _) | (with_reducible refine Kd.C_drew ?_)))
        (case side4 => exact (Kd.S_reads' HO278.out).2.1)
        (case side5 => repeat (first | exact (Kd.R_reads' HO283.out).2.2 | (with_reducible refine Kd.C_alloc ?_ _) | (with_reducible refine Kd.C_drewN ?_ _) | (with_reducible refine Kd.C_drew ?_)))
        (case side6 => exact (Kd.R_reads' HO283.out).2.1)
        (case side7 => repeat (first | exact (Kd.S_reads' HO286.out).2.2 | (with_reducible refine Kd.C_alloc ?_ _) | (with_reducible refine Kd.C_drewN ?_ _) | (with_reducible refine Kd.C_drew ?_)))
        (case side8 => exact (Kd.S_reads' HO286.out).2.1)
        rintro e w72 ⟨rfl, hb⟩
        refine ⟨_, rfl, ?_⟩
        replace HO268 := Rb HO268 hb
        replace HO271 := Aside0.mk (Kd.S_below (Sp HO271) hb)
        replace HO275 := Rb HO275 hb
        replace HO278 := Aside0.mk (Kd.S_below (Sp HO278) hb)
        replace HO283 := Rb HO283 hb
        replace HO286 := Aside0.mk (Kd.S_below (Sp HO286) hb)
        replace BK264 := Kb BK264 hb
        replace BK279 := Kb BK279 hb
        replace HB := Bs HB hb
        (try clear hb)
        (try clear hb2)
        (try clear hk)
        (try clear hi)
        refine hK.out _ _ ⟨(blk_cell BK279.out 0).trans rfl, (blk_cell BK279.out 1).trans rfl, (blk_cell BK264.out 0).trans rfl, (blk_cell BK264.out 1).trans rfl⟩ (fun hHeld => ?_)
        clear hK K
        refine norm_ (a' := ?_) ?_ ?_
        rotate_left
        · show Act.put _ (some 25) _ = _
          simp only [Act.put, List.setIfInBounds_toArray, List.set_cons_zero, List.set_cons_succ, i64_w, i32_w]
          rfl
        refine pure_ (i := 4) (N := some 26) (v := ?_) (a' := ?_) #[true, true, true, true, true] rfl rfl (by kernel_rfl) (fun _ _ _ h => h) (Or.inl ⟨by rfl, ?_⟩) ?_ ?_
        rotate_left
        · intro w'
          go_simp
          with_reducible rfl
        rotate_left
        · simp only [Act.put, List.setIfInBounds_toArray, List.set_cons_zero, List.set_cons_succ, i64_w, i32_w]
          rfl
        refine done_ (by kernel_rfl) ?_
        try go_wp2
        go_ret
        exact ⟨by first | rfl | (simp [errW_none, errW_some] <;> rfl) | (simp [*, errW_none, errW_some] <;> rfl), Bp HB⟩

end Go.Proofs.Ytnebeklmfenikaa.Q
