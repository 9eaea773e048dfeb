-- written by xprint.py, a program of this session, out of the translation: Lean checks it
import Derived.Test.YtnebeklmfenikaaQCodeSamex0
import Derived.Test.YtnebeklmfenikaaQCodeSamex3
import Derived.Test.YtnebeklmfenikaaQCodeSamex5
import Derived.Test.YtnebeklmfenikaaQCodeSamex6
import Derived.Test.YtnebeklmfenikaaQCodeSamex7
import Derived.Test.YtnebeklmfenikaaQCodeSamex10
namespace Go.Proofs.Ytnebeklmfenikaa.Q
open Go.RowKit Go.Proofs.YtnebeklmfenikaaW.PrintWords Go.Proofs.YtnebeklmfenikaaW.PrintLast Go.Proofs.YtnebeklmfenikaaW.PrintMore
attribute [local go_sem] max2_int min2_int max_two min_two max_three min_three max_four min_four   -- for this text's walks alone
set_option linter.unusedVariables false
set_option linter.unusedSimpArgs false

/-! ### laws_FnExactCodeSame: function 3 -/
def laws_FnExactCodeSame.f (k : Nat) (l0_0 : List (S123)) (l0_1 : List (S127)) (l1_0 : List (S123)) (l1_1 : List (S127)) : Option (Bool) := (laws_szCodeObj.f k l0_0 l0_1 1048576).bind fun t227 => (if t227 < 0 then (some true) else ((laws_szCodeObj.f k l1_0 l1_1 t227).bind fun t228 => (if t228 < 0 then (some true) else ((laws_toCodeObj.f k l0_0 l0_1).bind fun bt229 => ((laws_toCodeObj.f k l1_0 l1_1).bind fun bt235 => ((spec_CodeSame.f k bt229.1 bt229.2 bt235.1 bt235.2).bind fun t241 => ((laws_toCodeObj.f k l0_0 l0_1).bind fun bt242 => ((laws_toCodeObj.f k l1_0 l1_1).bind fun bt249 => ((impl_CodeSame.f k bt242.1 bt242.2 bt249.1 bt249.2).bind fun t256 => (if (t256 != t241) = true then (some false) else ((laws_toCodeObj.f k l0_0 l0_1).bind fun bt257 => ((laws_eqCodeObj.f k bt242.1 bt242.2 bt257.1 bt257.2).bind fun t263 => (if t263 = true then ((laws_toCodeObj.f k l1_0 l1_1).bind fun bt264 => ((laws_eqCodeObj.f k bt249.1 bt249.2 bt264.1 bt264.2).bind fun t270 => (if t270 = true then (some true) else (some false)))) else (some false))))))))))))))
theorem laws_FnExactCodeSame.mono : ∀ a0 a1 a2 a3 k, LeO (laws_FnExactCodeSame.f k a0 a1 a2 a3) (laws_FnExactCodeSame.f (k + 1) a0 a1 a2 a3) := by
  intro a0 a1 a2 a3 k
  unfold laws_FnExactCodeSame.f
  repeat' first
      | (with_reducible exact impl_CodeSame.mono _ _ _ _ _)
      | (with_reducible exact laws_eqCodeObj.mono _ _ _ _ _)
      | (with_reducible exact laws_szCodeObj.mono _ _ _ _)
      | (with_reducible exact laws_toCodeObj.mono _ _ _)
      | (with_reducible exact spec_CodeSame.mono _ _ _ _ _)
      | (with_reducible exact LeO.refl _)
      | (with_reducible exact LeO.none _)
      | (with_reducible refine LeO.ite ?_ ?_)
      | (with_reducible refine LeO.bind ?_ (fun _ => ?_))
      | exact impl_CodeSame.mono _ _ _ _ _
      | exact laws_eqCodeObj.mono _ _ _ _ _
      | exact laws_szCodeObj.mono _ _ _ _
      | exact laws_toCodeObj.mono _ _ _
      | exact spec_CodeSame.mono _ _ _ _ _
      | exact LeO.none _
      | refine LeO.ite ?_ ?_
      | refine LeO.bind ?_ (fun _ => ?_)
set_option maxHeartbeats 8000000 in
set_option maxRecDepth 100000 in
theorem laws_FnExactCodeSame.calls (k : Nat) (A0_0 : Option Addr) (c0_0 : Nat) (l0_0 : List (S123)) (A0_1 : Option Addr) (c0_1 : Nat) (l0_1 : List (S127)) (A1_0 : Option Addr) (c1_0 : Nat) (l1_0 : List (S123)) (A1_1 : Option Addr) (c1_1 : Nat) (l1_1 : List (S127)) (r : Bool) (w : World) (hr0_0 : Kd.C k123 w A0_0 l0_0.length l0_0) (hc0_0 : l0_0.length ≤ c0_0) (hr0_1 : Kd.C k127 w A0_1 l0_1.length l0_1) (hc0_1 : l0_1.length ≤ c0_1) (hr1_0 : Kd.C k123 w A1_0 l1_0.length l1_0) (hc1_0 : l1_0.length ≤ c1_0) (hr1_1 : Kd.C k127 w A1_1 l1_1.length l1_1) (hc1_1 : l1_1.length ≤ c1_1) (h : laws_FnExactCodeSame.f k l0_0 l0_1 l1_0 l1_1 = some r) :
    Calls Try.prog 3 #[.agg #[.slice A0_0 l0_0.length c0_0, .slice A0_1 l0_1.length c0_1], .agg #[.slice A1_0 l1_0.length c1_0, .slice A1_1 l1_1.length c1_1]] w fun e w' => e = .returned (.bool r) ∧ Below w.heap.size w w' := by
  have hu25 := Try.underlying25
  have hu31 := Try.underlying31
  have HR0_0 := Aside0.mk hr0_0
  have HC0_0 := Aside0.mk hc0_0
  clear hr0_0 hc0_0
  have HR0_1 := Aside0.mk hr0_1
  have HC0_1 := Aside0.mk hc0_1
  clear hr0_1 hc0_1
  have HR1_0 := Aside0.mk hr1_0
  have HC1_0 := Aside0.mk hc1_0
  clear hr1_0 hc1_0
  have HR1_1 := Aside0.mk hr1_1
  have HC1_1 := Aside0.mk hc1_1
  clear hr1_1 hc1_1
  have HB := Aside0.mk (Below.refl w.heap.size w)
  have H : ((laws_szCodeObj.f k l0_0 l0_1 1048576).bind fun t227 => (if t227 < 0 then (some true) else ((laws_szCodeObj.f k l1_0 l1_1 t227).bind fun t228 => (if t228 < 0 then (some true) else ((laws_toCodeObj.f k l0_0 l0_1).bind fun bt229 => ((laws_toCodeObj.f k l1_0 l1_1).bind fun bt235 => ((spec_CodeSame.f k bt229.1 bt229.2 bt235.1 bt235.2).bind fun t241 => ((laws_toCodeObj.f k l0_0 l0_1).bind fun bt242 => ((laws_toCodeObj.f k l1_0 l1_1).bind fun bt249 => ((impl_CodeSame.f k bt242.1 bt242.2 bt249.1 bt249.2).bind fun t256 => (if (t256 != t241) = true then (some false) else ((laws_toCodeObj.f k l0_0 l0_1).bind fun bt257 => ((laws_eqCodeObj.f k bt242.1 bt242.2 bt257.1 bt257.2).bind fun t263 => (if t263 = true then ((laws_toCodeObj.f k l1_0 l1_1).bind fun bt264 => ((laws_eqCodeObj.f k bt249.1 bt249.2 bt264.1 bt264.2).bind fun t270 => (if t270 = true then (some true) else (some false)))) else (some false))))))))))))))) = some r := h
  clear h
  replace H := Option.bind_eq_some_iff.mp H
  obtain ⟨t227, A30, H⟩ := H
  replace H : (if t227 < 0 then (some true) else ((laws_szCodeObj.f k l1_0 l1_1 t227).bind fun t228 => (if t228 < 0 then (some true) else ((laws_toCodeObj.f k l0_0 l0_1).bind fun bt229 => ((laws_toCodeObj.f k l1_0 l1_1).bind fun bt235 => ((spec_CodeSame.f k bt229.1 bt229.2 bt235.1 bt235.2).bind fun t241 => ((laws_toCodeObj.f k l0_0 l0_1).bind fun bt242 => ((laws_toCodeObj.f k l1_0 l1_1).bind fun bt249 => ((impl_CodeSame.f k bt242.1 bt242.2 bt249.1 bt249.2).bind fun t256 => (if (t256 != t241) = true then (some false) else ((laws_toCodeObj.f k l0_0 l0_1).bind fun bt257 => ((laws_eqCodeObj.f k bt242.1 bt242.2 bt257.1 bt257.2).bind fun t263 => (if t263 = true then ((laws_toCodeObj.f k l1_0 l1_1).bind fun bt264 => ((laws_eqCodeObj.f k bt249.1 bt249.2 bt264.1 bt264.2).bind fun t270 => (if t270 = true then (some true) else (some false)))) else (some false)))))))))))))) = some r := H
  have A3 := Aside0.mk A30
  clear A30
  by_cases c4 : t227 < 0
  · rw [if_pos c4] at H
    have c4b0 : decide (t227 < 0) = true := decide_eq_true c4
    clear c4
    obtain rfl := Option.some.inj H
    go_enter Try.func3, Try.ntmps3
    go_wp2_with (first | ((with_reducible refine gate_dst (N := 2) rfl ?_); refine box_event ?hg (N := 2) ?hd (cs := #[.slice A0_0 l0_0.length c0_0, .slice A0_1 l0_1.length c0_1]) (t := 25) ?hr ?_; (case hd => rfl); (case hg => rfl); (case hr => first | (go_simp; done) | (go_simp; rfl)); intro gb225 hg w5 hbox hb; have BK225 := Aside0.mk (hbox); have GW225 := Aside0.mk ((by rw [hg]; exact (below_size (Bp HB)) : w.heap.size ≤ gb225)); have GE225 := Aside0.mk ((by rw [hg]; exact (below_size (Bp HB)) : w.heap.size ≤ gb225)); replace HB := Bs HB hb; clear hb hbox hg) | ((with_reducible refine gate_dst (N := 3) rfl ?_); refine box_event ?hg (N := 3) ?hd (cs := #[.slice A1_0 l1_0.length c1_0, .slice A1_1 l1_1.length c1_1]) (t := 25) ?hr ?_; (case hd => rfl); (case hg => rfl); (case hr => first | (go_simp; done) | (go_simp; rfl)); intro gb226 hg w6 hbox hb; have BK226 := Aside0.mk (hbox); have GW226 := Aside0.mk ((by rw [hg]; exact (below_size (Bp HB)) : w.heap.size ≤ gb226)); have GE226 := Aside0.mk ((by rw [hg]; exact (below_size (Bp HB)) : w.heap.size ≤ gb226)); replace HB := Bs HB hb; have NB225_226 := Aside0.mk ((by rw [hg]; exact Nat.ne_of_lt (blk_lt (Kp BK225)) : gb225 ≠ gb226)); have NB226_225 := Aside0.mk ((by rw [hg]; exact Nat.ne_of_gt (blk_lt (Kp BK225)) : gb226 ≠ gb225)); replace BK225 := Kb BK225 hb; clear hb hbox hg; have hnb7 := NB225_226.out; have hnc7 := NB226_225.out; obtain ⟨hcz8_0, hcz8_1⟩ := bc2 (W := w6) BK225.out; obtain ⟨hfz8_0, hfz8_1⟩ := bf2 BK225.out) | ((with_reducible refine gate_callee (f := 9) rfl ?_); refine goesL_ (some 12) rfl rfl Try.func9 (by kernel_rfl) rfl #[.agg #[.slice A0_0 l0_0.length c0_0, .slice A0_1 l0_1.length c0_1], .int .i64 1048576] rfl (by (try simp only [List.map_toArray, List.map_cons, List.map_nil]); first | done | rfl | (simp only [List.length_drop, List.length_take]; rfl)) ?_; (with_reducible refine (laws_szCodeObj.calls k _ _ l0_0 _ _ l0_1 1048576 t227 _ ?side1 ?side2 ?side3 ?side4 A3.out).mono ?_); (case side1 => exact Cb HR0_0 HB); (case side2 => exact HC0_0.out); (case side3 => exact Cb HR0_1 HB); (case side4 => exact HC0_1.out); rintro e w9 ⟨rfl, hb⟩; refine ⟨_, rfl, ?_⟩; replace BK225 := Kb BK225 hb; replace BK226 := Kb BK226 hb; replace HB := Bs HB hb; (try clear hb); (try clear hb2); (try clear hk); (try clear hi)))
    go_ret
    exact ⟨by first | rfl | (simp [errW_none, errW_some] <;> rfl) | (simp [*, errW_none, errW_some] <;> rfl), Bp HB⟩
  · rw [if_neg c4] at H
    have c4b0 : decide (t227 < 0) = false := decide_eq_false c4
    clear c4
    replace H := Option.bind_eq_some_iff.mp H
    obtain ⟨t228, A100, H⟩ := H
    replace H : (if t228 < 0 then (some true) else ((laws_toCodeObj.f k l0_0 l0_1).bind fun bt229 => ((laws_toCodeObj.f k l1_0 l1_1).bind fun bt235 => ((spec_CodeSame.f k bt229.1 bt229.2 bt235.1 bt235.2).bind fun t241 => ((laws_toCodeObj.f k l0_0 l0_1).bind fun bt242 => ((laws_toCodeObj.f k l1_0 l1_1).bind fun bt249 => ((impl_CodeSame.f k bt242.1 bt242.2 bt249.1 bt249.2).bind fun t256 => (if (t256 != t241) = true then (some false) else ((laws_toCodeObj.f k l0_0 l0_1).bind fun bt257 => ((laws_eqCodeObj.f k bt242.1 bt242.2 bt257.1 bt257.2).bind fun t263 => (if t263 = true then ((laws_toCodeObj.f k l1_0 l1_1).bind fun bt264 => ((laws_eqCodeObj.f k bt249.1 bt249.2 bt264.1 bt264.2).bind fun t270 => (if t270 = true then (some true) else (some false)))) else (some false)))))))))))) = some r := H
    have A10 := Aside0.mk A100
    clear A100
    by_cases c11 : t228 < 0
    · rw [if_pos c11] at H
      have c11b0 : decide (t228 < 0) = true := decide_eq_true c11
      clear c11
      obtain rfl := Option.some.inj H
      go_enter Try.func3, Try.ntmps3
      go_wp2_with (first | ((with_reducible refine gate_dst (N := 2) rfl ?_); refine box_event ?hg (N := 2) ?hd (cs := #[.slice A0_0 l0_0.length c0_0, .slice A0_1 l0_1.length c0_1]) (t := 25) ?hr ?_; (case hd => rfl); (case hg => rfl); (case hr => first | (go_simp; done) | (go_simp; rfl)); intro gb225 hg w12 hbox hb; have BK225 := Aside0.mk (hbox); have GW225 := Aside0.mk ((by rw [hg]; exact (below_size (Bp HB)) : w.heap.size ≤ gb225)); have GE225 := Aside0.mk ((by rw [hg]; exact (below_size (Bp HB)) : w.heap.size ≤ gb225)); replace HB := Bs HB hb; clear hb hbox hg) | ((with_reducible refine gate_dst (N := 3) rfl ?_); refine box_event ?hg (N := 3) ?hd (cs := #[.slice A1_0 l1_0.length c1_0, .slice A1_1 l1_1.length c1_1]) (t := 25) ?hr ?_; (case hd => rfl); (case hg => rfl); (case hr => first | (go_simp; done) | (go_simp; rfl)); intro gb226 hg w13 hbox hb; have BK226 := Aside0.mk (hbox); have GW226 := Aside0.mk ((by rw [hg]; exact (below_size (Bp HB)) : w.heap.size ≤ gb226)); have GE226 := Aside0.mk ((by rw [hg]; exact (below_size (Bp HB)) : w.heap.size ≤ gb226)); replace HB := Bs HB hb; have NB225_226 := Aside0.mk ((by rw [hg]; exact Nat.ne_of_lt (blk_lt (Kp BK225)) : gb225 ≠ gb226)); have NB226_225 := Aside0.mk ((by rw [hg]; exact Nat.ne_of_gt (blk_lt (Kp BK225)) : gb226 ≠ gb225)); replace BK225 := Kb BK225 hb; clear hb hbox hg; have hnb14 := NB225_226.out; have hnc14 := NB226_225.out; obtain ⟨hcz15_0, hcz15_1⟩ := bc2 (W := w13) BK225.out; obtain ⟨hfz15_0, hfz15_1⟩ := bf2 BK225.out) | ((with_reducible refine gate_callee (f := 9) rfl ?_); refine goesL_ (some 12) rfl rfl Try.func9 (by kernel_rfl) rfl #[.agg #[.slice A0_0 l0_0.length c0_0, .slice A0_1 l0_1.length c0_1], .int .i64 1048576] rfl (by (try simp only [List.map_toArray, List.map_cons, List.map_nil]); first | done | rfl | (simp only [List.length_drop, List.length_take]; rfl)) ?_; (with_reducible refine (laws_szCodeObj.calls k _ _ l0_0 _ _ l0_1 1048576 t227 _ ?side1 ?side2 ?side3 ?side4 A3.out).mono ?_); (case side1 => exact Cb HR0_0 HB); (case side2 => exact HC0_0.out); (case side3 => exact Cb HR0_1 HB); (case side4 => exact HC0_1.out); rintro e w16 ⟨rfl, hb⟩; refine ⟨_, rfl, ?_⟩; replace BK225 := Kb BK225 hb; replace BK226 := Kb BK226 hb; replace HB := Bs HB hb; (try clear hb); (try clear hb2); (try clear hk); (try clear hi); obtain ⟨hcz17_0, hcz17_1⟩ := bc2 (W := w16) BK226.out; obtain ⟨hfz17_0, hfz17_1⟩ := bf2 BK226.out) | ((with_reducible refine gate_callee (f := 9) rfl ?_); refine goesL_ (some 17) rfl rfl Try.func9 (by kernel_rfl) rfl #[.agg #[.slice A1_0 l1_0.length c1_0, .slice A1_1 l1_1.length c1_1], .int .i64 t227] rfl (by (try simp only [List.map_toArray, List.map_cons, List.map_nil]); first | done | rfl | (simp only [List.length_drop, List.length_take]; rfl)) ?_; (with_reducible refine (laws_szCodeObj.calls k _ _ l1_0 _ _ l1_1 t227 t228 _ ?side1 ?side2 ?side3 ?side4 A10.out).mono ?_); (case side1 => exact Cb HR1_0 HB); (case side2 => exact HC1_0.out); (case side3 => exact Cb HR1_1 HB); (case side4 => exact HC1_1.out); rintro e w18 ⟨rfl, hb⟩; refine ⟨_, rfl, ?_⟩; replace BK225 := Kb BK225 hb; replace BK226 := Kb BK226 hb; replace HB := Bs HB hb; (try clear hb); (try clear hb2); (try clear hk); (try clear hi)))
      go_ret
      exact ⟨by first | rfl | (simp [errW_none, errW_some] <;> rfl) | (simp [*, errW_none, errW_some] <;> rfl), Bp HB⟩
    · rw [if_neg c11] at H
      have c11b0 : decide (t228 < 0) = false := decide_eq_false c11
      clear c11
      replace H := Option.bind_eq_some_iff.mp H
      obtain ⟨⟨t229, t232⟩, A190, H⟩ := H
      replace H : ((laws_toCodeObj.f k l1_0 l1_1).bind fun bt235 => ((spec_CodeSame.f k t229 t232 bt235.1 bt235.2).bind fun t241 => ((laws_toCodeObj.f k l0_0 l0_1).bind fun bt242 => ((laws_toCodeObj.f k l1_0 l1_1).bind fun bt249 => ((impl_CodeSame.f k bt242.1 bt242.2 bt249.1 bt249.2).bind fun t256 => (if (t256 != t241) = true then (some false) else ((laws_toCodeObj.f k l0_0 l0_1).bind fun bt257 => ((laws_eqCodeObj.f k bt242.1 bt242.2 bt257.1 bt257.2).bind fun t263 => (if t263 = true then ((laws_toCodeObj.f k l1_0 l1_1).bind fun bt264 => ((laws_eqCodeObj.f k bt249.1 bt249.2 bt264.1 bt264.2).bind fun t270 => (if t270 = true then (some true) else (some false)))) else (some false)))))))))) = some r := H
      have A19 := Aside0.mk A190
      clear A190
      replace H := Option.bind_eq_some_iff.mp H
      obtain ⟨⟨t235, t238⟩, A200, H⟩ := H
      replace H : ((spec_CodeSame.f k t229 t232 t235 t238).bind fun t241 => ((laws_toCodeObj.f k l0_0 l0_1).bind fun bt242 => ((laws_toCodeObj.f k l1_0 l1_1).bind fun bt249 => ((impl_CodeSame.f k bt242.1 bt242.2 bt249.1 bt249.2).bind fun t256 => (if (t256 != t241) = true then (some false) else ((laws_toCodeObj.f k l0_0 l0_1).bind fun bt257 => ((laws_eqCodeObj.f k bt242.1 bt242.2 bt257.1 bt257.2).bind fun t263 => (if t263 = true then ((laws_toCodeObj.f k l1_0 l1_1).bind fun bt264 => ((laws_eqCodeObj.f k bt249.1 bt249.2 bt264.1 bt264.2).bind fun t270 => (if t270 = true then (some true) else (some false)))) else (some false))))))))) = some r := H
      have A20 := Aside0.mk A200
      clear A200
      replace H := Option.bind_eq_some_iff.mp H
      obtain ⟨t241, A210, H⟩ := H
      replace H : ((laws_toCodeObj.f k l0_0 l0_1).bind fun bt242 => ((laws_toCodeObj.f k l1_0 l1_1).bind fun bt249 => ((impl_CodeSame.f k bt242.1 bt242.2 bt249.1 bt249.2).bind fun t256 => (if (t256 != t241) = true then (some false) else ((laws_toCodeObj.f k l0_0 l0_1).bind fun bt257 => ((laws_eqCodeObj.f k bt242.1 bt242.2 bt257.1 bt257.2).bind fun t263 => (if t263 = true then ((laws_toCodeObj.f k l1_0 l1_1).bind fun bt264 => ((laws_eqCodeObj.f k bt249.1 bt249.2 bt264.1 bt264.2).bind fun t270 => (if t270 = true then (some true) else (some false)))) else (some false)))))))) = some r := H
      have A21 := Aside0.mk A210
      clear A210
      replace H := Option.bind_eq_some_iff.mp H
      obtain ⟨⟨t242, t245⟩, A220, H⟩ := H
      replace H : ((laws_toCodeObj.f k l1_0 l1_1).bind fun bt249 => ((impl_CodeSame.f k t242 t245 bt249.1 bt249.2).bind fun t256 => (if (t256 != t241) = true then (some false) else ((laws_toCodeObj.f k l0_0 l0_1).bind fun bt257 => ((laws_eqCodeObj.f k t242 t245 bt257.1 bt257.2).bind fun t263 => (if t263 = true then ((laws_toCodeObj.f k l1_0 l1_1).bind fun bt264 => ((laws_eqCodeObj.f k bt249.1 bt249.2 bt264.1 bt264.2).bind fun t270 => (if t270 = true then (some true) else (some false)))) else (some false))))))) = some r := H
      have A22 := Aside0.mk A220
      clear A220
      replace H := Option.bind_eq_some_iff.mp H
      obtain ⟨⟨t249, t252⟩, A230, H⟩ := H
      replace H : ((impl_CodeSame.f k t242 t245 t249 t252).bind fun t256 => (if (t256 != t241) = true then (some false) else ((laws_toCodeObj.f k l0_0 l0_1).bind fun bt257 => ((laws_eqCodeObj.f k t242 t245 bt257.1 bt257.2).bind fun t263 => (if t263 = true then ((laws_toCodeObj.f k l1_0 l1_1).bind fun bt264 => ((laws_eqCodeObj.f k t249 t252 bt264.1 bt264.2).bind fun t270 => (if t270 = true then (some true) else (some false)))) else (some false)))))) = some r := H
      have A23 := Aside0.mk A230
      clear A230
      replace H := Option.bind_eq_some_iff.mp H
      obtain ⟨t256, A240, H⟩ := H
      replace H : (if (t256 != t241) = true then (some false) else ((laws_toCodeObj.f k l0_0 l0_1).bind fun bt257 => ((laws_eqCodeObj.f k t242 t245 bt257.1 bt257.2).bind fun t263 => (if t263 = true then ((laws_toCodeObj.f k l1_0 l1_1).bind fun bt264 => ((laws_eqCodeObj.f k t249 t252 bt264.1 bt264.2).bind fun t270 => (if t270 = true then (some true) else (some false)))) else (some false))))) = some r := H
      have A24 := Aside0.mk A240
      clear A240
      by_cases c25 : (t256 != t241) = true
      · rw [if_pos c25] at H
        have c25b0 : (t256 != t241) = true := c25
        (try (have c25b1 : decide (t256 = t241) = false := by simpa using c25))
        (try (have c25b2 : (t256 == t241) = false := by simpa using c25))
        (try (have c25b3 : ¬ (t256 = t241) := by simpa using c25))
        clear c25
        obtain rfl := Option.some.inj H
        go_enter Try.func3, Try.ntmps3
        try go_wp2_with (first | ((with_reducible refine gate_dst (N := 2) rfl ?_); refine box_event ?hg (N := 2) ?hd (cs := #[.slice A0_0 l0_0.length c0_0, .slice A0_1 l0_1.length c0_1]) (t := 25) ?hr ?_; (case hd => rfl); (case hg => rfl); (case hr => first | (go_simp; done) | (go_simp; rfl)); intro gb225 hg w26 hbox hb; have BK225 := Aside0.mk (hbox); have GW225 := Aside0.mk ((by rw [hg]; exact (below_size (Bp HB)) : w.heap.size ≤ gb225)); have GE225 := Aside0.mk ((by rw [hg]; exact (below_size (Bp HB)) : w.heap.size ≤ gb225)); replace HB := Bs HB hb; clear hb hbox hg) | ((with_reducible refine gate_dst (N := 3) rfl ?_); refine box_event ?hg (N := 3) ?hd (cs := #[.slice A1_0 l1_0.length c1_0, .slice A1_1 l1_1.length c1_1]) (t := 25) ?hr ?_; (case hd => rfl); (case hg => rfl); (case hr => first | (go_simp; done) | (go_simp; rfl)); intro gb226 hg w27 hbox hb; have BK226 := Aside0.mk (hbox); have GW226 := Aside0.mk ((by rw [hg]; exact (below_size (Bp HB)) : w.heap.size ≤ gb226)); have GE226 := Aside0.mk ((by rw [hg]; exact (below_size (Bp HB)) : w.heap.size ≤ gb226)); replace HB := Bs HB hb; have NB225_226 := Aside0.mk ((by rw [hg]; exact Nat.ne_of_lt (blk_lt (Kp BK225)) : gb225 ≠ gb226)); have NB226_225 := Aside0.mk ((by rw [hg]; exact Nat.ne_of_gt (blk_lt (Kp BK225)) : gb226 ≠ gb225)); replace BK225 := Kb BK225 hb; clear hb hbox hg; have hnb28 := NB225_226.out; have hnc28 := NB226_225.out; obtain ⟨hcz29_0, hcz29_1⟩ := bc2 (W := w27) BK225.out; obtain ⟨hfz29_0, hfz29_1⟩ := bf2 BK225.out) | ((with_reducible refine gate_callee (f := 9) rfl ?_); refine goesL_ (some 12) rfl rfl Try.func9 (by kernel_rfl) rfl #[.agg #[.slice A0_0 l0_0.length c0_0, .slice A0_1 l0_1.length c0_1], .int .i64 1048576] rfl (by (try simp only [List.map_toArray, List.map_cons, List.map_nil]); first | done | rfl | (simp only [List.length_drop, List.length_take]; rfl)) ?_; (with_reducible refine (laws_szCodeObj.calls k _ _ l0_0 _ _ l0_1 1048576 t227 _ ?side1 ?side2 ?side3 ?side4 A3.out).mono ?_); (case side1 => exact Cb HR0_0 HB); (case side2 => exact HC0_0.out); (case side3 => exact Cb HR0_1 HB); (case side4 => exact HC0_1.out); rintro e w30 ⟨rfl, hb⟩; refine ⟨_, rfl, ?_⟩; replace BK225 := Kb BK225 hb; replace BK226 := Kb BK226 hb; replace HB := Bs HB hb; (try clear hb); (try clear hb2); (try clear hk); (try clear hi); obtain ⟨hcz31_0, hcz31_1⟩ := bc2 (W := w30) BK226.out; obtain ⟨hfz31_0, hfz31_1⟩ := bf2 BK226.out) | ((with_reducible refine gate_callee (f := 9) rfl ?_); refine goesL_ (some 17) rfl rfl Try.func9 (by kernel_rfl) rfl #[.agg #[.slice A1_0 l1_0.length c1_0, .slice A1_1 l1_1.length c1_1], .int .i64 t227] rfl (by (try simp only [List.map_toArray, List.map_cons, List.map_nil]); first | done | rfl | (simp only [List.length_drop, List.length_take]; rfl)) ?_; (with_reducible refine (laws_szCodeObj.calls k _ _ l1_0 _ _ l1_1 t227 t228 _ ?side1 ?side2 ?side3 ?side4 A10.out).mono ?_); (case side1 => exact Cb HR1_0 HB); (case side2 => exact HC1_0.out); (case side3 => exact Cb HR1_1 HB); (case side4 => exact HC1_1.out); rintro e w32 ⟨rfl, hb⟩; refine ⟨_, rfl, ?_⟩; replace BK225 := Kb BK225 hb; replace BK226 := Kb BK226 hb; replace HB := Bs HB hb; (try clear hb); (try clear hb2); (try clear hk); (try clear hi)))
        replace BK225 := Aside0.mk (blk_drew BK225.out)
        replace BK226 := Aside0.mk (blk_drew BK226.out)
        replace HB := Aside0.mk (below_drew1 HB.out)
        refine start_ (n := 6) (S := fun w' => w'.cell? ⟨gb225, 0, none⟩ = some (.slice A0_0 l0_0.length c0_0) ∧ w'.cell? ⟨gb225, 1, none⟩ = some (.slice A0_1 l0_1.length c0_1) ∧ w'.cell? ⟨gb226, 0, none⟩ = some (.slice A1_0 l1_0.length c1_0) ∧ w'.cell? ⟨gb226, 1, none⟩ = some (.slice A1_1 l1_1.length c1_1)) (ds := []) #[false, false, false, false, false, false] (by kernel_rfl) rfl rfl ⟨(blk_cell BK225.out 0).trans rfl, (blk_cell BK225.out 1).trans rfl, (blk_cell BK226.out 0).trans rfl, (blk_cell BK226.out 1).trans rfl⟩ (fun hHeld => ?_)
        generalize w32.drew = w33 at BK225 BK226 HB hHeld ⊢
        refine take_ (i := 0) (N := some 20) (v := ?_) (a' := ?_) #[true, false, false, false, false, false] rfl rfl (by kernel_rfl) (fun _ _ _ h => h) (Or.inl ⟨by rfl, ?_⟩) hHeld ?_ ?_
        rotate_left
        · rintro w' ⟨s0, s1, s2, s3⟩
          go_simp
          with_reducible rfl
        rotate_left
        · simp only [Act.put, List.setIfInBounds_toArray, List.set_cons_zero, List.set_cons_succ, i64_w, i32_w]
          rfl
        refine take_ (i := 2) (N := some 22) (v := ?_) (a' := ?_) #[true, false, true, false, false, false] rfl rfl (by kernel_rfl) (fun _ _ _ h => h) (Or.inl ⟨by rfl, ?_⟩) hHeld ?_ ?_
        rotate_left
        · rintro w' ⟨s0, s1, s2, s3⟩
          go_simp
          with_reducible rfl
        rotate_left
        · simp only [Act.put, List.setIfInBounds_toArray, List.set_cons_zero, List.set_cons_succ, i64_w, i32_w]
          rfl
        refine one_ (i := 1) (N := some 21) #[true, true, true, false, false, false] rfl rfl (by kernel_rfl) (by decide) (fun K hK => ?_)
        refine goes_ Try.func11 (by kernel_rfl) rfl #[.agg #[.slice A0_0 l0_0.length c0_0, .slice A0_1 l0_1.length c0_1]] (by rfl) rfl rfl (by (try simp only [List.map_toArray, List.map_cons, List.map_nil]); first | done | rfl | (simp only [List.length_drop, List.length_take]; rfl)) ?_
        with_reducible refine (laws_toCodeObj.calls k _ _ l0_0 _ _ l0_1 t229 t232 _ ?side1 ?side2 ?side3 ?side4 A19.out).mono ?_
        (case side1 => exact Cb HR0_0 HB)
        (case side2 => exact HC0_0.out)
        (case side3 => exact Cb HR0_1 HB)
        (case side4 => exact HC0_1.out)
        rintro e w34 ⟨v230, v233, rfl, ho0, ho1, hb⟩
        refine ⟨_, rfl, ?_⟩
        have HO231 := Aside0.mk (Kd.R_lower ho0 (below_size (Bp HB)))
        have HO234 := Aside0.mk (Kd.S_lower ho1 (below_size (Bp HB)))
        replace BK225 := Kb BK225 hb
        replace BK226 := Kb BK226 hb
        replace HB := Bs HB hb
        (try clear hb)
        (try clear hb2)
        (try clear hk)
        (try clear hi)
        (try clear ho0)
        (try clear ho1)
        refine hK.out _ _ ⟨(blk_cell BK225.out 0).trans rfl, (blk_cell BK225.out 1).trans rfl, (blk_cell BK226.out 0).trans rfl, (blk_cell BK226.out 1).trans rfl⟩ (fun hHeld => ?_)
        clear hK K
        refine norm_ (a' := ?_) ?_ ?_
        rotate_left
        · show Act.put _ (some 21) _ = _
          simp only [Act.put, List.setIfInBounds_toArray, List.set_cons_zero, List.set_cons_succ, i64_w, i32_w]
          rfl
        refine one_ (i := 3) (N := some 23) #[true, true, true, true, false, false] rfl rfl (by kernel_rfl) (by decide) (fun K hK => ?_)
        refine goes_ Try.func11 (by kernel_rfl) rfl #[.agg #[.slice A1_0 l1_0.length c1_0, .slice A1_1 l1_1.length c1_1]] (by rfl) rfl rfl (by (try simp only [List.map_toArray, List.map_cons, List.map_nil]); first | done | rfl | (simp only [List.length_drop, List.length_take]; rfl)) ?_
        with_reducible refine (laws_toCodeObj.calls k _ _ l1_0 _ _ l1_1 t235 t238 _ ?side1 ?side2 ?side3 ?side4 A20.out).mono ?_
        (case side1 => exact Cb HR1_0 HB)
        (case side2 => exact HC1_0.out)
        (case side3 => exact Cb HR1_1 HB)
        (case side4 => exact HC1_1.out)
        rintro e w35 ⟨v236, v239, rfl, ho0, ho1, hb⟩
        refine ⟨_, rfl, ?_⟩
        have HO237 := Aside0.mk (Rl (Kd.R_new' ho0 (Rt HO231)) HB)
        replace HO231 := Aside0.mk (Re HO231 ho0 hb)
        have HO240 := Aside0.mk (Kd.S_lower (Kd.S_new' ho1 (Kd.S_lt (Sp HO234))) (below_size (Bp HB)))
        replace HO234 := Aside0.mk (Kd.S_elder' (Sp HO234) (Kd.S_base ho1) hb)
        replace BK225 := Kb BK225 hb
        replace BK226 := Kb BK226 hb
        replace HB := Bs HB hb
        (try clear hb)
        (try clear hb2)
        (try clear hk)
        (try clear hi)
        (try clear ho0)
        (try clear ho1)
        obtain ⟨Ao36, co36, eo36⟩ := Kd.R_slice HO231.out
        (first | subst eo36 | (injection eo36 with f1_ f2_ f3_; have f4_ := f1_.symm; have f5_ := f3_.symm; clear f1_ f2_ f3_; subst f4_; subst f5_))
        obtain ⟨Ao37, co37, eo37⟩ := Kd.S_slice HO234.out
        (first | subst eo37 | (injection eo37 with f1_ f2_ f3_; have f4_ := f1_.symm; have f5_ := f3_.symm; clear f1_ f2_ f3_; subst f4_; subst f5_))
        obtain ⟨Ao38, co38, eo38⟩ := Kd.R_slice HO237.out
        (first | subst eo38 | (injection eo38 with f1_ f2_ f3_; have f4_ := f1_.symm; have f5_ := f3_.symm; clear f1_ f2_ f3_; subst f4_; subst f5_))
        obtain ⟨Ao39, co39, eo39⟩ := Kd.S_slice HO240.out
        (first | subst eo39 | (injection eo39 with f1_ f2_ f3_; have f4_ := f1_.symm; have f5_ := f3_.symm; clear f1_ f2_ f3_; subst f4_; subst f5_))
        refine hK.out _ _ ⟨(blk_cell BK225.out 0).trans rfl, (blk_cell BK225.out 1).trans rfl, (blk_cell BK226.out 0).trans rfl, (blk_cell BK226.out 1).trans rfl⟩ (fun hHeld => ?_)
        clear hK K
        refine norm_ (a' := ?_) ?_ ?_
        rotate_left
        · show Act.put _ (some 23) _ = _
          simp only [Act.put, List.setIfInBounds_toArray, List.set_cons_zero, List.set_cons_succ, i64_w, i32_w]
          rfl
        refine one_ (i := 4) (N := some 24) #[true, true, true, true, true, false] rfl rfl (by kernel_rfl) (by decide) (fun K hK => ?_)
        refine goes_ Try.func10 (by kernel_rfl) rfl #[.agg #[.slice Ao36 t229.length co36, .slice Ao37 t232.length co37], .agg #[.slice Ao38 t235.length co38, .slice Ao39 t238.length co39]] (by rfl) rfl rfl (by (try simp only [List.map_toArray, List.map_cons, List.map_nil]); first | done | rfl | (simp only [List.length_drop, List.length_take]; rfl)) ?_
        with_reducible refine (spec_CodeSame.calls k _ _ t229 _ _ t232 _ _ t235 _ _ t238 t241 _ ?side1 ?side2 ?side3 ?side4 ?side5 ?side6 ?side7 ?side8 A21.out).mono ?_
        (case side1 => repeat (first | exact (Kd.R_reads' HO231.out).2.2 | (with_reducible refine Kd.C_alloc ?_ _) | (with_reducible refine Kd.C_drewN ?_ _) | (with_reducible refine Kd.C_drew ?_)))
        (case side2 => exact (Kd.R_reads' HO231.out).2.1)
        (case side3 => repeat (first | exact (Kd.S_reads' HO234.out).2.2 | (with_reducible refine Kd.C_alloc ?_ _) | (with_reducible refine Kd.C_drewN ?_ _) | (with_reducible refine Kd.C_drew ?_)))
        (case side4 => exact (Kd.S_reads' HO234.out).2.1)
        (case side5 => repeat (first | exact (Kd.R_reads' HO237.out).2.2 | (with_reducible refine Kd.C_alloc ?_ _) | (with_reducible refine Kd.C_drewN ?_ _) | (with_reducible refine Kd.C_drew ?_)))
        (case side6 => exact (Kd.R_reads' HO237.out).2.1)
        (case side7 => repeat (first | exact (Kd.S_reads' HO240.out).2.2 | (with_reducible refine Kd.C_alloc ?_ _) | (with_reducible refine Kd.C_drewN ?_ _) | (with_reducible refine Kd.C_drew ?_)))
        (case side8 => exact (Kd.S_reads' HO240.out).2.1)
        rintro e w40 ⟨rfl, hb⟩
        refine ⟨_, rfl, ?_⟩
        replace HO231 := Rb HO231 hb
        replace HO234 := Aside0.mk (Kd.S_below (Sp HO234) hb)
        replace HO237 := Rb HO237 hb
        replace HO240 := Aside0.mk (Kd.S_below (Sp HO240) hb)
        replace BK225 := Kb BK225 hb
        replace BK226 := Kb BK226 hb
        replace HB := Bs HB hb
        (try clear hb)
        (try clear hb2)
        (try clear hk)
        (try clear hi)
        refine hK.out _ _ ⟨(blk_cell BK225.out 0).trans rfl, (blk_cell BK225.out 1).trans rfl, (blk_cell BK226.out 0).trans rfl, (blk_cell BK226.out 1).trans rfl⟩ (fun hHeld => ?_)
        clear hK K
        refine norm_ (a' := ?_) ?_ ?_
        rotate_left
        · show Act.put _ (some 24) _ = _
          simp only [Act.put, List.setIfInBounds_toArray, List.set_cons_zero, List.set_cons_succ, i64_w, i32_w]
          rfl
        refine pure_ (i := 5) (N := some 6) (v := ?_) (a' := ?_) #[true, true, true, true, true, true] rfl rfl (by kernel_rfl) (fun _ _ _ h => h) (Or.inl ⟨by rfl, ?_⟩) ?_ ?_
        rotate_left
        · intro w'
          go_simp
          with_reducible rfl
        rotate_left
        · simp only [Act.put, List.setIfInBounds_toArray, List.set_cons_zero, List.set_cons_succ, i64_w, i32_w]
          rfl
        refine done_ (by kernel_rfl) ?_
        obtain ⟨hcz41_0, hcz41_1⟩ := bc2 (W := w40) BK225.out
        obtain ⟨hfz41_0, hfz41_1⟩ := bf2 BK225.out
        try go_wp2_with (first | ((with_reducible refine gate_callee (f := 11) rfl ?_); refine goesL_ (some 26) rfl rfl Try.func11 (by kernel_rfl) rfl #[.agg #[.slice A0_0 l0_0.length c0_0, .slice A0_1 l0_1.length c0_1]] rfl (by (try simp only [List.map_toArray, List.map_cons, List.map_nil]); first | done | rfl | (simp only [List.length_drop, List.length_take]; rfl)) ?_; (with_reducible refine (laws_toCodeObj.calls k _ _ l0_0 _ _ l0_1 t242 t245 _ ?side1 ?side2 ?side3 ?side4 A22.out).mono ?_); (case side1 => exact Cb HR0_0 HB); (case side2 => exact HC0_0.out); (case side3 => exact Cb HR0_1 HB); (case side4 => exact HC0_1.out); rintro e w42 ⟨v243, v246, rfl, ho0, ho1, hb⟩; refine ⟨_, rfl, ?_⟩; have HO244 := Aside0.mk (Rl (Kd.R_new' (Kd.R_new' ho0 (Rt HO231)) (Rt HO237)) HB); replace HO231 := Aside0.mk (Re HO231 ho0 hb); replace HO237 := Aside0.mk (Re HO237 ho0 hb); have HO247 := Aside0.mk (Kd.S_lower (Kd.S_new' (Kd.S_new' ho1 (Kd.S_lt (Sp HO234))) (Kd.S_lt (Sp HO240))) (below_size (Bp HB))); replace HO234 := Aside0.mk (Kd.S_elder' (Sp HO234) (Kd.S_base ho1) hb); replace HO240 := Aside0.mk (Kd.S_elder' (Sp HO240) (Kd.S_base ho1) hb); replace BK225 := Kb BK225 hb; replace BK226 := Kb BK226 hb; replace HB := Bs HB hb; (try clear hb); (try clear hb2); (try clear hk); (try clear hi); (try clear ho0); (try clear ho1)) | ((with_reducible refine gate_dst (N := 7) rfl ?_); refine box_event ?hg (N := 7) ?hd (cs := #[.slice none 0 0, .slice none 0 0]) (t := 31) ?hr ?_; (case hd => rfl); (case hg => rfl); (case hr => first | (go_simp; done) | (go_simp; rfl)); intro gb248 hg w43 hbox hb; replace HO231 := Rb HO231 hb; replace HO234 := Aside0.mk (Kd.S_below (Sp HO234) hb); replace HO237 := Rb HO237 hb; replace HO240 := Aside0.mk (Kd.S_below (Sp HO240) hb); replace HO244 := Rb HO244 hb; replace HO247 := Aside0.mk (Kd.S_below (Sp HO247) hb); have BK248 := Aside0.mk (hbox); have GW248 := Aside0.mk ((by rw [hg]; exact (below_size (Bp HB)) : w.heap.size ≤ gb248)); have GE248 := Aside0.mk ((by rw [hg]; exact (below_size (Bp HB)) : w.heap.size ≤ gb248)); replace HB := Bs HB hb; have NB225_248 := Aside0.mk ((by rw [hg]; exact Nat.ne_of_lt (blk_lt (Kp BK225)) : gb225 ≠ gb248)); have NB248_225 := Aside0.mk ((by rw [hg]; exact Nat.ne_of_gt (blk_lt (Kp BK225)) : gb248 ≠ gb225)); replace BK225 := Kb BK225 hb; have NB226_248 := Aside0.mk ((by rw [hg]; exact Nat.ne_of_lt (blk_lt (Kp BK226)) : gb226 ≠ gb248)); have NB248_226 := Aside0.mk ((by rw [hg]; exact Nat.ne_of_gt (blk_lt (Kp BK226)) : gb248 ≠ gb226)); replace BK226 := Kb BK226 hb; clear hb hbox hg; obtain ⟨Ao44, co44, eo44⟩ := Kd.R_slice HO244.out; subst eo44; have hnb45 := NB248_225.out; have hnc45 := NB225_248.out; have hnb46 := NB248_226.out; have hnc46 := NB226_248.out; obtain ⟨hcz47_0, hcz47_1⟩ := bc2 (W := w43) BK248.out; obtain ⟨hfz47_0, hfz47_1⟩ := bf2 BK248.out; obtain ⟨Ao48, co48, eo48⟩ := Kd.S_slice HO247.out; subst eo48; obtain ⟨hcz49_0, hcz49_1⟩ := bc2 (W := w43) BK226.out; obtain ⟨hfz49_0, hfz49_1⟩ := bf2 BK226.out) | ((with_reducible refine gate_callee (f := 11) rfl ?_); refine goesL_ (some 28) rfl rfl Try.func11 (by kernel_rfl) rfl #[.agg #[.slice A1_0 l1_0.length c1_0, .slice A1_1 l1_1.length c1_1]] rfl (by (try simp only [List.map_toArray, List.map_cons, List.map_nil]); first | done | rfl | (simp only [List.length_drop, List.length_take]; rfl)) ?_; (with_reducible refine (laws_toCodeObj.calls k _ _ l1_0 _ _ l1_1 t249 t252 _ ?side1 ?side2 ?side3 ?side4 A23.out).mono ?_); (case side1 => exact Kd.C_below HR1_0.out (Bp HB)); (case side2 => exact HC1_0.out); (case side3 => exact Kd.C_below HR1_1.out (Bp HB)); (case side4 => exact HC1_1.out); rintro e w50 ⟨v250, v253, rfl, ho0, ho1, hb⟩; refine ⟨_, rfl, ?_⟩; have HO251 := Aside0.mk (Kd.R_lower (Kd.R_new' (Kd.R_new' (Kd.R_new' ho0 (Kd.R_lt (by (with_reducible repeat (first | apply Kd.R_alloc | apply Kd.R_drewN | apply Kd.R_drew)); exact (Kd.R_mono (RF (g := gb248) (Kd.R_types HO231.out BK248.out (by decide)) (fun _ hk => hk.2)) (fun _ h_ => h_.1))))) (Kd.R_lt (by (with_reducible repeat (first | apply Kd.R_alloc | apply Kd.R_drewN | apply Kd.R_drew)); exact (Kd.R_mono (RF (g := gb248) (Kd.R_types HO237.out BK248.out (by decide)) (fun _ hk => hk.2)) (fun _ h_ => h_.1))))) (Kd.R_lt (by (with_reducible repeat (first | apply Kd.R_alloc | apply Kd.R_drewN | apply Kd.R_drew)); exact (Kd.R_mono (RF (g := gb248) (Kd.R_types HO244.out BK248.out (by decide)) (fun _ hk => hk.2)) (fun _ h_ => h_.1))))) (below_size (Bp HB))); replace HO231 := Aside0.mk (Kd.R_elder' (by (with_reducible repeat (first | apply Kd.R_alloc | apply Kd.R_drewN | apply Kd.R_drew)); exact (Kd.R_mono (RF (g := gb248) (Kd.R_types HO231.out BK248.out (by decide)) (fun _ hk => hk.2)) (fun _ h_ => h_.1))) (Kd.R_base ho0) hb); replace HO237 := Aside0.mk (Kd.R_elder' (by (with_reducible repeat (first | apply Kd.R_alloc | apply Kd.R_drewN | apply Kd.R_drew)); exact (Kd.R_mono (RF (g := gb248) (Kd.R_types HO237.out BK248.out (by decide)) (fun _ hk => hk.2)) (fun _ h_ => h_.1))) (Kd.R_base ho0) hb); replace HO244 := Aside0.mk (Kd.R_elder' (by (with_reducible repeat (first | apply Kd.R_alloc | apply Kd.R_drewN | apply Kd.R_drew)); exact (Kd.R_mono (RF (g := gb248) (Kd.R_types HO244.out BK248.out (by decide)) (fun _ hk => hk.2)) (fun _ h_ => h_.1))) (Kd.R_base ho0) hb); have HO254 := Aside0.mk (Kd.S_lower (Kd.S_new' (Kd.S_new' (Kd.S_new' ho1 (Kd.S_lt (by (with_reducible repeat (first | apply Kd.S_alloc | apply Kd.S_drewN | apply Kd.S_drew)); exact (Kd.S_mono (SF (g := gb248) (Kd.S_types HO234.out BK248.out (by decide)) (fun _ hk => hk.2)) (fun _ h_ => h_.1))))) (Kd.S_lt (by (with_reducible repeat (first | apply Kd.S_alloc | apply Kd.S_drewN | apply Kd.S_drew)); exact (Kd.S_mono (SF (g := gb248) (Kd.S_types HO240.out BK248.out (by decide)) (fun _ hk => hk.2)) (fun _ h_ => h_.1))))) (Kd.S_lt (by (with_reducible repeat (first | apply Kd.S_alloc | apply Kd.S_drewN | apply Kd.S_drew)); exact (Kd.S_mono (SF (g := gb248) (Kd.S_types HO247.out BK248.out (by decide)) (fun _ hk => hk.2)) (fun _ h_ => h_.1))))) (below_size (Bp HB))); replace HO234 := Aside0.mk (Kd.S_elder' (by (with_reducible repeat (first | apply Kd.S_alloc | apply Kd.S_drewN | apply Kd.S_drew)); exact (Kd.S_mono (SF (g := gb248) (Kd.S_types HO234.out BK248.out (by decide)) (fun _ hk => hk.2)) (fun _ h_ => h_.1))) (Kd.S_base ho1) hb); replace HO240 := Aside0.mk (Kd.S_elder' (by (with_reducible repeat (first | apply Kd.S_alloc | apply Kd.S_drewN | apply Kd.S_drew)); exact (Kd.S_mono (SF (g := gb248) (Kd.S_types HO240.out BK248.out (by decide)) (fun _ hk => hk.2)) (fun _ h_ => h_.1))) (Kd.S_base ho1) hb); replace HO247 := Aside0.mk (Kd.S_elder' (by (with_reducible repeat (first | apply Kd.S_alloc | apply Kd.S_drewN | apply Kd.S_drew)); exact (Kd.S_mono (SF (g := gb248) (Kd.S_types HO247.out BK248.out (by decide)) (fun _ hk => hk.2)) (fun _ h_ => h_.1))) (Kd.S_base ho1) hb); replace BK225 := Aside0.mk (blk_below (Kf BK225) hb); replace BK226 := Aside0.mk (blk_below (Kf BK226) hb); replace BK248 := Aside0.mk (blk_below (g := gb248) (o := .cells #[.slice Ao44 t242.length co44, .slice Ao48 t245.length co48] 31 (0, 0)) (by (with_reducible repeat (first | refine blk_drewN ?_ _ | refine blk_drew ?_ | refine blk_alloc ?_ _)); refine blk_put (cs := #[.slice Ao44 t242.length co44, .slice none 0 0]) ?_ 1 _ rfl; (with_reducible repeat (first | refine blk_drewN ?_ _ | refine blk_drew ?_ | refine blk_alloc ?_ _)); refine blk_put (cs := #[.slice none 0 0, .slice none 0 0]) ?_ 0 _ rfl; (with_reducible repeat (first | refine blk_drewN ?_ _ | refine blk_drew ?_ | refine blk_alloc ?_ _)); exact BK248.out) hb); replace HB := Bs HB hb; (try clear hb); (try clear hb2); (try clear hk); (try clear hi); (try clear ho0); (try clear ho1)) | ((with_reducible refine gate_dst (N := 8) rfl ?_); refine box_event ?hg (N := 8) ?hd (cs := #[.slice none 0 0, .slice none 0 0]) (t := 31) ?hr ?_; (case hd => rfl); (case hg => rfl); (case hr => first | (go_simp; done) | (go_simp; rfl)); intro gb255 hg w51 hbox hb; replace HO231 := Rb HO231 hb; replace HO234 := Aside0.mk (Kd.S_below (Sp HO234) hb); replace HO237 := Rb HO237 hb; replace HO240 := Aside0.mk (Kd.S_below (Sp HO240) hb); replace HO244 := Rb HO244 hb; replace HO247 := Aside0.mk (Kd.S_below (Sp HO247) hb); replace HO251 := Rb HO251 hb; replace HO254 := Aside0.mk (Kd.S_below (Sp HO254) hb); have BK255 := Aside0.mk (hbox); have GW255 := Aside0.mk ((by rw [hg]; exact (below_size (Bp HB)) : w.heap.size ≤ gb255)); have GE255 := Aside0.mk ((by rw [hg]; exact (below_size (Bp HB)) : w.heap.size ≤ gb255)); replace HB := Bs HB hb; have NB225_255 := Aside0.mk ((by rw [hg]; exact Nat.ne_of_lt (blk_lt (Kp BK225)) : gb225 ≠ gb255)); have NB255_225 := Aside0.mk ((by rw [hg]; exact Nat.ne_of_gt (blk_lt (Kp BK225)) : gb255 ≠ gb225)); replace BK225 := Kb BK225 hb; have NB226_255 := Aside0.mk ((by rw [hg]; exact Nat.ne_of_lt (blk_lt (Kp BK226)) : gb226 ≠ gb255)); have NB255_226 := Aside0.mk ((by rw [hg]; exact Nat.ne_of_gt (blk_lt (Kp BK226)) : gb255 ≠ gb226)); replace BK226 := Kb BK226 hb; have NB248_255 := Aside0.mk ((by rw [hg]; exact Nat.ne_of_lt (blk_lt (Kp BK248)) : gb248 ≠ gb255)); have NB255_248 := Aside0.mk ((by rw [hg]; exact Nat.ne_of_gt (blk_lt (Kp BK248)) : gb255 ≠ gb248)); replace BK248 := Kb BK248 hb; clear hb hbox hg; obtain ⟨Ao52, co52, eo52⟩ := Kd.R_slice HO251.out; subst eo52; have hnb53 := NB255_225.out; have hnc53 := NB225_255.out; have hnb54 := NB255_226.out; have hnc54 := NB226_255.out; have hnb55 := NB255_248.out; have hnc55 := NB248_255.out; obtain ⟨hcz56_0, hcz56_1⟩ := bc2 (W := w51) BK255.out; obtain ⟨hfz56_0, hfz56_1⟩ := bf2 BK255.out; obtain ⟨Ao57, co57, eo57⟩ := Kd.S_slice HO254.out; subst eo57; obtain ⟨hcz58_0, hcz58_1⟩ := bc2 (W := w51) BK248.out; obtain ⟨hfz58_0, hfz58_1⟩ := bf2 BK248.out) | ((with_reducible refine gate_callee (f := 12) rfl ?_); refine goesL_ (some 31) rfl rfl Try.func12 (by kernel_rfl) rfl #[.agg #[.slice Ao44 t242.length co44, .slice Ao48 t245.length co48], .agg #[.slice Ao52 t249.length co52, .slice Ao57 t252.length co57]] rfl (by (try simp only [List.map_toArray, List.map_cons, List.map_nil]); first | done | rfl | (simp only [List.length_drop, List.length_take]; rfl)) ?_; (with_reducible refine (impl_CodeSame.calls k _ _ t242 _ _ t245 _ _ t249 _ _ t252 t256 _ ?side1 ?side2 ?side3 ?side4 ?side5 ?side6 ?side7 ?side8 A24.out).mono ?_); (case side1 => refine (Kd.R_reads' (e := 70) (base := w.heap.size) (ok := fun k_ => (((True ∧ some k_ ≠ (.slice Ao36 t229.length co36 : Value).ownBlock) ∧ some k_ ≠ (.slice Ao38 t235.length co38 : Value).ownBlock) ∧ some k_ ≠ (.slice Ao52 t249.length co52 : Value).ownBlock)) (n := t242.length) (c := co44) ?_).2.2; exact (by (with_reducible repeat (first | apply Kd.R_alloc | apply Kd.R_drewN | apply Kd.R_drew)); exact (Kd.R_mono (RF (g := gb255) (Kd.R_types HO244.out BK255.out (by decide)) (fun _ hk => hk.2)) (fun _ h_ => h_.1)))); (case side2 => exact (Kd.R_reads' HO244.out).2.1); (case side3 => refine (Kd.S_reads' (e := 74) (base := w.heap.size) (ok := fun k_ => (((True ∧ some k_ ≠ (.slice Ao37 t232.length co37 : Value).ownBlock) ∧ some k_ ≠ (.slice Ao39 t238.length co39 : Value).ownBlock) ∧ some k_ ≠ (.slice Ao57 t252.length co57 : Value).ownBlock)) (n := t245.length) (c := co48) ?_).2.2; exact (by (with_reducible repeat (first | apply Kd.S_alloc | apply Kd.S_drewN | apply Kd.S_drew)); exact (Kd.S_mono (SF (g := gb255) (Kd.S_types HO247.out BK255.out (by decide)) (fun _ hk => hk.2)) (fun _ h_ => h_.1)))); (case side4 => exact (Kd.S_reads' HO247.out).2.1); (case side5 => refine (Kd.R_reads' (e := 70) (base := w.heap.size) (ok := fun k_ => (((True ∧ some k_ ≠ (.slice Ao36 t229.length co36 : Value).ownBlock) ∧ some k_ ≠ (.slice Ao38 t235.length co38 : Value).ownBlock) ∧ some k_ ≠ (.slice Ao44 t242.length co44 : Value).ownBlock)) (n := t249.length) (c := co52) ?_).2.2; exact (by (with_reducible repeat (first | apply Kd.R_alloc | apply Kd.R_drewN | apply Kd.R_drew)); exact (Kd.R_mono (RF (g := gb255) (Kd.R_types HO251.out BK255.out (by decide)) (fun _ hk => hk.2)) (fun _ h_ => h_.1)))); (case side6 => exact (Kd.R_reads' HO251.out).2.1); (case side7 => refine (Kd.S_reads' (e := 74) (base := w.heap.size) (ok := fun k_ => (((True ∧ some k_ ≠ (.slice Ao37 t232.length co37 : Value).ownBlock) ∧ some k_ ≠ (.slice Ao39 t238.length co39 : Value).ownBlock) ∧ some k_ ≠ (.slice Ao48 t245.length co48 : Value).ownBlock)) (n := t252.length) (c := co57) ?_).2.2; exact (by (with_reducible repeat (first | apply Kd.S_alloc | apply Kd.S_drewN | apply Kd.S_drew)); exact (Kd.S_mono (SF (g := gb255) (Kd.S_types HO254.out BK255.out (by decide)) (fun _ hk => hk.2)) (fun _ h_ => h_.1)))); (case side8 => exact (Kd.S_reads' HO254.out).2.1); rintro e w59 ⟨rfl, hb⟩; refine ⟨_, rfl, ?_⟩; replace HO231 := Aside0.mk (Kd.R_below (by (with_reducible repeat (first | apply Kd.R_alloc | apply Kd.R_drewN | apply Kd.R_drew)); exact (Kd.R_mono (RF (g := gb255) (Kd.R_types HO231.out BK255.out (by decide)) (fun _ hk => hk.2)) (fun _ h_ => h_.1))) hb); replace HO234 := Aside0.mk (Kd.S_below (by (with_reducible repeat (first | apply Kd.S_alloc | apply Kd.S_drewN | apply Kd.S_drew)); exact (Kd.S_mono (SF (g := gb255) (Kd.S_types HO234.out BK255.out (by decide)) (fun _ hk => hk.2)) (fun _ h_ => h_.1))) hb); replace HO237 := Aside0.mk (Kd.R_below (by (with_reducible repeat (first | apply Kd.R_alloc | apply Kd.R_drewN | apply Kd.R_drew)); exact (Kd.R_mono (RF (g := gb255) (Kd.R_types HO237.out BK255.out (by decide)) (fun _ hk => hk.2)) (fun _ h_ => h_.1))) hb); replace HO240 := Aside0.mk (Kd.S_below (by (with_reducible repeat (first | apply Kd.S_alloc | apply Kd.S_drewN | apply Kd.S_drew)); exact (Kd.S_mono (SF (g := gb255) (Kd.S_types HO240.out BK255.out (by decide)) (fun _ hk => hk.2)) (fun _ h_ => h_.1))) hb); replace HO244 := Aside0.mk (Kd.R_below (by (with_reducible repeat (first | apply Kd.R_alloc | apply Kd.R_drewN | apply Kd.R_drew)); exact (Kd.R_mono (RF (g := gb255) (Kd.R_types HO244.out BK255.out (by decide)) (fun _ hk => hk.2)) (fun _ h_ => h_.1))) hb); replace HO247 := Aside0.mk (Kd.S_below (by (with_reducible repeat (first | apply Kd.S_alloc | apply Kd.S_drewN | apply Kd.S_drew)); exact (Kd.S_mono (SF (g := gb255) (Kd.S_types HO247.out BK255.out (by decide)) (fun _ hk => hk.2)) (fun _ h_ => h_.1))) hb); replace HO251 := Aside0.mk (Kd.R_below (by (with_reducible repeat (first | apply Kd.R_alloc | apply Kd.R_drewN | apply Kd.R_drew)); exact (Kd.R_mono (RF (g := gb255) (Kd.R_types HO251.out BK255.out (by decide)) (fun _ hk => hk.2)) (fun _ h_ => h_.1))) hb); replace HO254 := Aside0.mk (Kd.S_below (by (with_reducible repeat (first | apply Kd.S_alloc | apply Kd.S_drewN | apply Kd.S_drew)); exact (Kd.S_mono (SF (g := gb255) (Kd.S_types HO254.out BK255.out (by decide)) (fun _ hk => hk.2)) (fun _ h_ => h_.1))) hb); replace BK225 := Aside0.mk (blk_below (Kf BK225) hb); replace BK226 := Aside0.mk (blk_below (Kf BK226) hb); replace BK248 := Aside0.mk (blk_below (Kf BK248) hb); replace BK255 := Aside0.mk (blk_below (g := gb255) (o := .cells #[.slice Ao52 t249.length co52, .slice Ao57 t252.length co57] 31 (0, 0)) (by (with_reducible repeat (first | refine blk_drewN ?_ _ | refine blk_drew ?_ | refine blk_alloc ?_ _)); refine blk_put (cs := #[.slice Ao52 t249.length co52, .slice none 0 0]) ?_ 1 _ rfl; (with_reducible repeat (first | refine blk_drewN ?_ _ | refine blk_drew ?_ | refine blk_alloc ?_ _)); refine blk_put (cs := #[.slice none 0 0, .slice none 0 0]) ?_ 0 _ rfl; (with_reducible repeat (first | refine blk_drewN ?_ _ | refine blk_drew ?_ | refine blk_alloc ?_ _)); exact BK255.out) hb); replace HB := Bs HB hb; (try clear hb); (try clear hb2); (try clear hk); (try clear hi)))
        go_ret
        exact ⟨by first | rfl | (simp [errW_none, errW_some] <;> rfl) | (simp [*, errW_none, errW_some] <;> rfl), Bp HB⟩
      · rw [if_neg c25] at H
        have c25b0 : (t256 != t241) = false := by simpa using c25
        (try (have c25b1 : decide (t256 = t241) = true := by simpa using c25))
        (try (have c25b2 : (t256 == t241) = true := by simpa using c25))
        clear c25
        replace H := Option.bind_eq_some_iff.mp H
        obtain ⟨⟨t257, t260⟩, A600, H⟩ := H
        replace H : ((laws_eqCodeObj.f k t242 t245 t257 t260).bind fun t263 => (if t263 = true then ((laws_toCodeObj.f k l1_0 l1_1).bind fun bt264 => ((laws_eqCodeObj.f k t249 t252 bt264.1 bt264.2).bind fun t270 => (if t270 = true then (some true) else (some false)))) else (some false))) = some r := H
        have A60 := Aside0.mk A600
        clear A600
        replace H := Option.bind_eq_some_iff.mp H
        obtain ⟨t263, A610, H⟩ := H
        replace H : (if t263 = true then ((laws_toCodeObj.f k l1_0 l1_1).bind fun bt264 => ((laws_eqCodeObj.f k t249 t252 bt264.1 bt264.2).bind fun t270 => (if t270 = true then (some true) else (some false)))) else (some false)) = some r := H
        have A61 := Aside0.mk A610
        clear A610
        by_cases c62 : t263 = true
        · subst c62
          have H1 : ((laws_toCodeObj.f k l1_0 l1_1).bind fun bt264 => ((laws_eqCodeObj.f k t249 t252 bt264.1 bt264.2).bind fun t270 => (if t270 = true then (some true) else (some false)))) = some r := by rw [if_pos rfl] at H; exact H
          clear H
          have H := H1
          clear H1
          replace H := Option.bind_eq_some_iff.mp H
          obtain ⟨⟨t264, t267⟩, A630, H⟩ := H
          replace H : ((laws_eqCodeObj.f k t249 t252 t264 t267).bind fun t270 => (if t270 = true then (some true) else (some false))) = some r := H
          have A63 := Aside0.mk A630
          clear A630
          replace H := Option.bind_eq_some_iff.mp H
          obtain ⟨t270, A640, H⟩ := H
          replace H : (if t270 = true then (some true) else (some false)) = some r := H
          have A64 := Aside0.mk A640
          clear A640
          by_cases c65 : t270 = true
          · subst c65
            have H1 : (some true) = some r := by rw [if_pos rfl] at H; exact H
            clear H
            have H := H1
            clear H1
            obtain rfl := Option.some.inj H
            go_enter Try.func3, Try.ntmps3
            try go_wp2_with (first | ((with_reducible refine gate_dst (N := 2) rfl ?_); refine box_event ?hg (N := 2) ?hd (cs := #[.slice A0_0 l0_0.length c0_0, .slice A0_1 l0_1.length c0_1]) (t := 25) ?hr ?_; (case hd => rfl); (case hg => rfl); (case hr => first | (go_simp; done) | (go_simp; rfl)); intro gb225 hg w66 hbox hb; have BK225 := Aside0.mk (hbox); have GW225 := Aside0.mk ((by rw [hg]; exact (below_size (Bp HB)) : w.heap.size ≤ gb225)); have GE225 := Aside0.mk ((by rw [hg]; exact (below_size (Bp HB)) : w.heap.size ≤ gb225)); replace HB := Bs HB hb; clear hb hbox hg) | ((with_reducible refine gate_dst (N := 3) rfl ?_); refine box_event ?hg (N := 3) ?hd (cs := #[.slice A1_0 l1_0.length c1_0, .slice A1_1 l1_1.length c1_1]) (t := 25) ?hr ?_; (case hd => rfl); (case hg => rfl); (case hr => first | (go_simp; done) | (go_simp; rfl)); intro gb226 hg w67 hbox hb; have BK226 := Aside0.mk (hbox); have GW226 := Aside0.mk ((by rw [hg]; exact (below_size (Bp HB)) : w.heap.size ≤ gb226)); have GE226 := Aside0.mk ((by rw [hg]; exact (below_size (Bp HB)) : w.heap.size ≤ gb226)); replace HB := Bs HB hb; have NB225_226 := Aside0.mk ((by rw [hg]; exact Nat.ne_of_lt (blk_lt (Kp BK225)) : gb225 ≠ gb226)); have NB226_225 := Aside0.mk ((by rw [hg]; exact Nat.ne_of_gt (blk_lt (Kp BK225)) : gb226 ≠ gb225)); replace BK225 := Kb BK225 hb; clear hb hbox hg; have hnb68 := NB225_226.out; have hnc68 := NB226_225.out; obtain ⟨hcz69_0, hcz69_1⟩ := bc2 (W := w67) BK225.out; obtain ⟨hfz69_0, hfz69_1⟩ := bf2 BK225.out) | ((with_reducible refine gate_callee (f := 9) rfl ?_); refine goesL_ (some 12) rfl rfl Try.func9 (by kernel_rfl) rfl #[.agg #[.slice A0_0 l0_0.length c0_0, .slice A0_1 l0_1.length c0_1], .int .i64 1048576] rfl (by (try simp only [List.map_toArray, List.map_cons, List.map_nil]); first | done | rfl | (simp only [List.length_drop, List.length_take]; rfl)) ?_; (with_reducible refine (laws_szCodeObj.calls k _ _ l0_0 _ _ l0_1 1048576 t227 _ ?side1 ?side2 ?side3 ?side4 A3.out).mono ?_); (case side1 => exact Cb HR0_0 HB); (case side2 => exact HC0_0.out); (case side3 => exact Cb HR0_1 HB); (case side4 => exact HC0_1.out); rintro e w70 ⟨rfl, hb⟩; refine ⟨_, rfl, ?_⟩; replace BK225 := Kb BK225 hb; replace BK226 := Kb BK226 hb; replace HB := Bs HB hb; (try clear hb); (try clear hb2); (try clear hk); (try clear hi); obtain ⟨hcz71_0, hcz71_1⟩ := bc2 (W := w70) BK226.out; obtain ⟨hfz71_0, hfz71_1⟩ := bf2 BK226.out) | ((with_reducible refine gate_callee (f := 9) rfl ?_); refine goesL_ (some 17) rfl rfl Try.func9 (by kernel_rfl) rfl #[.agg #[.slice A1_0 l1_0.length c1_0, .slice A1_1 l1_1.length c1_1], .int .i64 t227] rfl (by (try simp only [List.map_toArray, List.map_cons, List.map_nil]); first | done | rfl | (simp only [List.length_drop, List.length_take]; rfl)) ?_; (with_reducible refine (laws_szCodeObj.calls k _ _ l1_0 _ _ l1_1 t227 t228 _ ?side1 ?side2 ?side3 ?side4 A10.out).mono ?_); (case side1 => exact Cb HR1_0 HB); (case side2 => exact HC1_0.out); (case side3 => exact Cb HR1_1 HB); (case side4 => exact HC1_1.out); rintro e w72 ⟨rfl, hb⟩; refine ⟨_, rfl, ?_⟩; replace BK225 := Kb BK225 hb; replace BK226 := Kb BK226 hb; replace HB := Bs HB hb; (try clear hb); (try clear hb2); (try clear hk); (try clear hi)))
            replace BK225 := Aside0.mk (blk_drew BK225.out)
            replace BK226 := Aside0.mk (blk_drew BK226.out)
            replace HB := Aside0.mk (below_drew1 HB.out)
            refine start_ (n := 6) (S := fun w' => w'.cell? ⟨gb225, 0, none⟩ = some (.slice A0_0 l0_0.length c0_0) ∧ w'.cell? ⟨gb225, 1, none⟩ = some (.slice A0_1 l0_1.length c0_1) ∧ w'.cell? ⟨gb226, 0, none⟩ = some (.slice A1_0 l1_0.length c1_0) ∧ w'.cell? ⟨gb226, 1, none⟩ = some (.slice A1_1 l1_1.length c1_1)) (ds := []) #[false, false, false, false, false, false] (by kernel_rfl) rfl rfl ⟨(blk_cell BK225.out 0).trans rfl, (blk_cell BK225.out 1).trans rfl, (blk_cell BK226.out 0).trans rfl, (blk_cell BK226.out 1).trans rfl⟩ (fun hHeld => ?_)
            generalize w72.drew = w73 at BK225 BK226 HB hHeld ⊢
            refine take_ (i := 0) (N := some 20) (v := ?_) (a' := ?_) #[true, false, false, false, false, false] rfl rfl (by kernel_rfl) (fun _ _ _ h => h) (Or.inl ⟨by rfl, ?_⟩) hHeld ?_ ?_
            rotate_left
            · rintro w' ⟨s0, s1, s2, s3⟩
              go_simp
              with_reducible rfl
            rotate_left
            · simp only [Act.put, List.setIfInBounds_toArray, List.set_cons_zero, List.set_cons_succ, i64_w, i32_w]
              rfl
            refine take_ (i := 2) (N := some 22) (v := ?_) (a' := ?_) #[true, false, true, false, false, false] rfl rfl (by kernel_rfl) (fun _ _ _ h => h) (Or.inl ⟨by rfl, ?_⟩) hHeld ?_ ?_
            rotate_left
            · rintro w' ⟨s0, s1, s2, s3⟩
              go_simp
              with_reducible rfl
            rotate_left
            · simp only [Act.put, List.setIfInBounds_toArray, List.set_cons_zero, List.set_cons_succ, i64_w, i32_w]
              rfl
            refine one_ (i := 1) (N := some 21) #[true, true, true, false, false, false] rfl rfl (by kernel_rfl) (by decide) (fun K hK => ?_)
            refine goes_ Try.func11 (by kernel_rfl) rfl #[.agg #[.slice A0_0 l0_0.length c0_0, .slice A0_1 l0_1.length c0_1]] (by rfl) rfl rfl (by (try simp only [List.map_toArray, List.map_cons, List.map_nil]); first | done | rfl | (simp only [List.length_drop, List.length_take]; rfl)) ?_
            with_reducible refine (laws_toCodeObj.calls k _ _ l0_0 _ _ l0_1 t229 t232 _ ?side1 ?side2 ?side3 ?side4 A19.out).mono ?_
            (case side1 => exact Cb HR0_0 HB)
            (case side2 => exact HC0_0.out)
            (case side3 => exact Cb HR0_1 HB)
            (case side4 => exact HC0_1.out)
            rintro e w74 ⟨v230, v233, rfl, ho0, ho1, hb⟩
            refine ⟨_, rfl, ?_⟩
            have HO231 := Aside0.mk (Kd.R_lower ho0 (below_size (Bp HB)))
            have HO234 := Aside0.mk (Kd.S_lower ho1 (below_size (Bp HB)))
            replace BK225 := Kb BK225 hb
            replace BK226 := Kb BK226 hb
            replace HB := Bs HB hb
            (try clear hb)
            (try clear hb2)
            (try clear hk)
            (try clear hi)
            (try clear ho0)
            (try clear ho1)
            refine hK.out _ _ ⟨(blk_cell BK225.out 0).trans rfl, (blk_cell BK225.out 1).trans rfl, (blk_cell BK226.out 0).trans rfl, (blk_cell BK226.out 1).trans rfl⟩ (fun hHeld => ?_)
            clear hK K
            refine norm_ (a' := ?_) ?_ ?_
            rotate_left
            · show Act.put _ (some 21) _ = _
              simp only [Act.put, List.setIfInBounds_toArray, List.set_cons_zero, List.set_cons_succ, i64_w, i32_w]
              rfl
            refine one_ (i := 3) (N := some 23) #[true, true, true, true, false, false] rfl rfl (by kernel_rfl) (by decide) (fun K hK => ?_)
            refine goes_ Try.func11 (by kernel_rfl) rfl #[.agg #[.slice A1_0 l1_0.length c1_0, .slice A1_1 l1_1.length c1_1]] (by rfl) rfl rfl (by (try simp only [List.map_toArray, List.map_cons, List.map_nil]); first | done | rfl | (simp only [List.length_drop, List.length_take]; rfl)) ?_
            with_reducible refine (laws_toCodeObj.calls k _ _ l1_0 _ _ l1_1 t235 t238 _ ?side1 ?side2 ?side3 ?side4 A20.out).mono ?_
            (case side1 => exact Cb HR1_0 HB)
            (case side2 => exact HC1_0.out)
            (case side3 => exact Cb HR1_1 HB)
            (case side4 => exact HC1_1.out)
            rintro e w75 ⟨v236, v239, rfl, ho0, ho1, hb⟩
            refine ⟨_, rfl, ?_⟩
            have HO237 := Aside0.mk (Rl (Kd.R_new' ho0 (Rt HO231)) HB)
            replace HO231 := Aside0.mk (Re HO231 ho0 hb)
            have HO240 := Aside0.mk (Kd.S_lower (Kd.S_new' ho1 (Kd.S_lt (Sp HO234))) (below_size (Bp HB)))
            replace HO234 := Aside0.mk (Kd.S_elder' (Sp HO234) (Kd.S_base ho1) hb)
            replace BK225 := Kb BK225 hb
            replace BK226 := Kb BK226 hb
            replace HB := Bs HB hb
            (try clear hb)
            (try clear hb2)
            (try clear hk)
            (try clear hi)
            (try clear ho0)
            (try clear ho1)
            obtain ⟨Ao76, co76, eo76⟩ := Kd.R_slice HO231.out
            (first | subst eo76 | (injection eo76 with f1_ f2_ f3_; have f4_ := f1_.symm; have f5_ := f3_.symm; clear f1_ f2_ f3_; subst f4_; subst f5_))
            obtain ⟨Ao77, co77, eo77⟩ := Kd.S_slice HO234.out
            (first | subst eo77 | (injection eo77 with f1_ f2_ f3_; have f4_ := f1_.symm; have f5_ := f3_.symm; clear f1_ f2_ f3_; subst f4_; subst f5_))
            obtain ⟨Ao78, co78, eo78⟩ := Kd.R_slice HO237.out
            (first | subst eo78 | (injection eo78 with f1_ f2_ f3_; have f4_ := f1_.symm; have f5_ := f3_.symm; clear f1_ f2_ f3_; subst f4_; subst f5_))
            obtain ⟨Ao79, co79, eo79⟩ := Kd.S_slice HO240.out
            (first | subst eo79 | (injection eo79 with f1_ f2_ f3_; have f4_ := f1_.symm; have f5_ := f3_.symm; clear f1_ f2_ f3_; subst f4_; subst f5_))
            refine hK.out _ _ ⟨(blk_cell BK225.out 0).trans rfl, (blk_cell BK225.out 1).trans rfl, (blk_cell BK226.out 0).trans rfl, (blk_cell BK226.out 1).trans rfl⟩ (fun hHeld => ?_)
            clear hK K
            refine norm_ (a' := ?_) ?_ ?_
            rotate_left
            · show Act.put _ (some 23) _ = _
              simp only [Act.put, List.setIfInBounds_toArray, List.set_cons_zero, List.set_cons_succ, i64_w, i32_w]
              rfl
            refine one_ (i := 4) (N := some 24) #[true, true, true, true, true, false] rfl rfl (by kernel_rfl) (by decide) (fun K hK => ?_)
            refine goes_ Try.func10 (by kernel_rfl) rfl #[.agg #[.slice Ao76 t229.length co76, .slice Ao77 t232.length co77], .agg #[.slice Ao78 t235.length co78, .slice Ao79 t238.length co79]] (by rfl) rfl rfl (by (try simp only [List.map_toArray, List.map_cons, List.map_nil]); first | done | rfl | (simp only [List.length_drop, List.length_take]; rfl)) ?_
            with_reducible refine (spec_CodeSame.calls k _ _ t229 _ _ t232 _ _ t235 _ _ t238 t241 _ ?side1 ?side2 ?side3 ?side4 ?side5 ?side6 ?side7 ?side8 A21.out).mono ?_
            (case side1 => repeat (first | exact (Kd.R_reads' HO231.out).2.2 | (with_reducible refine Kd.C_alloc ?_ _) | (with_reducible refine Kd.C_drewN ?_ _) | (with_reducible refine Kd.C_drew ?_)))
            (case side2 => exact (Kd.R_reads' HO231.out).2.1)
            (case side3 => repeat (first | exact (Kd.S_reads' HO234.out).2.2 | (with_reducible refine Kd.C_alloc ?_ _) | (with_reducible refine Kd.C_drewN ?_ _) | (with_reducible refine Kd.C_drew ?_)))
            (case side4 => exact (Kd.S_reads' HO234.out).2.1)
            (case side5 => repeat (first | exact (Kd.R_reads' HO237.out).2.2 | (with_reducible refine Kd.C_alloc ?_ _) | (with_reducible refine Kd.C_drewN ?_ _) | (with_reducible refine Kd.C_drew ?_)))
            (case side6 => exact (Kd.R_reads' HO237.out).2.1)
            (case side7 => repeat (first | exact (Kd.S_reads' HO240.out).2.2 | (with_reducible refine Kd.C_alloc ?_ _) | (with_reducible refine Kd.C_drewN ?_ _) | (with_reducible refine Kd.C_drew ?_)))
            (case side8 => exact (Kd.S_reads' HO240.out).2.1)
            rintro e w80 ⟨rfl, hb⟩
            refine ⟨_, rfl, ?_⟩
            replace HO231 := Rb HO231 hb
            replace HO234 := Aside0.mk (Kd.S_below (Sp HO234) hb)
            replace HO237 := Rb HO237 hb
            replace HO240 := Aside0.mk (Kd.S_below (Sp HO240) hb)
            replace BK225 := Kb BK225 hb
            replace BK226 := Kb BK226 hb
            replace HB := Bs HB hb
            (try clear hb)
            (try clear hb2)
            (try clear hk)
            (try clear hi)
            refine hK.out _ _ ⟨(blk_cell BK225.out 0).trans rfl, (blk_cell BK225.out 1).trans rfl, (blk_cell BK226.out 0).trans rfl, (blk_cell BK226.out 1).trans rfl⟩ (fun hHeld => ?_)
            clear hK K
            refine norm_ (a' := ?_) ?_ ?_
            rotate_left
            · show Act.put _ (some 24) _ = _
              simp only [Act.put, List.setIfInBounds_toArray, List.set_cons_zero, List.set_cons_succ, i64_w, i32_w]
              rfl
            refine pure_ (i := 5) (N := some 6) (v := ?_) (a' := ?_) #[true, true, true, true, true, true] rfl rfl (by kernel_rfl) (fun _ _ _ h => h) (Or.inl ⟨by rfl, ?_⟩) ?_ ?_
            rotate_left
            · intro w'
              go_simp
              with_reducible rfl
            rotate_left
            · simp only [Act.put, List.setIfInBounds_toArray, List.set_cons_zero, List.set_cons_succ, i64_w, i32_w]
              rfl
            refine done_ (by kernel_rfl) ?_
            obtain ⟨hcz81_0, hcz81_1⟩ := bc2 (W := w80) BK225.out
            obtain ⟨hfz81_0, hfz81_1⟩ := bf2 BK225.out
            try go_wp2_with (first | ((with_reducible refine gate_callee (f := 11) rfl ?_); refine goesL_ (some 26) rfl rfl Try.func11 (by kernel_rfl) rfl #[.agg #[.slice A0_0 l0_0.length c0_0, .slice A0_1 l0_1.length c0_1]] rfl (by (try simp only [List.map_toArray, List.map_cons, List.map_nil]); first | done | rfl | (simp only [List.length_drop, List.length_take]; rfl)) ?_; (with_reducible refine (laws_toCodeObj.calls k _ _ l0_0 _ _ l0_1 t242 t245 _ ?side1 ?side2 ?side3 ?side4 A22.out).mono ?_); (case side1 => exact Cb HR0_0 HB); (case side2 => exact HC0_0.out); (case side3 => exact Cb HR0_1 HB); (case side4 => exact HC0_1.out); rintro e w82 ⟨v243, v246, rfl, ho0, ho1, hb⟩; refine ⟨_, rfl, ?_⟩; have HO244 := Aside0.mk (Rl (Kd.R_new' (Kd.R_new' ho0 (Rt HO231)) (Rt HO237)) HB); replace HO231 := Aside0.mk (Re HO231 ho0 hb); replace HO237 := Aside0.mk (Re HO237 ho0 hb); have HO247 := Aside0.mk (Kd.S_lower (Kd.S_new' (Kd.S_new' ho1 (Kd.S_lt (Sp HO234))) (Kd.S_lt (Sp HO240))) (below_size (Bp HB))); replace HO234 := Aside0.mk (Kd.S_elder' (Sp HO234) (Kd.S_base ho1) hb); replace HO240 := Aside0.mk (Kd.S_elder' (Sp HO240) (Kd.S_base ho1) hb); replace BK225 := Kb BK225 hb; replace BK226 := Kb BK226 hb; replace HB := Bs HB hb; (try clear hb); (try clear hb2); (try clear hk); (try clear hi); (try clear ho0); (try clear ho1)) | ((with_reducible refine gate_dst (N := 7) rfl ?_); refine box_event ?hg (N := 7) ?hd (cs := #[.slice none 0 0, .slice none 0 0]) (t := 31) ?hr ?_; (case hd => rfl); (case hg => rfl); (case hr => first | (go_simp; done) | (go_simp; rfl)); intro gb248 hg w83 hbox hb; replace HO231 := Rb HO231 hb; replace HO234 := Aside0.mk (Kd.S_below (Sp HO234) hb); replace HO237 := Rb HO237 hb; replace HO240 := Aside0.mk (Kd.S_below (Sp HO240) hb); replace HO244 := Rb HO244 hb; replace HO247 := Aside0.mk (Kd.S_below (Sp HO247) hb); have BK248 := Aside0.mk (hbox); have GW248 := Aside0.mk ((by rw [hg]; exact (below_size (Bp HB)) : w.heap.size ≤ gb248)); have GE248 := Aside0.mk ((by rw [hg]; exact (below_size (Bp HB)) : w.heap.size ≤ gb248)); replace HB := Bs HB hb; have NB225_248 := Aside0.mk ((by rw [hg]; exact Nat.ne_of_lt (blk_lt (Kp BK225)) : gb225 ≠ gb248)); have NB248_225 := Aside0.mk ((by rw [hg]; exact Nat.ne_of_gt (blk_lt (Kp BK225)) : gb248 ≠ gb225)); replace BK225 := Kb BK225 hb; have NB226_248 := Aside0.mk ((by rw [hg]; exact Nat.ne_of_lt (blk_lt (Kp BK226)) : gb226 ≠ gb248)); have NB248_226 := Aside0.mk ((by rw [hg]; exact Nat.ne_of_gt (blk_lt (Kp BK226)) : gb248 ≠ gb226)); replace BK226 := Kb BK226 hb; clear hb hbox hg; obtain ⟨Ao84, co84, eo84⟩ := Kd.R_slice HO244.out; subst eo84; have hnb85 := NB248_225.out; have hnc85 := NB225_248.out; have hnb86 := NB248_226.out; have hnc86 := NB226_248.out; obtain ⟨hcz87_0, hcz87_1⟩ := bc2 (W := w83) BK248.out; obtain ⟨hfz87_0, hfz87_1⟩ := bf2 BK248.out; obtain ⟨Ao88, co88, eo88⟩ := Kd.S_slice HO247.out; subst eo88; obtain ⟨hcz89_0, hcz89_1⟩ := bc2 (W := w83) BK226.out; obtain ⟨hfz89_0, hfz89_1⟩ := bf2 BK226.out) | ((with_reducible refine gate_callee (f := 11) rfl ?_); refine goesL_ (some 28) rfl rfl Try.func11 (by kernel_rfl) rfl #[.agg #[.slice A1_0 l1_0.length c1_0, .slice A1_1 l1_1.length c1_1]] rfl (by (try simp only [List.map_toArray, List.map_cons, List.map_nil]); first | done | rfl | (simp only [List.length_drop, List.length_take]; rfl)) ?_; (with_reducible refine (laws_toCodeObj.calls k _ _ l1_0 _ _ l1_1 t249 t252 _ ?side1 ?side2 ?side3 ?side4 A23.out).mono ?_); (case side1 => exact Kd.C_below HR1_0.out (Bp HB)); (case side2 => exact HC1_0.out); (case side3 => exact Kd.C_below HR1_1.out (Bp HB)); (case side4 => exact HC1_1.out); rintro e w90 ⟨v250, v253, rfl, ho0, ho1, hb⟩; refine ⟨_, rfl, ?_⟩; have HO251 := Aside0.mk (Kd.R_lower (Kd.R_new' (Kd.R_new' (Kd.R_new' ho0 (Kd.R_lt (by (with_reducible repeat (first | apply Kd.R_alloc | apply Kd.R_drewN | apply Kd.R_drew)); exact (Kd.R_mono (RF (g := gb248) (Kd.R_types HO231.out BK248.out (by decide)) (fun _ hk => hk.2)) (fun _ h_ => h_.1))))) (Kd.R_lt (by (with_reducible repeat (first | apply Kd.R_alloc | apply Kd.R_drewN | apply Kd.R_drew)); exact (Kd.R_mono (RF (g := gb248) (Kd.R_types HO237.out BK248.out (by decide)) (fun _ hk => hk.2)) (fun _ h_ => h_.1))))) (Kd.R_lt (by (with_reducible repeat (first | apply Kd.R_alloc | apply Kd.R_drewN | apply Kd.R_drew)); exact (Kd.R_mono (RF (g := gb248) (Kd.R_types HO244.out BK248.out (by decide)) (fun _ hk => hk.2)) (fun _ h_ => h_.1))))) (below_size (Bp HB))); replace HO231 := Aside0.mk (Kd.R_elder' (by (with_reducible repeat (first | apply Kd.R_alloc | apply Kd.R_drewN | apply Kd.R_drew)); exact (Kd.R_mono (RF (g := gb248) (Kd.R_types HO231.out BK248.out (by decide)) (fun _ hk => hk.2)) (fun _ h_ => h_.1))) (Kd.R_base ho0) hb); replace HO237 := Aside0.mk (Kd.R_elder' (by (with_reducible repeat (first | apply Kd.R_alloc | apply Kd.R_drewN | apply Kd.R_drew)); exact (Kd.R_mono (RF (g := gb248) (Kd.R_types HO237.out BK248.out (by decide)) (fun _ hk => hk.2)) (fun _ h_ => h_.1))) (Kd.R_base ho0) hb); replace HO244 := Aside0.mk (Kd.R_elder' (by (with_reducible repeat (first | apply Kd.R_alloc | apply Kd.R_drewN | apply Kd.R_drew)); exact (Kd.R_mono (RF (g := gb248) (Kd.R_types HO244.out BK248.out (by decide)) (fun _ hk => hk.2)) (fun _ h_ => h_.1))) (Kd.R_base ho0) hb); have HO254 := Aside0.mk (Kd.S_lower (Kd.S_new' (Kd.S_new' (Kd.S_new' ho1 (Kd.S_lt (by (with_reducible repeat (first | apply Kd.S_alloc | apply Kd.S_drewN | apply Kd.S_drew)); exact (Kd.S_mono (SF (g := gb248) (Kd.S_types HO234.out BK248.out (by decide)) (fun _ hk => hk.2)) (fun _ h_ => h_.1))))) (Kd.S_lt (by (with_reducible repeat (first | apply Kd.S_alloc | apply Kd.S_drewN | apply Kd.S_drew)); exact (Kd.S_mono (SF (g := gb248) (Kd.S_types HO240.out BK248.out (by decide)) (fun _ hk => hk.2)) (fun _ h_ => h_.1))))) (Kd.S_lt (by (with_reducible repeat (first | apply Kd.S_alloc | apply Kd.S_drewN | apply Kd.S_drew)); exact (Kd.S_mono (SF (g := gb248) (Kd.S_types HO247.out BK248.out (by decide)) (fun _ hk => hk.2)) (fun _ h_ => h_.1))))) (below_size (Bp HB))); replace HO234 := Aside0.mk (Kd.S_elder' (by (with_reducible repeat (first | apply Kd.S_alloc | apply Kd.S_drewN | apply Kd.S_drew)); exact (Kd.S_mono (SF (g := gb248) (Kd.S_types HO234.out BK248.out (by decide)) (fun _ hk => hk.2)) (fun _ h_ => h_.1))) (Kd.S_base ho1) hb); replace HO240 := Aside0.mk (Kd.S_elder' (by (with_reducible repeat (first | apply Kd.S_alloc | apply Kd.S_drewN | apply Kd.S_drew)); exact (Kd.S_mono (SF (g := gb248) (Kd.S_types HO240.out BK248.out (by decide)) (fun _ hk => hk.2)) (fun _ h_ => h_.1))) (Kd.S_base ho1) hb); replace HO247 := Aside0.mk (Kd.S_elder' (by (with_reducible repeat (first | apply Kd.S_alloc | apply Kd.S_drewN | apply Kd.S_drew)); exact (Kd.S_mono (SF (g := gb248) (Kd.S_types HO247.out BK248.out (by decide)) (fun _ hk => hk.2)) (fun _ h_ => h_.1))) (Kd.S_base ho1) hb); replace BK225 := Aside0.mk (blk_below (Kf BK225) hb); replace BK226 := Aside0.mk (blk_below (Kf BK226) hb); replace BK248 := Aside0.mk (blk_below (g := gb248) (o := .cells #[.slice Ao84 t242.length co84, .slice Ao88 t245.length co88] 31 (0, 0)) (by (with_reducible repeat (first | refine blk_drewN ?_ _ | refine blk_drew ?_ | refine blk_alloc ?_ _)); refine blk_put (cs := #[.slice Ao84 t242.length co84, .slice none 0 0]) ?_ 1 _ rfl; (with_reducible repeat (first | refine blk_drewN ?_ _ | refine blk_drew ?_ | refine blk_alloc ?_ _)); refine blk_put (cs := #[.slice none 0 0, .slice none 0 0]) ?_ 0 _ rfl; (with_reducible repeat (first | refine blk_drewN ?_ _ | refine blk_drew ?_ | refine blk_alloc ?_ _)); exact BK248.out) hb); replace HB := Bs HB hb; (try clear hb); (try clear hb2); (try clear hk); (try clear hi); (try clear ho0); (try clear ho1)) | ((with_reducible refine gate_dst (N := 8) rfl ?_); refine box_event ?hg (N := 8) ?hd (cs := #[.slice none 0 0, .slice none 0 0]) (t := 31) ?hr ?_; (case hd => rfl); (case hg => rfl); (case hr => first | (go_simp; done) | (go_simp; rfl)); intro gb255 hg w91 hbox hb; replace HO231 := Rb HO231 hb; replace HO234 := Aside0.mk (Kd.S_below (Sp HO234) hb); replace HO237 := Rb HO237 hb; replace HO240 := Aside0.mk (Kd.S_below (Sp HO240) hb); replace HO244 := Rb HO244 hb; replace HO247 := Aside0.mk (Kd.S_below (Sp HO247) hb); replace HO251 := Rb HO251 hb; replace HO254 := Aside0.mk (Kd.S_below (Sp HO254) hb); have BK255 := Aside0.mk (hbox); have GW255 := Aside0.mk ((by rw [hg]; exact (below_size (Bp HB)) : w.heap.size ≤ gb255)); have GE255 := Aside0.mk ((by rw [hg]; exact (below_size (Bp HB)) : w.heap.size ≤ gb255)); replace HB := Bs HB hb; have NB225_255 := Aside0.mk ((by rw [hg]; exact Nat.ne_of_lt (blk_lt (Kp BK225)) : gb225 ≠ gb255)); have NB255_225 := Aside0.mk ((by rw [hg]; exact Nat.ne_of_gt (blk_lt (Kp BK225)) : gb255 ≠ gb225)); replace BK225 := Kb BK225 hb; have NB226_255 := Aside0.mk ((by rw [hg]; exact Nat.ne_of_lt (blk_lt (Kp BK226)) : gb226 ≠ gb255)); have NB255_226 := Aside0.mk ((by rw [hg]; exact Nat.ne_of_gt (blk_lt (Kp BK226)) : gb255 ≠ gb226)); replace BK226 := Kb BK226 hb; have NB248_255 := Aside0.mk ((by rw [hg]; exact Nat.ne_of_lt (blk_lt (Kp BK248)) : gb248 ≠ gb255)); have NB255_248 := Aside0.mk ((by rw [hg]; exact Nat.ne_of_gt (blk_lt (Kp BK248)) : gb255 ≠ gb248)); replace BK248 := Kb BK248 hb; clear hb hbox hg; obtain ⟨Ao92, co92, eo92⟩ := Kd.R_slice HO251.out; subst eo92; have hnb93 := NB255_225.out; have hnc93 := NB225_255.out; have hnb94 := NB255_226.out; have hnc94 := NB226_255.out; have hnb95 := NB255_248.out; have hnc95 := NB248_255.out; obtain ⟨hcz96_0, hcz96_1⟩ := bc2 (W := w91) BK255.out; obtain ⟨hfz96_0, hfz96_1⟩ := bf2 BK255.out; obtain ⟨Ao97, co97, eo97⟩ := Kd.S_slice HO254.out; subst eo97; obtain ⟨hcz98_0, hcz98_1⟩ := bc2 (W := w91) BK248.out; obtain ⟨hfz98_0, hfz98_1⟩ := bf2 BK248.out) | ((with_reducible refine gate_callee (f := 12) rfl ?_); refine goesL_ (some 31) rfl rfl Try.func12 (by kernel_rfl) rfl #[.agg #[.slice Ao84 t242.length co84, .slice Ao88 t245.length co88], .agg #[.slice Ao92 t249.length co92, .slice Ao97 t252.length co97]] rfl (by (try simp only [List.map_toArray, List.map_cons, List.map_nil]); first | done | rfl | (simp only [List.length_drop, List.length_take]; rfl)) ?_; (with_reducible refine (impl_CodeSame.calls k _ _ t242 _ _ t245 _ _ t249 _ _ t252 t256 _ ?side1 ?side2 ?side3 ?side4 ?side5 ?side6 ?side7 ?side8 A24.out).mono ?_); (case side1 => refine (Kd.R_reads' (e := 70) (base := w.heap.size) (ok := fun k_ => (((True ∧ some k_ ≠ (.slice Ao76 t229.length co76 : Value).ownBlock) ∧ some k_ ≠ (.slice Ao78 t235.length co78 : Value).ownBlock) ∧ some k_ ≠ (.slice Ao92 t249.length co92 : Value).ownBlock)) (n := t242.length) (c := co84) ?_).2.2; exact (by (with_reducible repeat (first | apply Kd.R_alloc | apply Kd.R_drewN | apply Kd.R_drew)); exact (Kd.R_mono (RF (g := gb255) (Kd.R_types HO244.out BK255.out (by decide)) (fun _ hk => hk.2)) (fun _ h_ => h_.1)))); (case side2 => exact (Kd.R_reads' HO244.out).2.1); (case side3 => refine (Kd.S_reads' (e := 74) (base := w.heap.size) (ok := fun k_ => (((True ∧ some k_ ≠ (.slice Ao77 t232.length co77 : Value).ownBlock) ∧ some k_ ≠ (.slice Ao79 t238.length co79 : Value).ownBlock) ∧ some k_ ≠ (.slice Ao97 t252.length co97 : Value).ownBlock)) (n := t245.length) (c := co88) ?_).2.2; exact (by (with_reducible repeat (first | apply Kd.S_alloc | apply Kd.S_drewN | apply Kd.S_drew)); exact (Kd.S_mono (SF (g := gb255) (Kd.S_types HO247.out BK255.out (by decide)) (fun _ hk => hk.2)) (fun _ h_ => h_.1)))); (case side4 => exact (Kd.S_reads' HO247.out).2.1); (case side5 => refine (Kd.R_reads' (e := 70) (base := w.heap.size) (ok := fun k_ => (((True ∧ some k_ ≠ (.slice Ao76 t229.length co76 : Value).ownBlock) ∧ some k_ ≠ (.slice Ao78 t235.length co78 : Value).ownBlock) ∧ some k_ ≠ (.slice Ao84 t242.length co84 : Value).ownBlock)) (n := t249.length) (c := co92) ?_).2.2; exact (by (with_reducible repeat (first | apply Kd.R_alloc | apply Kd.R_drewN | apply Kd.R_drew)); exact (Kd.R_mono (RF (g := gb255) (Kd.R_types HO251.out BK255.out (by decide)) (fun _ hk => hk.2)) (fun _ h_ => h_.1)))); (case side6 => exact (Kd.R_reads' HO251.out).2.1); (case side7 => refine (Kd.S_reads' (e := 74) (base := w.heap.size) (ok := fun k_ => (((True ∧ some k_ ≠ (.slice Ao77 t232.length co77 : Value).ownBlock) ∧ some k_ ≠ (.slice Ao79 t238.length co79 : Value).ownBlock) ∧ some k_ ≠ (.slice Ao88 t245.length co88 : Value).ownBlock)) (n := t252.length) (c := co97) ?_).2.2; exact (by (with_reducible repeat (first | apply Kd.S_alloc | apply Kd.S_drewN | apply Kd.S_drew)); exact (Kd.S_mono (SF (g := gb255) (Kd.S_types HO254.out BK255.out (by decide)) (fun _ hk => hk.2)) (fun _ h_ => h_.1)))); (case side8 => exact (Kd.S_reads' HO254.out).2.1); rintro e w99 ⟨rfl, hb⟩; refine ⟨_, rfl, ?_⟩; replace HO231 := Aside0.mk (Kd.R_below (by (with_reducible repeat (first | apply Kd.R_alloc | apply Kd.R_drewN | apply Kd.R_drew)); exact (Kd.R_mono (RF (g := gb255) (Kd.R_types HO231.out BK255.out (by decide)) (fun _ hk => hk.2)) (fun _ h_ => h_.1))) hb); replace HO234 := Aside0.mk (Kd.S_below (by (with_reducible repeat (first | apply Kd.S_alloc | apply Kd.S_drewN | apply Kd.S_drew)); exact (Kd.S_mono (SF (g := gb255) (Kd.S_types HO234.out BK255.out (by decide)) (fun _ hk => hk.2)) (fun _ h_ => h_.1))) hb); replace HO237 := Aside0.mk (Kd.R_below (by (with_reducible repeat (first | apply Kd.R_alloc | apply Kd.R_drewN | apply Kd.R_drew)); exact (Kd.R_mono (RF (g := gb255) (Kd.R_types HO237.out BK255.out (by decide)) (fun _ hk => hk.2)) (fun _ h_ => h_.1))) hb); replace HO240 := Aside0.mk (Kd.S_below (by (with_reducible repeat (first | apply Kd.S_alloc | apply Kd.S_drewN | apply Kd.S_drew)); exact (Kd.S_mono (SF (g := gb255) (Kd.S_types HO240.out BK255.out (by decide)) (fun _ hk => hk.2)) (fun _ h_ => h_.1))) hb); replace HO244 := Aside0.mk (Kd.R_below (by (with_reducible repeat (first | apply Kd.R_alloc | apply Kd.R_drewN | apply Kd.R_drew)); exact (Kd.R_mono (RF (g := gb255) (Kd.R_types HO244.out BK255.out (by decide)) (fun _ hk => hk.2)) (fun _ h_ => h_.1))) hb); replace HO247 := Aside0.mk (Kd.S_below (by (with_reducible repeat (first | apply Kd.S_alloc | apply Kd.S_drewN | apply Kd.S_drew)); exact (Kd.S_mono (SF (g := gb255) (Kd.S_types HO247.out BK255.out (by decide)) (fun _ hk => hk.2)) (fun _ h_ => h_.1))) hb); replace HO251 := Aside0.mk (Kd.R_below (by (with_reducible repeat (first | apply Kd.R_alloc | apply Kd.R_drewN | apply Kd.R_drew)); exact (Kd.R_mono (RF (g := gb255) (Kd.R_types HO251.out BK255.out (by decide)) (fun _ hk => hk.2)) (fun _ h_ => h_.1))) hb); replace HO254 := Aside0.mk (Kd.S_below (by (with_reducible repeat (first | apply Kd.S_alloc | apply Kd.S_drewN | apply Kd.S_drew)); exact (Kd.S_mono (SF (g := gb255) (Kd.S_types HO254.out BK255.out (by decide)) (fun _ hk => hk.2)) (fun _ h_ => h_.1))) hb); replace BK225 := Aside0.mk (blk_below (Kf BK225) hb); replace BK226 := Aside0.mk (blk_below (Kf BK226) hb); replace BK248 := Aside0.mk (blk_below (Kf BK248) hb); replace BK255 := Aside0.mk (blk_below (g := gb255) (o := .cells #[.slice Ao92 t249.length co92, .slice Ao97 t252.length co97] 31 (0, 0)) (by (with_reducible repeat (first | refine blk_drewN ?_ _ | refine blk_drew ?_ | refine blk_alloc ?_ _)); refine blk_put (cs := #[.slice Ao92 t249.length co92, .slice none 0 0]) ?_ 1 _ rfl; (with_reducible repeat (first | refine blk_drewN ?_ _ | refine blk_drew ?_ | refine blk_alloc ?_ _)); refine blk_put (cs := #[.slice none 0 0, .slice none 0 0]) ?_ 0 _ rfl; (with_reducible repeat (first | refine blk_drewN ?_ _ | refine blk_drew ?_ | refine blk_alloc ?_ _)); exact BK255.out) hb); replace HB := Bs HB hb; (try clear hb); (try clear hb2); (try clear hk); (try clear hi)))
            replace HO231 := Aside0.mk (Kd.R_drew HO231.out)
            replace HO234 := Aside0.mk (Kd.S_drew HO234.out)
            replace HO237 := Aside0.mk (Kd.R_drew HO237.out)
            replace HO240 := Aside0.mk (Kd.S_drew HO240.out)
            replace HO244 := Aside0.mk (Kd.R_drew HO244.out)
            replace HO247 := Aside0.mk (Kd.S_drew HO247.out)
            replace HO251 := Aside0.mk (Kd.R_drew HO251.out)
            replace HO254 := Aside0.mk (Kd.S_drew HO254.out)
            replace BK225 := Aside0.mk (blk_drew BK225.out)
            replace BK226 := Aside0.mk (blk_drew BK226.out)
            replace BK248 := Aside0.mk (blk_drew BK248.out)
            replace BK255 := Aside0.mk (blk_drew BK255.out)
            replace HB := Aside0.mk (below_drew1 HB.out)
            refine start_ (n := 5) (S := fun w' => w'.cell? ⟨gb248, 0, none⟩ = some (.slice Ao84 t242.length co84) ∧ w'.cell? ⟨gb248, 1, none⟩ = some (.slice Ao88 t245.length co88) ∧ w'.cell? ⟨gb225, 0, none⟩ = some (.slice A0_0 l0_0.length c0_0) ∧ w'.cell? ⟨gb225, 1, none⟩ = some (.slice A0_1 l0_1.length c0_1)) (ds := []) #[false, false, false, false, false] (by kernel_rfl) rfl rfl ⟨(blk_cell BK248.out 0).trans rfl, (blk_cell BK248.out 1).trans rfl, (blk_cell BK225.out 0).trans rfl, (blk_cell BK225.out 1).trans rfl⟩ (fun hHeld => ?_)
            generalize w99.drew = w100 at HO231 HO234 HO237 HO240 HO244 HO247 HO251 HO254 BK225 BK226 BK248 BK255 HB hHeld ⊢
            refine take_ (i := 0) (N := some 35) (v := ?_) (a' := ?_) #[true, false, false, false, false] rfl rfl (by kernel_rfl) (fun _ _ _ h => h) (Or.inl ⟨by rfl, ?_⟩) hHeld ?_ ?_
            rotate_left
            · rintro w' ⟨s0, s1, s2, s3⟩
              go_simp
              with_reducible rfl
            rotate_left
            · simp only [Act.put, List.setIfInBounds_toArray, List.set_cons_zero, List.set_cons_succ, i64_w, i32_w]
              rfl
            refine take_ (i := 1) (N := some 36) (v := ?_) (a' := ?_) #[true, true, false, false, false] rfl rfl (by kernel_rfl) (fun _ _ _ h => h) (Or.inl ⟨by rfl, ?_⟩) hHeld ?_ ?_
            rotate_left
            · rintro w' ⟨s0, s1, s2, s3⟩
              go_simp
              with_reducible rfl
            rotate_left
            · simp only [Act.put, List.setIfInBounds_toArray, List.set_cons_zero, List.set_cons_succ, i64_w, i32_w]
              rfl
            refine one_ (i := 2) (N := some 37) #[true, true, true, false, false] rfl rfl (by kernel_rfl) (by decide) (fun K hK => ?_)
            refine goes_ Try.func11 (by kernel_rfl) rfl #[.agg #[.slice A0_0 l0_0.length c0_0, .slice A0_1 l0_1.length c0_1]] (by rfl) rfl rfl (by (try simp only [List.map_toArray, List.map_cons, List.map_nil]); first | done | rfl | (simp only [List.length_drop, List.length_take]; rfl)) ?_
            with_reducible refine (laws_toCodeObj.calls k _ _ l0_0 _ _ l0_1 t257 t260 _ ?side1 ?side2 ?side3 ?side4 A60.out).mono ?_
            (case side1 => exact Cb HR0_0 HB)
            (case side2 => exact HC0_0.out)
            (case side3 => exact Cb HR0_1 HB)
            (case side4 => exact HC0_1.out)
            rintro e w101 ⟨v258, v261, rfl, ho0, ho1, hb⟩
            refine ⟨_, rfl, ?_⟩
            have HO259 := Aside0.mk (Kd.R_lower (Kd.R_new' (Kd.R_new' (Kd.R_new' (Kd.R_new' ho0 (Rt HO231)) (Rt HO237)) (Rt HO244)) (Rt HO251)) (below_size (Bp HB)))
            replace HO231 := Aside0.mk (Re HO231 ho0 hb)
            replace HO237 := Aside0.mk (Re HO237 ho0 hb)
            replace HO244 := Aside0.mk (Re HO244 ho0 hb)
            replace HO251 := Aside0.mk (Re HO251 ho0 hb)
            have HO262 := Aside0.mk (Kd.S_lower (Kd.S_new' (Kd.S_new' (Kd.S_new' (Kd.S_new' ho1 (Kd.S_lt (Sp HO234))) (Kd.S_lt (Sp HO240))) (Kd.S_lt (Sp HO247))) (Kd.S_lt (Sp HO254))) (below_size (Bp HB)))
            replace HO234 := Aside0.mk (Kd.S_elder' (Sp HO234) (Kd.S_base ho1) hb)
            replace HO240 := Aside0.mk (Kd.S_elder' (Sp HO240) (Kd.S_base ho1) hb)
            replace HO247 := Aside0.mk (Kd.S_elder' (Sp HO247) (Kd.S_base ho1) hb)
            replace HO254 := Aside0.mk (Kd.S_elder' (Sp HO254) (Kd.S_base ho1) hb)
            replace BK225 := Kb BK225 hb
            replace BK226 := Kb BK226 hb
            replace BK248 := Kb BK248 hb
            replace BK255 := Kb BK255 hb
            replace HB := Bs HB hb
            (try clear hb)
            (try clear hb2)
            (try clear hk)
            (try clear hi)
            (try clear ho0)
            (try clear ho1)
            obtain ⟨Ao102, co102, eo102⟩ := Kd.R_slice HO259.out
            (first | subst eo102 | (injection eo102 with f1_ f2_ f3_; have f4_ := f1_.symm; have f5_ := f3_.symm; clear f1_ f2_ f3_; subst f4_; subst f5_))
            obtain ⟨Ao103, co103, eo103⟩ := Kd.S_slice HO262.out
            (first | subst eo103 | (injection eo103 with f1_ f2_ f3_; have f4_ := f1_.symm; have f5_ := f3_.symm; clear f1_ f2_ f3_; subst f4_; subst f5_))
            refine hK.out _ _ ⟨(blk_cell BK248.out 0).trans rfl, (blk_cell BK248.out 1).trans rfl, (blk_cell BK225.out 0).trans rfl, (blk_cell BK225.out 1).trans rfl⟩ (fun hHeld => ?_)
            clear hK K
            refine norm_ (a' := ?_) ?_ ?_
            rotate_left
            · show Act.put _ (some 37) _ = _
              simp only [Act.put, List.setIfInBounds_toArray, List.set_cons_zero, List.set_cons_succ, i64_w, i32_w]
              rfl
            refine one_ (i := 3) (N := some 38) #[true, true, true, true, false] rfl rfl (by kernel_rfl) (by decide) (fun K hK => ?_)
            refine goes_ Try.func13 (by kernel_rfl) rfl #[.agg #[.slice Ao84 t242.length co84, .slice Ao88 t245.length co88], .agg #[.slice Ao102 t257.length co102, .slice Ao103 t260.length co103]] (by rfl) rfl rfl (by (try simp only [List.map_toArray, List.map_cons, List.map_nil]); first | done | rfl | (simp only [List.length_drop, List.length_take]; rfl)) ?_
            with_reducible refine (laws_eqCodeObj.calls k _ _ t242 _ _ t245 _ _ t257 _ _ t260 true _ ?side1 ?side2 ?side3 ?side4 ?side5 ?side6 ?side7 ?side8 A61.out).mono ?_
            (case side1 => repeat (first | exact (Kd.R_reads' HO244.out).2.2 | (with_reducible refine Kd.C_alloc ?_ _) | (with_reducible refine Kd.C_drewN ?_ _) | (with_reducible refine Kd.C_drew ?_)))
            (case side2 => exact (Kd.R_reads' HO244.out).2.1)
            (case side3 => repeat (first | exact (Kd.S_reads' HO247.out).2.2 | (with_reducible refine Kd.C_alloc ?_ _) | (with_reducible refine Kd.C_drewN ?_ _) | (with_reducible refine Kd.C_drew ?_)))
            (case side4 => exact (Kd.S_reads' HO247.out).2.1)
            (case side5 => repeat (first | exact (Kd.R_reads' HO259.out).2.2 | (with_reducible refine Kd.C_alloc ?_ _) | (with_reducible refine Kd.C_drewN ?_ _) | (with_reducible refine Kd.C_drew ?_)))
            (case side6 => exact (Kd.R_reads' HO259.out).2.1)
            (case side7 => repeat (first | exact (Kd.S_reads' HO262.out).2.2 | (with_reducible refine Kd.C_alloc ?_ _) | (with_reducible refine Kd.C_drewN ?_ _) | (with_reducible refine Kd.C_drew ?_)))
            (case side8 => exact (Kd.S_reads' HO262.out).2.1)
            rintro e w104 ⟨rfl, hb⟩
            refine ⟨_, rfl, ?_⟩
            replace HO231 := Rb HO231 hb
            replace HO234 := Aside0.mk (Kd.S_below (Sp HO234) hb)
            replace HO237 := Rb HO237 hb
            replace HO240 := Aside0.mk (Kd.S_below (Sp HO240) hb)
            replace HO244 := Rb HO244 hb
            replace HO247 := Aside0.mk (Kd.S_below (Sp HO247) hb)
            replace HO251 := Rb HO251 hb
            replace HO254 := Aside0.mk (Kd.S_below (Sp HO254) hb)
            replace HO259 := Rb HO259 hb
            replace HO262 := Aside0.mk (Kd.S_below (Sp HO262) hb)
            replace BK225 := Kb BK225 hb
            replace BK226 := Kb BK226 hb
            replace BK248 := Kb BK248 hb
            replace BK255 := Kb BK255 hb
            replace HB := Bs HB hb
            (try clear hb)
            (try clear hb2)
            (try clear hk)
            (try clear hi)
            refine hK.out _ _ ⟨(blk_cell BK248.out 0).trans rfl, (blk_cell BK248.out 1).trans rfl, (blk_cell BK225.out 0).trans rfl, (blk_cell BK225.out 1).trans rfl⟩ (fun hHeld => ?_)
            clear hK K
            refine norm_ (a' := ?_) ?_ ?_
            rotate_left
            · show Act.put _ (some 38) _ = _
              simp only [Act.put, List.setIfInBounds_toArray, List.set_cons_zero, List.set_cons_succ, i64_w, i32_w]
              rfl
            refine pure_ (i := 4) (N := some 39) (v := ?_) (a' := ?_) #[true, true, true, true, true] rfl rfl (by kernel_rfl) (fun _ _ _ h => h) (Or.inl ⟨by rfl, ?_⟩) ?_ ?_
            rotate_left
            · intro w'
              go_simp
              with_reducible rfl
            rotate_left
            · simp only [Act.put, List.setIfInBounds_toArray, List.set_cons_zero, List.set_cons_succ, i64_w, i32_w]
              rfl
            refine done_ (by kernel_rfl) ?_
            try go_wp2
            replace HO231 := Aside0.mk (Kd.R_drew HO231.out)
            replace HO234 := Aside0.mk (Kd.S_drew HO234.out)
            replace HO237 := Aside0.mk (Kd.R_drew HO237.out)
            replace HO240 := Aside0.mk (Kd.S_drew HO240.out)
            replace HO244 := Aside0.mk (Kd.R_drew HO244.out)
            replace HO247 := Aside0.mk (Kd.S_drew HO247.out)
            replace HO251 := Aside0.mk (Kd.R_drew HO251.out)
            replace HO254 := Aside0.mk (Kd.S_drew HO254.out)
            replace HO259 := Aside0.mk (Kd.R_drew HO259.out)
            replace HO262 := Aside0.mk (Kd.S_drew HO262.out)
            replace BK225 := Aside0.mk (blk_drew BK225.out)
            replace BK226 := Aside0.mk (blk_drew BK226.out)
            replace BK248 := Aside0.mk (blk_drew BK248.out)
            replace BK255 := Aside0.mk (blk_drew BK255.out)
            replace HB := Aside0.mk (below_drew1 HB.out)
            refine start_ (n := 5) (S := fun w' => w'.cell? ⟨gb255, 0, none⟩ = some (.slice Ao92 t249.length co92) ∧ w'.cell? ⟨gb255, 1, none⟩ = some (.slice Ao97 t252.length co97) ∧ w'.cell? ⟨gb226, 0, none⟩ = some (.slice A1_0 l1_0.length c1_0) ∧ w'.cell? ⟨gb226, 1, none⟩ = some (.slice A1_1 l1_1.length c1_1)) (ds := []) #[false, false, false, false, false] (by kernel_rfl) rfl rfl ⟨(blk_cell BK255.out 0).trans rfl, (blk_cell BK255.out 1).trans rfl, (blk_cell BK226.out 0).trans rfl, (blk_cell BK226.out 1).trans rfl⟩ (fun hHeld => ?_)
            generalize w104.drew = w105 at HO231 HO234 HO237 HO240 HO244 HO247 HO251 HO254 HO259 HO262 BK225 BK226 BK248 BK255 HB hHeld ⊢
            refine take_ (i := 0) (N := some 40) (v := ?_) (a' := ?_) #[true, false, false, false, false] rfl rfl (by kernel_rfl) (fun _ _ _ h => h) (Or.inl ⟨by rfl, ?_⟩) hHeld ?_ ?_
            rotate_left
            · rintro w' ⟨s0, s1, s2, s3⟩
              go_simp
              with_reducible rfl
            rotate_left
            · simp only [Act.put, List.setIfInBounds_toArray, List.set_cons_zero, List.set_cons_succ, i64_w, i32_w]
              rfl
            refine take_ (i := 1) (N := some 41) (v := ?_) (a' := ?_) #[true, true, false, false, false] rfl rfl (by kernel_rfl) (fun _ _ _ h => h) (Or.inl ⟨by rfl, ?_⟩) hHeld ?_ ?_
            rotate_left
            · rintro w' ⟨s0, s1, s2, s3⟩
              go_simp
              with_reducible rfl
            rotate_left
            · simp only [Act.put, List.setIfInBounds_toArray, List.set_cons_zero, List.set_cons_succ, i64_w, i32_w]
              rfl
            refine one_ (i := 2) (N := some 42) #[true, true, true, false, false] rfl rfl (by kernel_rfl) (by decide) (fun K hK => ?_)
            refine goes_ Try.func11 (by kernel_rfl) rfl #[.agg #[.slice A1_0 l1_0.length c1_0, .slice A1_1 l1_1.length c1_1]] (by rfl) rfl rfl (by (try simp only [List.map_toArray, List.map_cons, List.map_nil]); first | done | rfl | (simp only [List.length_drop, List.length_take]; rfl)) ?_
            with_reducible refine (laws_toCodeObj.calls k _ _ l1_0 _ _ l1_1 t264 t267 _ ?side1 ?side2 ?side3 ?side4 A63.out).mono ?_
            (case side1 => exact Cb HR1_0 HB)
            (case side2 => exact HC1_0.out)
            (case side3 => exact Cb HR1_1 HB)
            (case side4 => exact HC1_1.out)
            rintro e w106 ⟨v265, v268, rfl, ho0, ho1, hb⟩
            refine ⟨_, rfl, ?_⟩
            have HO266 := Aside0.mk (Kd.R_lower (Kd.R_new' (Kd.R_new' (Kd.R_new' (Kd.R_new' (Kd.R_new' ho0 (Rt HO231)) (Rt HO237)) (Rt HO244)) (Rt HO251)) (Rt HO259)) (below_size (Bp HB)))
            replace HO231 := Aside0.mk (Re HO231 ho0 hb)
            replace HO237 := Aside0.mk (Re HO237 ho0 hb)
            replace HO244 := Aside0.mk (Re HO244 ho0 hb)
            replace HO251 := Aside0.mk (Re HO251 ho0 hb)
            replace HO259 := Aside0.mk (Re HO259 ho0 hb)
            have HO269 := Aside0.mk (Kd.S_lower (Kd.S_new' (Kd.S_new' (Kd.S_new' (Kd.S_new' (Kd.S_new' ho1 (Kd.S_lt (Sp HO234))) (Kd.S_lt (Sp HO240))) (Kd.S_lt (Sp HO247))) (Kd.S_lt (Sp HO254))) (Kd.S_lt (Sp HO262))) (below_size (Bp HB)))
            replace HO234 := Aside0.mk (Kd.S_elder' (Sp HO234) (Kd.S_base ho1) hb)
            replace HO240 := Aside0.mk (Kd.S_elder' (Sp HO240) (Kd.S_base ho1) hb)
            replace HO247 := Aside0.mk (Kd.S_elder' (Sp HO247) (Kd.S_base ho1) hb)
            replace HO254 := Aside0.mk (Kd.S_elder' (Sp HO254) (Kd.S_base ho1) hb)
            replace HO262 := Aside0.mk (Kd.S_elder' (Sp HO262) (Kd.S_base ho1) hb)
            replace BK225 := Kb BK225 hb
            replace BK226 := Kb BK226 hb
            replace BK248 := Kb BK248 hb
            replace BK255 := Kb BK255 hb
            replace HB := Bs HB hb
            (try clear hb)
            (try clear hb2)
            (try clear hk)
            (try clear hi)
            (try clear ho0)
            (try clear ho1)
            obtain ⟨Ao107, co107, eo107⟩ := Kd.R_slice HO266.out
            (first | subst eo107 | (injection eo107 with f1_ f2_ f3_; have f4_ := f1_.symm; have f5_ := f3_.symm; clear f1_ f2_ f3_; subst f4_; subst f5_))
            obtain ⟨Ao108, co108, eo108⟩ := Kd.S_slice HO269.out
            (first | subst eo108 | (injection eo108 with f1_ f2_ f3_; have f4_ := f1_.symm; have f5_ := f3_.symm; clear f1_ f2_ f3_; subst f4_; subst f5_))
            refine hK.out _ _ ⟨(blk_cell BK255.out 0).trans rfl, (blk_cell BK255.out 1).trans rfl, (blk_cell BK226.out 0).trans rfl, (blk_cell BK226.out 1).trans rfl⟩ (fun hHeld => ?_)
            clear hK K
            refine norm_ (a' := ?_) ?_ ?_
            rotate_left
            · show Act.put _ (some 42) _ = _
              simp only [Act.put, List.setIfInBounds_toArray, List.set_cons_zero, List.set_cons_succ, i64_w, i32_w]
              rfl
            refine one_ (i := 3) (N := some 43) #[true, true, true, true, false] rfl rfl (by kernel_rfl) (by decide) (fun K hK => ?_)
            refine goes_ Try.func13 (by kernel_rfl) rfl #[.agg #[.slice Ao92 t249.length co92, .slice Ao97 t252.length co97], .agg #[.slice Ao107 t264.length co107, .slice Ao108 t267.length co108]] (by rfl) rfl rfl (by (try simp only [List.map_toArray, List.map_cons, List.map_nil]); first | done | rfl | (simp only [List.length_drop, List.length_take]; rfl)) ?_
            with_reducible refine (laws_eqCodeObj.calls k _ _ t249 _ _ t252 _ _ t264 _ _ t267 true _ ?side1 ?side2 ?side3 ?side4 ?side5 ?side6 ?side7 ?side8 A64.out).mono ?_
            (case side1 => repeat (first | exact (Kd.R_reads' HO251.out).2.2 | (with_reducible refine Kd.C_alloc ?_ _) | (with_reducible refine Kd.C_drewN ?_ _) | (with_reducible refine Kd.C_drew ?_)))
            (case side2 => exact (Kd.R_reads' HO251.out).2.1)
            (case side3 => repeat (first | exact (Kd.S_reads' HO254.out).2.2 | (with_reducible refine Kd.C_alloc ?_ _) | (with_reducible refine Kd.C_drewN ?_ _) | (with_reducible refine Kd.C_drew ?_)))
            (case side4 => exact (Kd.S_reads' HO254.out).2.1)
            (case side5 => repeat (first | exact (Kd.R_reads' HO266.out).2.2 | (with_reducible refine Kd.C_alloc ?_ _) | (with_reducible refine Kd.C_drewN ?_ _) | (with_reducible refine Kd.C_drew ?_)))
            (case side6 => exact (Kd.R_reads' HO266.out).2.1)
            (case side7 => repeat (first | exact (Kd.S_reads' HO269.out).2.2 | (with_reducible refine Kd.C_alloc ?_ _) | (with_reducible refine Kd.C_drewN ?_ _) | (with_reducible refine Kd.C_drew ?_)))
            (case side8 => exact (Kd.S_reads' HO269.out).2.1)
            rintro e w109 ⟨rfl, hb⟩
            refine ⟨_, rfl, ?_⟩
            replace HO231 := Rb HO231 hb
            replace HO234 := Aside0.mk (Kd.S_below (Sp HO234) hb)
            replace HO237 := Rb HO237 hb
            replace HO240 := Aside0.mk (Kd.S_below (Sp HO240) hb)
            replace HO244 := Rb HO244 hb
            replace HO247 := Aside0.mk (Kd.S_below (Sp HO247) hb)
            replace HO251 := Rb HO251 hb
            replace HO254 := Aside0.mk (Kd.S_below (Sp HO254) hb)
            replace HO259 := Rb HO259 hb
            replace HO262 := Aside0.mk (Kd.S_below (Sp HO262) hb)
            replace HO266 := Rb HO266 hb
            replace HO269 := Aside0.mk (Kd.S_below (Sp HO269) hb)
            replace BK225 := Kb BK225 hb
            replace BK226 := Kb BK226 hb
            replace BK248 := Kb BK248 hb
            replace BK255 := Kb BK255 hb
            replace HB := Bs HB hb
            (try clear hb)
            (try clear hb2)
            (try clear hk)
            (try clear hi)
            refine hK.out _ _ ⟨(blk_cell BK255.out 0).trans rfl, (blk_cell BK255.out 1).trans rfl, (blk_cell BK226.out 0).trans rfl, (blk_cell BK226.out 1).trans rfl⟩ (fun hHeld => ?_)
            clear hK K
            refine norm_ (a' := ?_) ?_ ?_
            rotate_left
            · show Act.put _ (some 43) _ = _
              simp only [Act.put, List.setIfInBounds_toArray, List.set_cons_zero, List.set_cons_succ, i64_w, i32_w]
              rfl
            refine pure_ (i := 4) (N := some 44) (v := ?_) (a' := ?_) #[true, true, true, true, true] rfl rfl (by kernel_rfl) (fun _ _ _ h => h) (Or.inl ⟨by rfl, ?_⟩) ?_ ?_
            rotate_left
            · intro w'
              go_simp
              with_reducible rfl
            rotate_left
            · simp only [Act.put, List.setIfInBounds_toArray, List.set_cons_zero, List.set_cons_succ, i64_w, i32_w]
              rfl
            refine done_ (by kernel_rfl) ?_
            try go_wp2
            go_ret
            exact ⟨by first | rfl | (simp [errW_none, errW_some] <;> rfl) | (simp [*, errW_none, errW_some] <;> rfl), Bp HB⟩
          · replace c65 := Bool.eq_false_iff.mpr c65
            subst c65
            have H1 : (some false) = some r := by rw [if_neg (show ¬ (false = true) by decide)] at H; exact H
            clear H
            have H := H1
            clear H1
            obtain rfl := Option.some.inj H
            go_enter Try.func3, Try.ntmps3
            try go_wp2_with (first | ((with_reducible refine gate_dst (N := 2) rfl ?_); refine box_event ?hg (N := 2) ?hd (cs := #[.slice A0_0 l0_0.length c0_0, .slice A0_1 l0_1.length c0_1]) (t := 25) ?hr ?_; (case hd => rfl); (case hg => rfl); (case hr => first | (go_simp; done) | (go_simp; rfl)); intro gb225 hg w110 hbox hb; have BK225 := Aside0.mk (hbox); have GW225 := Aside0.mk ((by rw [hg]; exact (below_size (Bp HB)) : w.heap.size ≤ gb225)); have GE225 := Aside0.mk ((by rw [hg]; exact (below_size (Bp HB)) : w.heap.size ≤ gb225)); replace HB := Bs HB hb; clear hb hbox hg) | ((with_reducible refine gate_dst (N := 3) rfl ?_); refine box_event ?hg (N := 3) ?hd (cs := #[.slice A1_0 l1_0.length c1_0, .slice A1_1 l1_1.length c1_1]) (t := 25) ?hr ?_; (case hd => rfl); (case hg => rfl); (case hr => first | (go_simp; done) | (go_simp; rfl)); intro gb226 hg w111 hbox hb; have BK226 := Aside0.mk (hbox); have GW226 := Aside0.mk ((by rw [hg]; exact (below_size (Bp HB)) : w.heap.size ≤ gb226)); have GE226 := Aside0.mk ((by rw [hg]; exact (below_size (Bp HB)) : w.heap.size ≤ gb226)); replace HB := Bs HB hb; have NB225_226 := Aside0.mk ((by rw [hg]; exact Nat.ne_of_lt (blk_lt (Kp BK225)) : gb225 ≠ gb226)); have NB226_225 := Aside0.mk ((by rw [hg]; exact Nat.ne_of_gt (blk_lt (Kp BK225)) : gb226 ≠ gb225)); replace BK225 := Kb BK225 hb; clear hb hbox hg; have hnb112 := NB225_226.out; have hnc112 := NB226_225.out; obtain ⟨hcz113_0, hcz113_1⟩ := bc2 (W := w111) BK225.out; obtain ⟨hfz113_0, hfz113_1⟩ := bf2 BK225.out) | ((with_reducible refine gate_callee (f := 9) rfl ?_); refine goesL_ (some 12) rfl rfl Try.func9 (by kernel_rfl) rfl #[.agg #[.slice A0_0 l0_0.length c0_0, .slice A0_1 l0_1.length c0_1], .int .i64 1048576] rfl (by (try simp only [List.map_toArray, List.map_cons, List.map_nil]); first | done | rfl | (simp only [List.length_drop, List.length_take]; rfl)) ?_; (with_reducible refine (laws_szCodeObj.calls k _ _ l0_0 _ _ l0_1 1048576 t227 _ ?side1 ?side2 ?side3 ?side4 A3.out).mono ?_); (case side1 => exact Cb HR0_0 HB); (case side2 => exact HC0_0.out); (case side3 => exact Cb HR0_1 HB); (case side4 => exact HC0_1.out); rintro e w114 ⟨rfl, hb⟩; refine ⟨_, rfl, ?_⟩; replace BK225 := Kb BK225 hb; replace BK226 := Kb BK226 hb; replace HB := Bs HB hb; (try clear hb); (try clear hb2); (try clear hk); (try clear hi); obtain ⟨hcz115_0, hcz115_1⟩ := bc2 (W := w114) BK226.out; obtain ⟨hfz115_0, hfz115_1⟩ := bf2 BK226.out) | ((with_reducible refine gate_callee (f := 9) rfl ?_); refine goesL_ (some 17) rfl rfl Try.func9 (by kernel_rfl) rfl #[.agg #[.slice A1_0 l1_0.length c1_0, .slice A1_1 l1_1.length c1_1], .int .i64 t227] rfl (by (try simp only [List.map_toArray, List.map_cons, List.map_nil]); first | done | rfl | (simp only [List.length_drop, List.length_take]; rfl)) ?_; (with_reducible refine (laws_szCodeObj.calls k _ _ l1_0 _ _ l1_1 t227 t228 _ ?side1 ?side2 ?side3 ?side4 A10.out).mono ?_); (case side1 => exact Cb HR1_0 HB); (case side2 => exact HC1_0.out); (case side3 => exact Cb HR1_1 HB); (case side4 => exact HC1_1.out); rintro e w116 ⟨rfl, hb⟩; refine ⟨_, rfl, ?_⟩; replace BK225 := Kb BK225 hb; replace BK226 := Kb BK226 hb; replace HB := Bs HB hb; (try clear hb); (try clear hb2); (try clear hk); (try clear hi)))
            replace BK225 := Aside0.mk (blk_drew BK225.out)
            replace BK226 := Aside0.mk (blk_drew BK226.out)
            replace HB := Aside0.mk (below_drew1 HB.out)
            refine start_ (n := 6) (S := fun w' => w'.cell? ⟨gb225, 0, none⟩ = some (.slice A0_0 l0_0.length c0_0) ∧ w'.cell? ⟨gb225, 1, none⟩ = some (.slice A0_1 l0_1.length c0_1) ∧ w'.cell? ⟨gb226, 0, none⟩ = some (.slice A1_0 l1_0.length c1_0) ∧ w'.cell? ⟨gb226, 1, none⟩ = some (.slice A1_1 l1_1.length c1_1)) (ds := []) #[false, false, false, false, false, false] (by kernel_rfl) rfl rfl ⟨(blk_cell BK225.out 0).trans rfl, (blk_cell BK225.out 1).trans rfl, (blk_cell BK226.out 0).trans rfl, (blk_cell BK226.out 1).trans rfl⟩ (fun hHeld => ?_)
            generalize w116.drew = w117 at BK225 BK226 HB hHeld ⊢
            refine take_ (i := 0) (N := some 20) (v := ?_) (a' := ?_) #[true, false, false, false, false, false] rfl rfl (by kernel_rfl) (fun _ _ _ h => h) (Or.inl ⟨by rfl, ?_⟩) hHeld ?_ ?_
            rotate_left
            · rintro w' ⟨s0, s1, s2, s3⟩
              go_simp
              with_reducible rfl
            rotate_left
            · simp only [Act.put, List.setIfInBounds_toArray, List.set_cons_zero, List.set_cons_succ, i64_w, i32_w]
              rfl
            refine take_ (i := 2) (N := some 22) (v := ?_) (a' := ?_) #[true, false, true, false, false, false] rfl rfl (by kernel_rfl) (fun _ _ _ h => h) (Or.inl ⟨by rfl, ?_⟩) hHeld ?_ ?_
            rotate_left
            · rintro w' ⟨s0, s1, s2, s3⟩
              go_simp
              with_reducible rfl
            rotate_left
            · simp only [Act.put, List.setIfInBounds_toArray, List.set_cons_zero, List.set_cons_succ, i64_w, i32_w]
              rfl
            refine one_ (i := 1) (N := some 21) #[true, true, true, false, false, false] rfl rfl (by kernel_rfl) (by decide) (fun K hK => ?_)
            refine goes_ Try.func11 (by kernel_rfl) rfl #[.agg #[.slice A0_0 l0_0.length c0_0, .slice A0_1 l0_1.length c0_1]] (by rfl) rfl rfl (by (try simp only [List.map_toArray, List.map_cons, List.map_nil]); first | done | rfl | (simp only [List.length_drop, List.length_take]; rfl)) ?_
            with_reducible refine (laws_toCodeObj.calls k _ _ l0_0 _ _ l0_1 t229 t232 _ ?side1 ?side2 ?side3 ?side4 A19.out).mono ?_
            (case side1 => exact Cb HR0_0 HB)
            (case side2 => exact HC0_0.out)
            (case side3 => exact Cb HR0_1 HB)
            (case side4 => exact HC0_1.out)
            rintro e w118 ⟨v230, v233, rfl, ho0, ho1, hb⟩
            refine ⟨_, rfl, ?_⟩
            have HO231 := Aside0.mk (Kd.R_lower ho0 (below_size (Bp HB)))
            have HO234 := Aside0.mk (Kd.S_lower ho1 (below_size (Bp HB)))
            replace BK225 := Kb BK225 hb
            replace BK226 := Kb BK226 hb
            replace HB := Bs HB hb
            (try clear hb)
            (try clear hb2)
            (try clear hk)
            (try clear hi)
            (try clear ho0)
            (try clear ho1)
            refine hK.out _ _ ⟨(blk_cell BK225.out 0).trans rfl, (blk_cell BK225.out 1).trans rfl, (blk_cell BK226.out 0).trans rfl, (blk_cell BK226.out 1).trans rfl⟩ (fun hHeld => ?_)
            clear hK K
            refine norm_ (a' := ?_) ?_ ?_
            rotate_left
            · show Act.put _ (some 21) _ = _
              simp only [Act.put, List.setIfInBounds_toArray, List.set_cons_zero, List.set_cons_succ, i64_w, i32_w]
              rfl
            refine one_ (i := 3) (N := some 23) #[true, true, true, true, false, false] rfl rfl (by kernel_rfl) (by decide) (fun K hK => ?_)
            refine goes_ Try.func11 (by kernel_rfl) rfl #[.agg #[.slice A1_0 l1_0.length c1_0, .slice A1_1 l1_1.length c1_1]] (by rfl) rfl rfl (by (try simp only [List.map_toArray, List.map_cons, List.map_nil]); first | done | rfl | (simp only [List.length_drop, List.length_take]; rfl)) ?_
            with_reducible refine (laws_toCodeObj.calls k _ _ l1_0 _ _ l1_1 t235 t238 _ ?side1 ?side2 ?side3 ?side4 A20.out).mono ?_
            (case side1 => exact Cb HR1_0 HB)
            (case side2 => exact HC1_0.out)
            (case side3 => exact Cb HR1_1 HB)
            (case side4 => exact HC1_1.out)
            rintro e w119 ⟨v236, v239, rfl, ho0, ho1, hb⟩
            refine ⟨_, rfl, ?_⟩
            have HO237 := Aside0.mk (Rl (Kd.R_new' ho0 (Rt HO231)) HB)
            replace HO231 := Aside0.mk (Re HO231 ho0 hb)
            have HO240 := Aside0.mk (Kd.S_lower (Kd.S_new' ho1 (Kd.S_lt (Sp HO234))) (below_size (Bp HB)))
            replace HO234 := Aside0.mk (Kd.S_elder' (Sp HO234) (Kd.S_base ho1) hb)
            replace BK225 := Kb BK225 hb
            replace BK226 := Kb BK226 hb
            replace HB := Bs HB hb
            (try clear hb)
            (try clear hb2)
            (try clear hk)
            (try clear hi)
            (try clear ho0)
            (try clear ho1)
            obtain ⟨Ao120, co120, eo120⟩ := Kd.R_slice HO231.out
            (first | subst eo120 | (injection eo120 with f1_ f2_ f3_; have f4_ := f1_.symm; have f5_ := f3_.symm; clear f1_ f2_ f3_; subst f4_; subst f5_))
            obtain ⟨Ao121, co121, eo121⟩ := Kd.S_slice HO234.out
            (first | subst eo121 | (injection eo121 with f1_ f2_ f3_; have f4_ := f1_.symm; have f5_ := f3_.symm; clear f1_ f2_ f3_; subst f4_; subst f5_))
            obtain ⟨Ao122, co122, eo122⟩ := Kd.R_slice HO237.out
            (first | subst eo122 | (injection eo122 with f1_ f2_ f3_; have f4_ := f1_.symm; have f5_ := f3_.symm; clear f1_ f2_ f3_; subst f4_; subst f5_))
            obtain ⟨Ao123, co123, eo123⟩ := Kd.S_slice HO240.out
            (first | subst eo123 | (injection eo123 with f1_ f2_ f3_; have f4_ := f1_.symm; have f5_ := f3_.symm; clear f1_ f2_ f3_; subst f4_; subst f5_))
            refine hK.out _ _ ⟨(blk_cell BK225.out 0).trans rfl, (blk_cell BK225.out 1).trans rfl, (blk_cell BK226.out 0).trans rfl, (blk_cell BK226.out 1).trans rfl⟩ (fun hHeld => ?_)
            clear hK K
            refine norm_ (a' := ?_) ?_ ?_
            rotate_left
            · show Act.put _ (some 23) _ = _
              simp only [Act.put, List.setIfInBounds_toArray, List.set_cons_zero, List.set_cons_succ, i64_w, i32_w]
              rfl
            refine one_ (i := 4) (N := some 24) #[true, true, true, true, true, false] rfl rfl (by kernel_rfl) (by decide) (fun K hK => ?_)
            refine goes_ Try.func10 (by kernel_rfl) rfl #[.agg #[.slice Ao120 t229.length co120, .slice Ao121 t232.length co121], .agg #[.slice Ao122 t235.length co122, .slice Ao123 t238.length co123]] (by rfl) rfl rfl (by (try simp only [List.map_toArray, List.map_cons, List.map_nil]); first | done | rfl | (simp only [List.length_drop, List.length_take]; rfl)) ?_
            with_reducible refine (spec_CodeSame.calls k _ _ t229 _ _ t232 _ _ t235 _ _ t238 t241 _ ?side1 ?side2 ?side3 ?side4 ?side5 ?side6 ?side7 ?side8 A21.out).mono ?_
            (case side1 => repeat (first | exact (Kd.R_reads' HO231.out).2.2 | (with_reducible refine Kd.C_alloc ?_ _) | (with_reducible refine Kd.C_drewN ?_ _) | (with_reducible refine Kd.C_drew ?_)))
            (case side2 => exact (Kd.R_reads' HO231.out).2.1)
            (case side3 => repeat (first | exact (Kd.S_reads' HO234.out).2.2 | (with_reducible refine Kd.C_alloc ?_ _) | (with_reducible refine Kd.C_drewN ?_ _) | (with_reducible refine Kd.C_drew ?_)))
            (case side4 => exact (Kd.S_reads' HO234.out).2.1)
            (case side5 => repeat (first | exact (Kd.R_reads' HO237.out).2.2 | (with_reducible refine Kd.C_alloc ?_ _) | (with_reducible refine Kd.C_drewN ?_ _) | (with_reducible refine Kd.C_drew ?_)))
            (case side6 => exact (Kd.R_reads' HO237.out).2.1)
            (case side7 => repeat (first | exact (Kd.S_reads' HO240.out).2.2 | (with_reducible refine Kd.C_alloc ?_ _) | (with_reducible refine Kd.C_drewN ?_ _) | (with_reducible refine Kd.C_drew ?_)))
            (case side8 => exact (Kd.S_reads' HO240.out).2.1)
            rintro e w124 ⟨rfl, hb⟩
            refine ⟨_, rfl, ?_⟩
            replace HO231 := Rb HO231 hb
            replace HO234 := Aside0.mk (Kd.S_below (Sp HO234) hb)
            replace HO237 := Rb HO237 hb
            replace HO240 := Aside0.mk (Kd.S_below (Sp HO240) hb)
            replace BK225 := Kb BK225 hb
            replace BK226 := Kb BK226 hb
            replace HB := Bs HB hb
            (try clear hb)
            (try clear hb2)
            (try clear hk)
            (try clear hi)
            refine hK.out _ _ ⟨(blk_cell BK225.out 0).trans rfl, (blk_cell BK225.out 1).trans rfl, (blk_cell BK226.out 0).trans rfl, (blk_cell BK226.out 1).trans rfl⟩ (fun hHeld => ?_)
            clear hK K
            refine norm_ (a' := ?_) ?_ ?_
            rotate_left
            · show Act.put _ (some 24) _ = _
              simp only [Act.put, List.setIfInBounds_toArray, List.set_cons_zero, List.set_cons_succ, i64_w, i32_w]
              rfl
            refine pure_ (i := 5) (N := some 6) (v := ?_) (a' := ?_) #[true, true, true, true, true, true] rfl rfl (by kernel_rfl) (fun _ _ _ h => h) (Or.inl ⟨by rfl, ?_⟩) ?_ ?_
            rotate_left
            · intro w'
              go_simp
              with_reducible rfl
            rotate_left
            · simp only [Act.put, List.setIfInBounds_toArray, List.set_cons_zero, List.set_cons_succ, i64_w, i32_w]
              rfl
            refine done_ (by kernel_rfl) ?_
            obtain ⟨hcz125_0, hcz125_1⟩ := bc2 (W := w124) BK225.out
            obtain ⟨hfz125_0, hfz125_1⟩ := bf2 BK225.out
            try go_wp2_with (first | ((with_reducible refine gate_callee (f := 11) rfl ?_); refine goesL_ (some 26) rfl rfl Try.func11 (by kernel_rfl) rfl #[.agg #[.slice A0_0 l0_0.length c0_0, .slice A0_1 l0_1.length c0_1]] rfl (by (try simp only [List.map_toArray, List.map_cons, List.map_nil]); first | done | rfl | (simp only [List.length_drop, List.length_take]; rfl)) ?_; (with_reducible refine (laws_toCodeObj.calls k _ _ l0_0 _ _ l0_1 t242 t245 _ ?side1 ?side2 ?side3 ?side4 A22.out).mono ?_); (case side1 => exact Cb HR0_0 HB); (case side2 => exact HC0_0.out); (case side3 => exact Cb HR0_1 HB); (case side4 => exact HC0_1.out); rintro e w126 ⟨v243, v246, rfl, ho0, ho1, hb⟩; refine ⟨_, rfl, ?_⟩; have HO244 := Aside0.mk (Rl (Kd.R_new' (Kd.R_new' ho0 (Rt HO231)) (Rt HO237)) HB); replace HO231 := Aside0.mk (Re HO231 ho0 hb); replace HO237 := Aside0.mk (Re HO237 ho0 hb); have HO247 := Aside0.mk (Kd.S_lower (Kd.S_new' (Kd.S_new' ho1 (Kd.S_lt (Sp HO234))) (Kd.S_lt (Sp HO240))) (below_size (Bp HB))); replace HO234 := Aside0.mk (Kd.S_elder' (Sp HO234) (Kd.S_base ho1) hb); replace HO240 := Aside0.mk (Kd.S_elder' (Sp HO240) (Kd.S_base ho1) hb); replace BK225 := Kb BK225 hb; replace BK226 := Kb BK226 hb; replace HB := Bs HB hb; (try clear hb); (try clear hb2); (try clear hk); (try clear hi); (try clear ho0); (try clear ho1)) | ((with_reducible refine gate_dst (N := 7) rfl ?_); refine box_event ?hg (N := 7) ?hd (cs := #[.slice none 0 0, .slice none 0 0]) (t := 31) ?hr ?_; (case hd => rfl); (case hg => rfl); (case hr => first | (go_simp; done) | (go_simp; rfl)); intro gb248 hg w127 hbox hb; replace HO231 := Rb HO231 hb; replace HO234 := Aside0.mk (Kd.S_below (Sp HO234) hb); replace HO237 := Rb HO237 hb; replace HO240 := Aside0.mk (Kd.S_below (Sp HO240) hb); replace HO244 := Rb HO244 hb; replace HO247 := Aside0.mk (Kd.S_below (Sp HO247) hb); have BK248 := Aside0.mk (hbox); have GW248 := Aside0.mk ((by rw [hg]; exact (below_size (Bp HB)) : w.heap.size ≤ gb248)); have GE248 := Aside0.mk ((by rw [hg]; exact (below_size (Bp HB)) : w.heap.size ≤ gb248)); replace HB := Bs HB hb; have NB225_248 := Aside0.mk ((by rw [hg]; exact Nat.ne_of_lt (blk_lt (Kp BK225)) : gb225 ≠ gb248)); have NB248_225 := Aside0.mk ((by rw [hg]; exact Nat.ne_of_gt (blk_lt (Kp BK225)) : gb248 ≠ gb225)); replace BK225 := Kb BK225 hb; have NB226_248 := Aside0.mk ((by rw [hg]; exact Nat.ne_of_lt (blk_lt (Kp BK226)) : gb226 ≠ gb248)); have NB248_226 := Aside0.mk ((by rw [hg]; exact Nat.ne_of_gt (blk_lt (Kp BK226)) : gb248 ≠ gb226)); replace BK226 := Kb BK226 hb; clear hb hbox hg; obtain ⟨Ao128, co128, eo128⟩ := Kd.R_slice HO244.out; subst eo128; have hnb129 := NB248_225.out; have hnc129 := NB225_248.out; have hnb130 := NB248_226.out; have hnc130 := NB226_248.out; obtain ⟨hcz131_0, hcz131_1⟩ := bc2 (W := w127) BK248.out; obtain ⟨hfz131_0, hfz131_1⟩ := bf2 BK248.out; obtain ⟨Ao132, co132, eo132⟩ := Kd.S_slice HO247.out; subst eo132; obtain ⟨hcz133_0, hcz133_1⟩ := bc2 (W := w127) BK226.out; obtain ⟨hfz133_0, hfz133_1⟩ := bf2 BK226.out) | ((with_reducible refine gate_callee (f := 11) rfl ?_); refine goesL_ (some 28) rfl rfl Try.func11 (by kernel_rfl) rfl #[.agg #[.slice A1_0 l1_0.length c1_0, .slice A1_1 l1_1.length c1_1]] rfl (by (try simp only [List.map_toArray, List.map_cons, List.map_nil]); first | done | rfl | (simp only [List.length_drop, List.length_take]; rfl)) ?_; (with_reducible refine (laws_toCodeObj.calls k _ _ l1_0 _ _ l1_1 t249 t252 _ ?side1 ?side2 ?side3 ?side4 A23.out).mono ?_); (case side1 => exact Kd.C_below HR1_0.out (Bp HB)); (case side2 => exact HC1_0.out); (case side3 => exact Kd.C_below HR1_1.out (Bp HB)); (case side4 => exact HC1_1.out); rintro e w134 ⟨v250, v253, rfl, ho0, ho1, hb⟩; refine ⟨_, rfl, ?_⟩; have HO251 := Aside0.mk (Kd.R_lower (Kd.R_new' (Kd.R_new' (Kd.R_new' ho0 (Kd.R_lt (by (with_reducible repeat (first | apply Kd.R_alloc | apply Kd.R_drewN | apply Kd.R_drew)); exact (Kd.R_mono (RF (g := gb248) (Kd.R_types HO231.out BK248.out (by decide)) (fun _ hk => hk.2)) (fun _ h_ => h_.1))))) (Kd.R_lt (by (with_reducible repeat (first | apply Kd.R_alloc | apply Kd.R_drewN | apply Kd.R_drew)); exact (Kd.R_mono (RF (g := gb248) (Kd.R_types HO237.out BK248.out (by decide)) (fun _ hk => hk.2)) (fun _ h_ => h_.1))))) (Kd.R_lt (by (with_reducible repeat (first | apply Kd.R_alloc | apply Kd.R_drewN | apply Kd.R_drew)); exact (Kd.R_mono (RF (g := gb248) (Kd.R_types HO244.out BK248.out (by decide)) (fun _ hk => hk.2)) (fun _ h_ => h_.1))))) (below_size (Bp HB))); replace HO231 := Aside0.mk (Kd.R_elder' (by (with_reducible repeat (first | apply Kd.R_alloc | apply Kd.R_drewN | apply Kd.R_drew)); exact (Kd.R_mono (RF (g := gb248) (Kd.R_types HO231.out BK248.out (by decide)) (fun _ hk => hk.2)) (fun _ h_ => h_.1))) (Kd.R_base ho0) hb); replace HO237 := Aside0.mk (Kd.R_elder' (by (with_reducible repeat (first | apply Kd.R_alloc | apply Kd.R_drewN | apply Kd.R_drew)); exact (Kd.R_mono (RF (g := gb248) (Kd.R_types HO237.out BK248.out (by decide)) (fun _ hk => hk.2)) (fun _ h_ => h_.1))) (Kd.R_base ho0) hb); replace HO244 := Aside0.mk (Kd.R_elder' (by (with_reducible repeat (first | apply Kd.R_alloc | apply Kd.R_drewN | apply Kd.R_drew)); exact (Kd.R_mono (RF (g := gb248) (Kd.R_types HO244.out BK248.out (by decide)) (fun _ hk => hk.2)) (fun _ h_ => h_.1))) (Kd.R_base ho0) hb); have HO254 := Aside0.mk (Kd.S_lower (Kd.S_new' (Kd.S_new' (Kd.S_new' ho1 (Kd.S_lt (by (with_reducible repeat (first | apply Kd.S_alloc | apply Kd.S_drewN | apply Kd.S_drew)); exact (Kd.S_mono (SF (g := gb248) (Kd.S_types HO234.out BK248.out (by decide)) (fun _ hk => hk.2)) (fun _ h_ => h_.1))))) (Kd.S_lt (by (with_reducible repeat (first | apply Kd.S_alloc | apply Kd.S_drewN | apply Kd.S_drew)); exact (Kd.S_mono (SF (g := gb248) (Kd.S_types HO240.out BK248.out (by decide)) (fun _ hk => hk.2)) (fun _ h_ => h_.1))))) (Kd.S_lt (by (with_reducible repeat (first | apply Kd.S_alloc | apply Kd.S_drewN | apply Kd.S_drew)); exact (Kd.S_mono (SF (g := gb248) (Kd.S_types HO247.out BK248.out (by decide)) (fun _ hk => hk.2)) (fun _ h_ => h_.1))))) (below_size (Bp HB))); replace HO234 := Aside0.mk (Kd.S_elder' (by (with_reducible repeat (first | apply Kd.S_alloc | apply Kd.S_drewN | apply Kd.S_drew)); exact (Kd.S_mono (SF (g := gb248) (Kd.S_types HO234.out BK248.out (by decide)) (fun _ hk => hk.2)) (fun _ h_ => h_.1))) (Kd.S_base ho1) hb); replace HO240 := Aside0.mk (Kd.S_elder' (by (with_reducible repeat (first | apply Kd.S_alloc | apply Kd.S_drewN | apply Kd.S_drew)); exact (Kd.S_mono (SF (g := gb248) (Kd.S_types HO240.out BK248.out (by decide)) (fun _ hk => hk.2)) (fun _ h_ => h_.1))) (Kd.S_base ho1) hb); replace HO247 := Aside0.mk (Kd.S_elder' (by (with_reducible repeat (first | apply Kd.S_alloc | apply Kd.S_drewN | apply Kd.S_drew)); exact (Kd.S_mono (SF (g := gb248) (Kd.S_types HO247.out BK248.out (by decide)) (fun _ hk => hk.2)) (fun _ h_ => h_.1))) (Kd.S_base ho1) hb); replace BK225 := Aside0.mk (blk_below (Kf BK225) hb); replace BK226 := Aside0.mk (blk_below (Kf BK226) hb); replace BK248 := Aside0.mk (blk_below (g := gb248) (o := .cells #[.slice Ao128 t242.length co128, .slice Ao132 t245.length co132] 31 (0, 0)) (by (with_reducible repeat (first | refine blk_drewN ?_ _ | refine blk_drew ?_ | refine blk_alloc ?_ _)); refine blk_put (cs := #[.slice Ao128 t242.length co128, .slice none 0 0]) ?_ 1 _ rfl; (with_reducible repeat (first | refine blk_drewN ?_ _ | refine blk_drew ?_ | refine blk_alloc ?_ _)); refine blk_put (cs := #[.slice none 0 0, .slice none 0 0]) ?_ 0 _ rfl; (with_reducible repeat (first | refine blk_drewN ?_ _ | refine blk_drew ?_ | refine blk_alloc ?_ _)); exact BK248.out) hb); replace HB := Bs HB hb; (try clear hb); (try clear hb2); (try clear hk); (try clear hi); (try clear ho0); (try clear ho1)) | ((with_reducible refine gate_dst (N := 8) rfl ?_); refine box_event ?hg (N := 8) ?hd (cs := #[.slice none 0 0, .slice none 0 0]) (t := 31) ?hr ?_; (case hd => rfl); (case hg => rfl); (case hr => first | (go_simp; done) | (go_simp; rfl)); intro gb255 hg w135 hbox hb; replace HO231 := Rb HO231 hb; replace HO234 := Aside0.mk (Kd.S_below (Sp HO234) hb); replace HO237 := Rb HO237 hb; replace HO240 := Aside0.mk (Kd.S_below (Sp HO240) hb); replace HO244 := Rb HO244 hb; replace HO247 := Aside0.mk (Kd.S_below (Sp HO247) hb); replace HO251 := Rb HO251 hb; replace HO254 := Aside0.mk (Kd.S_below (Sp HO254) hb); have BK255 := Aside0.mk (hbox); have GW255 := Aside0.mk ((by rw [hg]; exact (below_size (Bp HB)) : w.heap.size ≤ gb255)); have GE255 := Aside0.mk ((by rw [hg]; exact (below_size (Bp HB)) : w.heap.size ≤ gb255)); replace HB := Bs HB hb; have NB225_255 := Aside0.mk ((by rw [hg]; exact Nat.ne_of_lt (blk_lt (Kp BK225)) : gb225 ≠ gb255)); have NB255_225 := Aside0.mk ((by rw [hg]; exact Nat.ne_of_gt (blk_lt (Kp BK225)) : gb255 ≠ gb225)); replace BK225 := Kb BK225 hb; have NB226_255 := Aside0.mk ((by rw [hg]; exact Nat.ne_of_lt (blk_lt (Kp BK226)) : gb226 ≠ gb255)); have NB255_226 := Aside0.mk ((by rw [hg]; exact Nat.ne_of_gt (blk_lt (Kp BK226)) : gb255 ≠ gb226)); replace BK226 := Kb BK226 hb; have NB248_255 := Aside0.mk ((by rw [hg]; exact Nat.ne_of_lt (blk_lt (Kp BK248)) : gb248 ≠ gb255)); have NB255_248 := Aside0.mk ((by rw [hg]; exact Nat.ne_of_gt (blk_lt (Kp BK248)) : gb255 ≠ gb248)); replace BK248 := Kb BK248 hb; clear hb hbox hg; obtain ⟨Ao136, co136, eo136⟩ := Kd.R_slice HO251.out; subst eo136; have hnb137 := NB255_225.out; have hnc137 := NB225_255.out; have hnb138 := NB255_226.out; have hnc138 := NB226_255.out; have hnb139 := NB255_248.out; have hnc139 := NB248_255.out; obtain ⟨hcz140_0, hcz140_1⟩ := bc2 (W := w135) BK255.out; obtain ⟨hfz140_0, hfz140_1⟩ := bf2 BK255.out; obtain ⟨Ao141, co141, eo141⟩ := Kd.S_slice HO254.out; subst eo141; obtain ⟨hcz142_0, hcz142_1⟩ := bc2 (W := w135) BK248.out; obtain ⟨hfz142_0, hfz142_1⟩ := bf2 BK248.out) | ((with_reducible refine gate_callee (f := 12) rfl ?_); refine goesL_ (some 31) rfl rfl Try.func12 (by kernel_rfl) rfl #[.agg #[.slice Ao128 t242.length co128, .slice Ao132 t245.length co132], .agg #[.slice Ao136 t249.length co136, .slice Ao141 t252.length co141]] rfl (by (try simp only [List.map_toArray, List.map_cons, List.map_nil]); first | done | rfl | (simp only [List.length_drop, List.length_take]; rfl)) ?_; (with_reducible refine (impl_CodeSame.calls k _ _ t242 _ _ t245 _ _ t249 _ _ t252 t256 _ ?side1 ?side2 ?side3 ?side4 ?side5 ?side6 ?side7 ?side8 A24.out).mono ?_); (case side1 => refine (Kd.R_reads' (e := 70) (base := w.heap.size) (ok := fun k_ => (((True ∧ some k_ ≠ (.slice Ao120 t229.length co120 : Value).ownBlock) ∧ some k_ ≠ (.slice Ao122 t235.length co122 : Value).ownBlock) ∧ some k_ ≠ (.slice Ao136 t249.length co136 : Value).ownBlock)) (n := t242.length) (c := co128) ?_).2.2; exact (by (with_reducible repeat (first | apply Kd.R_alloc | apply Kd.R_drewN | apply Kd.R_drew)); exact (Kd.R_mono (RF (g := gb255) (Kd.R_types HO244.out BK255.out (by decide)) (fun _ hk => hk.2)) (fun _ h_ => h_.1)))); (case side2 => exact (Kd.R_reads' HO244.out).2.1); (case side3 => refine (Kd.S_reads' (e := 74) (base := w.heap.size) (ok := fun k_ => (((True ∧ some k_ ≠ (.slice Ao121 t232.length co121 : Value).ownBlock) ∧ some k_ ≠ (.slice Ao123 t238.length co123 : Value).ownBlock) ∧ some k_ ≠ (.slice Ao141 t252.length co141 : Value).ownBlock)) (n := t245.length) (c := co132) ?_).2.2; exact (by (with_reducible repeat (first | apply Kd.S_alloc | apply Kd.S_drewN | apply Kd.S_drew)); exact (Kd.S_mono (SF (g := gb255) (Kd.S_types HO247.out BK255.out (by decide)) (fun _ hk => hk.2)) (fun _ h_ => h_.1)))); (case side4 => exact (Kd.S_reads' HO247.out).2.1); (case side5 => refine (Kd.R_reads' (e := 70) (base := w.heap.size) (ok := fun k_ => (((True ∧ some k_ ≠ (.slice Ao120 t229.length co120 : Value).ownBlock) ∧ some k_ ≠ (.slice Ao122 t235.length co122 : Value).ownBlock) ∧ some k_ ≠ (.slice Ao128 t242.length co128 : Value).ownBlock)) (n := t249.length) (c := co136) ?_).2.2; exact (by (with_reducible repeat (first | apply Kd.R_alloc | apply Kd.R_drewN | apply Kd.R_drew)); exact (Kd.R_mono (RF (g := gb255) (Kd.R_types HO251.out BK255.out (by decide)) (fun _ hk => hk.2)) (fun _ h_ => h_.1)))); (case side6 => exact (Kd.R_reads' HO251.out).2.1); (case side7 => refine (Kd.S_reads' (e := 74) (base := w.heap.size) (ok := fun k_ => (((True ∧ some k_ ≠ (.slice Ao121 t232.length co121 : Value).ownBlock) ∧ some k_ ≠ (.slice Ao123 t238.length co123 : Value).ownBlock) ∧ some k_ ≠ (.slice Ao132 t245.length co132 : Value).ownBlock)) (n := t252.length) (c := co141) ?_).2.2; exact (by (with_reducible repeat (first | apply Kd.S_alloc | apply Kd.S_drewN | apply Kd.S_drew)); exact (Kd.S_mono (SF (g := gb255) (Kd.S_types HO254.out BK255.out (by decide)) (fun _ hk => hk.2)) (fun _ h_ => h_.1)))); (case side8 => exact (Kd.S_reads' HO254.out).2.1); rintro e w143 ⟨rfl, hb⟩; refine ⟨_, rfl, ?_⟩; replace HO231 := Aside0.mk (Kd.R_below (by (with_reducible repeat (first | apply Kd.R_alloc | apply Kd.R_drewN | apply Kd.R_drew)); exact (Kd.R_mono (RF (g := gb255) (Kd.R_types HO231.out BK255.out (by decide)) (fun _ hk => hk.2)) (fun _ h_ => h_.1))) hb); replace HO234 := Aside0.mk (Kd.S_below (by (with_reducible repeat (first | apply Kd.S_alloc | apply Kd.S_drewN | apply Kd.S_drew)); exact (Kd.S_mono (SF (g := gb255) (Kd.S_types HO234.out BK255.out (by decide)) (fun _ hk => hk.2)) (fun _ h_ => h_.1))) hb); replace HO237 := Aside0.mk (Kd.R_below (by (with_reducible repeat (first | apply Kd.R_alloc | apply Kd.R_drewN | apply Kd.R_drew)); exact (Kd.R_mono (RF (g := gb255) (Kd.R_types HO237.out BK255.out (by decide)) (fun _ hk => hk.2)) (fun _ h_ => h_.1))) hb); replace HO240 := Aside0.mk (Kd.S_below (by (with_reducible repeat (first | apply Kd.S_alloc | apply Kd.S_drewN | apply Kd.S_drew)); exact (Kd.S_mono (SF (g := gb255) (Kd.S_types HO240.out BK255.out (by decide)) (fun _ hk => hk.2)) (fun _ h_ => h_.1))) hb); replace HO244 := Aside0.mk (Kd.R_below (by (with_reducible repeat (first | apply Kd.R_alloc | apply Kd.R_drewN | apply Kd.R_drew)); exact (Kd.R_mono (RF (g := gb255) (Kd.R_types HO244.out BK255.out (by decide)) (fun _ hk => hk.2)) (fun _ h_ => h_.1))) hb); replace HO247 := Aside0.mk (Kd.S_below (by (with_reducible repeat (first | apply Kd.S_alloc | apply Kd.S_drewN | apply Kd.S_drew)); exact (Kd.S_mono (SF (g := gb255) (Kd.S_types HO247.out BK255.out (by decide)) (fun _ hk => hk.2)) (fun _ h_ => h_.1))) hb); replace HO251 := Aside0.mk (Kd.R_below (by (with_reducible repeat (first | apply Kd.R_alloc | apply Kd.R_drewN | apply Kd.R_drew)); exact (Kd.R_mono (RF (g := gb255) (Kd.R_types HO251.out BK255.out (by decide)) (fun _ hk => hk.2)) (fun _ h_ => h_.1))) hb); replace HO254 := Aside0.mk (Kd.S_below (by (with_reducible repeat (first | apply Kd.S_alloc | apply Kd.S_drewN | apply Kd.S_drew)); exact (Kd.S_mono (SF (g := gb255) (Kd.S_types HO254.out BK255.out (by decide)) (fun _ hk => hk.2)) (fun _ h_ => h_.1))) hb); replace BK225 := Aside0.mk (blk_below (Kf BK225) hb); replace BK226 := Aside0.mk (blk_below (Kf BK226) hb); replace BK248 := Aside0.mk (blk_below (Kf BK248) hb); replace BK255 := Aside0.mk (blk_below (g := gb255) (o := .cells #[.slice Ao136 t249.length co136, .slice Ao141 t252.length co141] 31 (0, 0)) (by (with_reducible repeat (first | refine blk_drewN ?_ _ | refine blk_drew ?_ | refine blk_alloc ?_ _)); refine blk_put (cs := #[.slice Ao136 t249.length co136, .slice none 0 0]) ?_ 1 _ rfl; (with_reducible repeat (first | refine blk_drewN ?_ _ | refine blk_drew ?_ | refine blk_alloc ?_ _)); refine blk_put (cs := #[.slice none 0 0, .slice none 0 0]) ?_ 0 _ rfl; (with_reducible repeat (first | refine blk_drewN ?_ _ | refine blk_drew ?_ | refine blk_alloc ?_ _)); exact BK255.out) hb); replace HB := Bs HB hb; (try clear hb); (try clear hb2); (try clear hk); (try clear hi)))
            replace HO231 := Aside0.mk (Kd.R_drew HO231.out)
            replace HO234 := Aside0.mk (Kd.S_drew HO234.out)
            replace HO237 := Aside0.mk (Kd.R_drew HO237.out)
            replace HO240 := Aside0.mk (Kd.S_drew HO240.out)
            replace HO244 := Aside0.mk (Kd.R_drew HO244.out)
            replace HO247 := Aside0.mk (Kd.S_drew HO247.out)
            replace HO251 := Aside0.mk (Kd.R_drew HO251.out)
            replace HO254 := Aside0.mk (Kd.S_drew HO254.out)
            replace BK225 := Aside0.mk (blk_drew BK225.out)
            replace BK226 := Aside0.mk (blk_drew BK226.out)
            replace BK248 := Aside0.mk (blk_drew BK248.out)
            replace BK255 := Aside0.mk (blk_drew BK255.out)
            replace HB := Aside0.mk (below_drew1 HB.out)
            refine start_ (n := 5) (S := fun w' => w'.cell? ⟨gb248, 0, none⟩ = some (.slice Ao128 t242.length co128) ∧ w'.cell? ⟨gb248, 1, none⟩ = some (.slice Ao132 t245.length co132) ∧ w'.cell? ⟨gb225, 0, none⟩ = some (.slice A0_0 l0_0.length c0_0) ∧ w'.cell? ⟨gb225, 1, none⟩ = some (.slice A0_1 l0_1.length c0_1)) (ds := []) #[false, false, false, false, false] (by kernel_rfl) rfl rfl ⟨(blk_cell BK248.out 0).trans rfl, (blk_cell BK248.out 1).trans rfl, (blk_cell BK225.out 0).trans rfl, (blk_cell BK225.out 1).trans rfl⟩ (fun hHeld => ?_)
            generalize w143.drew = w144 at HO231 HO234 HO237 HO240 HO244 HO247 HO251 HO254 BK225 BK226 BK248 BK255 HB hHeld ⊢
            refine take_ (i := 0) (N := some 35) (v := ?_) (a' := ?_) #[true, false, false, false, false] rfl rfl (by kernel_rfl) (fun _ _ _ h => h) (Or.inl ⟨by rfl, ?_⟩) hHeld ?_ ?_
            rotate_left
            · rintro w' ⟨s0, s1, s2, s3⟩
              go_simp
              with_reducible rfl
            rotate_left
            · simp only [Act.put, List.setIfInBounds_toArray, List.set_cons_zero, List.set_cons_succ, i64_w, i32_w]
              rfl
            refine take_ (i := 1) (N := some 36) (v := ?_) (a' := ?_) #[true, true, false, false, false] rfl rfl (by kernel_rfl) (fun _ _ _ h => h) (Or.inl ⟨by rfl, ?_⟩) hHeld ?_ ?_
            rotate_left
            · rintro w' ⟨s0, s1, s2, s3⟩
              go_simp
              with_reducible rfl
            rotate_left
            · simp only [Act.put, List.setIfInBounds_toArray, List.set_cons_zero, List.set_cons_succ, i64_w, i32_w]
              rfl
            refine one_ (i := 2) (N := some 37) #[true, true, true, false, false] rfl rfl (by kernel_rfl) (by decide) (fun K hK => ?_)
            refine goes_ Try.func11 (by kernel_rfl) rfl #[.agg #[.slice A0_0 l0_0.length c0_0, .slice A0_1 l0_1.length c0_1]] (by rfl) rfl rfl (by (try simp only [List.map_toArray, List.map_cons, List.map_nil]); first | done | rfl | (simp only [List.length_drop, List.length_take]; rfl)) ?_
            with_reducible refine (laws_toCodeObj.calls k _ _ l0_0 _ _ l0_1 t257 t260 _ ?side1 ?side2 ?side3 ?side4 A60.out).mono ?_
            (case side1 => exact Cb HR0_0 HB)
            (case side2 => exact HC0_0.out)
            (case side3 => exact Cb HR0_1 HB)
            (case side4 => exact HC0_1.out)
            rintro e w145 ⟨v258, v261, rfl, ho0, ho1, hb⟩
            refine ⟨_, rfl, ?_⟩
            have HO259 := Aside0.mk (Kd.R_lower (Kd.R_new' (Kd.R_new' (Kd.R_new' (Kd.R_new' ho0 (Rt HO231)) (Rt HO237)) (Rt HO244)) (Rt HO251)) (below_size (Bp HB)))
            replace HO231 := Aside0.mk (Re HO231 ho0 hb)
            replace HO237 := Aside0.mk (Re HO237 ho0 hb)
            replace HO244 := Aside0.mk (Re HO244 ho0 hb)
            replace HO251 := Aside0.mk (Re HO251 ho0 hb)
            have HO262 := Aside0.mk (Kd.S_lower (Kd.S_new' (Kd.S_new' (Kd.S_new' (Kd.S_new' ho1 (Kd.S_lt (Sp HO234))) (Kd.S_lt (Sp HO240))) (Kd.S_lt (Sp HO247))) (Kd.S_lt (Sp HO254))) (below_size (Bp HB)))
            replace HO234 := Aside0.mk (Kd.S_elder' (Sp HO234) (Kd.S_base ho1) hb)
            replace HO240 := Aside0.mk (Kd.S_elder' (Sp HO240) (Kd.S_base ho1) hb)
            replace HO247 := Aside0.mk (Kd.S_elder' (Sp HO247) (Kd.S_base ho1) hb)
            replace HO254 := Aside0.mk (Kd.S_elder' (Sp HO254) (Kd.S_base ho1) hb)
            replace BK225 := Kb BK225 hb
            replace BK226 := Kb BK226 hb
            replace BK248 := Kb BK248 hb
            replace BK255 := Kb BK255 hb
            replace HB := Bs HB hb
            (try clear hb)
            (try clear hb2)
            (try clear hk)
            (try clear hi)
            (try clear ho0)
            (try clear ho1)
            obtain ⟨Ao146, co146, eo146⟩ := Kd.R_slice HO259.out
            (first | subst eo146 | (injection eo146 with f1_ f2_ f3_; have f4_ := f1_.symm; have f5_ := f3_.symm; clear f1_ f2_ f3_; subst f4_; subst f5_))
            obtain ⟨Ao147, co147, eo147⟩ := Kd.S_slice HO262.out
            (first | subst eo147 | (injection eo147 with f1_ f2_ f3_; have f4_ := f1_.symm; have f5_ := f3_.symm; clear f1_ f2_ f3_; subst f4_; subst f5_))
            refine hK.out _ _ ⟨(blk_cell BK248.out 0).trans rfl, (blk_cell BK248.out 1).trans rfl, (blk_cell BK225.out 0).trans rfl, (blk_cell BK225.out 1).trans rfl⟩ (fun hHeld => ?_)
            clear hK K
            refine norm_ (a' := ?_) ?_ ?_
            rotate_left
            · show Act.put _ (some 37) _ = _
              simp only [Act.put, List.setIfInBounds_toArray, List.set_cons_zero, List.set_cons_succ, i64_w, i32_w]
              rfl
            refine one_ (i := 3) (N := some 38) #[true, true, true, true, false] rfl rfl (by kernel_rfl) (by decide) (fun K hK => ?_)
            refine goes_ Try.func13 (by kernel_rfl) rfl #[.agg #[.slice Ao128 t242.length co128, .slice Ao132 t245.length co132], .agg #[.slice Ao146 t257.length co146, .slice Ao147 t260.length co147]] (by rfl) rfl rfl (by (try simp only [List.map_toArray, List.map_cons, List.map_nil]); first | done | rfl | (simp only [List.length_drop, List.length_take]; rfl)) ?_
            with_reducible refine (laws_eqCodeObj.calls k _ _ t242 _ _ t245 _ _ t257 _ _ t260 true _ ?side1 ?side2 ?side3 ?side4 ?side5 ?side6 ?side7 ?side8 A61.out).mono ?_
            (case side1 => repeat (first | exact (Kd.R_reads' HO244.out).2.2 | (with_reducible refine Kd.C_alloc ?_ _) | (with_reducible refine Kd.C_drewN ?_ _) | (with_reducible refine Kd.C_drew ?_)))
            (case side2 => exact (Kd.R_reads' HO244.out).2.1)
            (case side3 => repeat (first | exact (Kd.S_reads' HO247.out).2.2 | (with_reducible refine Kd.C_alloc ?_ _) | (with_reducible refine Kd.C_drewN ?_ _) | (with_reducible refine Kd.C_drew ?_)))
            (case side4 => exact (Kd.S_reads' HO247.out).2.1)
            (case side5 => repeat (first | exact (Kd.R_reads' HO259.out).2.2 | (with_reducible refine Kd.C_alloc ?_ _) | (with_reducible refine Kd.C_drewN ?_ _) | (with_reducible refine Kd.C_drew ?_)))
            (case side6 => exact (Kd.R_reads' HO259.out).2.1)
            (case side7 => repeat (first | exact (Kd.S_reads' HO262.out).2.2 | (with_reducible refine Kd.C_alloc ?_ _) | (with_reducible refine Kd.C_drewN ?_ _) | (with_reducible refine Kd.C_drew ?_)))
            (case side8 => exact (Kd.S_reads' HO262.out).2.1)
            rintro e w148 ⟨rfl, hb⟩
            refine ⟨_, rfl, ?_⟩
            replace HO231 := Rb HO231 hb
            replace HO234 := Aside0.mk (Kd.S_below (Sp HO234) hb)
            replace HO237 := Rb HO237 hb
            replace HO240 := Aside0.mk (Kd.S_below (Sp HO240) hb)
            replace HO244 := Rb HO244 hb
            replace HO247 := Aside0.mk (Kd.S_below (Sp HO247) hb)
            replace HO251 := Rb HO251 hb
            replace HO254 := Aside0.mk (Kd.S_below (Sp HO254) hb)
            replace HO259 := Rb HO259 hb
            replace HO262 := Aside0.mk (Kd.S_below (Sp HO262) hb)
            replace BK225 := Kb BK225 hb
            replace BK226 := Kb BK226 hb
            replace BK248 := Kb BK248 hb
            replace BK255 := Kb BK255 hb
            replace HB := Bs HB hb
            (try clear hb)
            (try clear hb2)
            (try clear hk)
            (try clear hi)
            refine hK.out _ _ ⟨(blk_cell BK248.out 0).trans rfl, (blk_cell BK248.out 1).trans rfl, (blk_cell BK225.out 0).trans rfl, (blk_cell BK225.out 1).trans rfl⟩ (fun hHeld => ?_)
            clear hK K
            refine norm_ (a' := ?_) ?_ ?_
            rotate_left
            · show Act.put _ (some 38) _ = _
              simp only [Act.put, List.setIfInBounds_toArray, List.set_cons_zero, List.set_cons_succ, i64_w, i32_w]
              rfl
            refine pure_ (i := 4) (N := some 39) (v := ?_) (a' := ?_) #[true, true, true, true, true] rfl rfl (by kernel_rfl) (fun _ _ _ h => h) (Or.inl ⟨by rfl, ?_⟩) ?_ ?_
            rotate_left
            · intro w'
              go_simp
              with_reducible rfl
            rotate_left
            · simp only [Act.put, List.setIfInBounds_toArray, List.set_cons_zero, List.set_cons_succ, i64_w, i32_w]
              rfl
            refine done_ (by kernel_rfl) ?_
            try go_wp2
            replace HO231 := Aside0.mk (Kd.R_drew HO231.out)
            replace HO234 := Aside0.mk (Kd.S_drew HO234.out)
            replace HO237 := Aside0.mk (Kd.R_drew HO237.out)
            replace HO240 := Aside0.mk (Kd.S_drew HO240.out)
            replace HO244 := Aside0.mk (Kd.R_drew HO244.out)
            replace HO247 := Aside0.mk (Kd.S_drew HO247.out)
            replace HO251 := Aside0.mk (Kd.R_drew HO251.out)
            replace HO254 := Aside0.mk (Kd.S_drew HO254.out)
            replace HO259 := Aside0.mk (Kd.R_drew HO259.out)
            replace HO262 := Aside0.mk (Kd.S_drew HO262.out)
            replace BK225 := Aside0.mk (blk_drew BK225.out)
            replace BK226 := Aside0.mk (blk_drew BK226.out)
            replace BK248 := Aside0.mk (blk_drew BK248.out)
            replace BK255 := Aside0.mk (blk_drew BK255.out)
            replace HB := Aside0.mk (below_drew1 HB.out)
            refine start_ (n := 5) (S := fun w' => w'.cell? ⟨gb255, 0, none⟩ = some (.slice Ao136 t249.length co136) ∧ w'.cell? ⟨gb255, 1, none⟩ = some (.slice Ao141 t252.length co141) ∧ w'.cell? ⟨gb226, 0, none⟩ = some (.slice A1_0 l1_0.length c1_0) ∧ w'.cell? ⟨gb226, 1, none⟩ = some (.slice A1_1 l1_1.length c1_1)) (ds := []) #[false, false, false, false, false] (by kernel_rfl) rfl rfl ⟨(blk_cell BK255.out 0).trans rfl, (blk_cell BK255.out 1).trans rfl, (blk_cell BK226.out 0).trans rfl, (blk_cell BK226.out 1).trans rfl⟩ (fun hHeld => ?_)
            generalize w148.drew = w149 at HO231 HO234 HO237 HO240 HO244 HO247 HO251 HO254 HO259 HO262 BK225 BK226 BK248 BK255 HB hHeld ⊢
            refine take_ (i := 0) (N := some 40) (v := ?_) (a' := ?_) #[true, false, false, false, false] rfl rfl (by kernel_rfl) (fun _ _ _ h => h) (Or.inl ⟨by rfl, ?_⟩) hHeld ?_ ?_
            rotate_left
            · rintro w' ⟨s0, s1, s2, s3⟩
              go_simp
              with_reducible rfl
            rotate_left
            · simp only [Act.put, List.setIfInBounds_toArray, List.set_cons_zero, List.set_cons_succ, i64_w, i32_w]
              rfl
            refine take_ (i := 1) (N := some 41) (v := ?_) (a' := ?_) #[true, true, false, false, false] rfl rfl (by kernel_rfl) (fun _ _ _ h => h) (Or.inl ⟨by rfl, ?_⟩) hHeld ?_ ?_
            rotate_left
            · rintro w' ⟨s0, s1, s2, s3⟩
              go_simp
              with_reducible rfl
            rotate_left
            · simp only [Act.put, List.setIfInBounds_toArray, List.set_cons_zero, List.set_cons_succ, i64_w, i32_w]
              rfl
            refine one_ (i := 2) (N := some 42) #[true, true, true, false, false] rfl rfl (by kernel_rfl) (by decide) (fun K hK => ?_)
            refine goes_ Try.func11 (by kernel_rfl) rfl #[.agg #[.slice A1_0 l1_0.length c1_0, .slice A1_1 l1_1.length c1_1]] (by rfl) rfl rfl (by (try simp only [List.map_toArray, List.map_cons, List.map_nil]); first | done | rfl | (simp only [List.length_drop, List.length_take]; rfl)) ?_
            with_reducible refine (laws_toCodeObj.calls k _ _ l1_0 _ _ l1_1 t264 t267 _ ?side1 ?side2 ?side3 ?side4 A63.out).mono ?_
            (case side1 => exact Cb HR1_0 HB)
            (case side2 => exact HC1_0.out)
            (case side3 => exact Cb HR1_1 HB)
            (case side4 => exact HC1_1.out)
            rintro e w150 ⟨v265, v268, rfl, ho0, ho1, hb⟩
            refine ⟨_, rfl, ?_⟩
            have HO266 := Aside0.mk (Kd.R_lower (Kd.R_new' (Kd.R_new' (Kd.R_new' (Kd.R_new' (Kd.R_new' ho0 (Rt HO231)) (Rt HO237)) (Rt HO244)) (Rt HO251)) (Rt HO259)) (below_size (Bp HB)))
            replace HO231 := Aside0.mk (Re HO231 ho0 hb)
            replace HO237 := Aside0.mk (Re HO237 ho0 hb)
            replace HO244 := Aside0.mk (Re HO244 ho0 hb)
            replace HO251 := Aside0.mk (Re HO251 ho0 hb)
            replace HO259 := Aside0.mk (Re HO259 ho0 hb)
            have HO269 := Aside0.mk (Kd.S_lower (Kd.S_new' (Kd.S_new' (Kd.S_new' (Kd.S_new' (Kd.S_new' ho1 (Kd.S_lt (Sp HO234))) (Kd.S_lt (Sp HO240))) (Kd.S_lt (Sp HO247))) (Kd.S_lt (Sp HO254))) (Kd.S_lt (Sp HO262))) (below_size (Bp HB)))
            replace HO234 := Aside0.mk (Kd.S_elder' (Sp HO234) (Kd.S_base ho1) hb)
            replace HO240 := Aside0.mk (Kd.S_elder' (Sp HO240) (Kd.S_base ho1) hb)
            replace HO247 := Aside0.mk (Kd.S_elder' (Sp HO247) (Kd.S_base ho1) hb)
            replace HO254 := Aside0.mk (Kd.S_elder' (Sp HO254) (Kd.S_base ho1) hb)
            replace HO262 := Aside0.mk (Kd.S_elder' (Sp HO262) (Kd.S_base ho1) hb)
            replace BK225 := Kb BK225 hb
            replace BK226 := Kb BK226 hb
            replace BK248 := Kb BK248 hb
            replace BK255 := Kb BK255 hb
            replace HB := Bs HB hb
            (try clear hb)
            (try clear hb2)
            (try clear hk)
            (try clear hi)
            (try clear ho0)
            (try clear ho1)
            obtain ⟨Ao151, co151, eo151⟩ := Kd.R_slice HO266.out
            (first | subst eo151 | (injection eo151 with f1_ f2_ f3_; have f4_ := f1_.symm; have f5_ := f3_.symm; clear f1_ f2_ f3_; subst f4_; subst f5_))
            obtain ⟨Ao152, co152, eo152⟩ := Kd.S_slice HO269.out
            (first | subst eo152 | (injection eo152 with f1_ f2_ f3_; have f4_ := f1_.symm; have f5_ := f3_.symm; clear f1_ f2_ f3_; subst f4_; subst f5_))
            refine hK.out _ _ ⟨(blk_cell BK255.out 0).trans rfl, (blk_cell BK255.out 1).trans rfl, (blk_cell BK226.out 0).trans rfl, (blk_cell BK226.out 1).trans rfl⟩ (fun hHeld => ?_)
            clear hK K
            refine norm_ (a' := ?_) ?_ ?_
            rotate_left
            · show Act.put _ (some 42) _ = _
              simp only [Act.put, List.setIfInBounds_toArray, List.set_cons_zero, List.set_cons_succ, i64_w, i32_w]
              rfl
            refine one_ (i := 3) (N := some 43) #[true, true, true, true, false] rfl rfl (by kernel_rfl) (by decide) (fun K hK => ?_)
            refine goes_ Try.func13 (by kernel_rfl) rfl #[.agg #[.slice Ao136 t249.length co136, .slice Ao141 t252.length co141], .agg #[.slice Ao151 t264.length co151, .slice Ao152 t267.length co152]] (by rfl) rfl rfl (by (try simp only [List.map_toArray, List.map_cons, List.map_nil]); first | done | rfl | (simp only [List.length_drop, List.length_take]; rfl)) ?_
            with_reducible refine (laws_eqCodeObj.calls k _ _ t249 _ _ t252 _ _ t264 _ _ t267 false _ ?side1 ?side2 ?side3 ?side4 ?side5 ?side6 ?side7 ?side8 A64.out).mono ?_
            (case side1 => repeat (first | exact (Kd.R_reads' HO251.out).2.2 | (with_reducible refine Kd.C_alloc ?_ _) | (with_reducible refine Kd.C_drewN ?_ _) | (with_reducible refine Kd.C_drew ?_)))
            (case side2 => exact (Kd.R_reads' HO251.out).2.1)
            (case side3 => repeat (first | exact (Kd.S_reads' HO254.out).2.2 | (with_reducible refine Kd.C_alloc ?_ _) | (with_reducible refine Kd.C_drewN ?_ _) | (with_reducible refine Kd.C_drew ?_)))
            (case side4 => exact (Kd.S_reads' HO254.out).2.1)
            (case side5 => repeat (first | exact (Kd.R_reads' HO266.out).2.2 | (with_reducible refine Kd.C_alloc ?_ _) | (with_reducible refine Kd.C_drewN ?_ _) | (with_reducible refine Kd.C_drew ?_)))
            (case side6 => exact (Kd.R_reads' HO266.out).2.1)
            (case side7 => repeat (first | exact (Kd.S_reads' HO269.out).2.2 | (with_reducible refine Kd.C_alloc ?_ _) | (with_reducible refine Kd.C_drewN ?_ _) | (with_reducible refine Kd.C_drew ?_)))
            (case side8 => exact (Kd.S_reads' HO269.out).2.1)
            rintro e w153 ⟨rfl, hb⟩
            refine ⟨_, rfl, ?_⟩
            replace HO231 := Rb HO231 hb
            replace HO234 := Aside0.mk (Kd.S_below (Sp HO234) hb)
            replace HO237 := Rb HO237 hb
            replace HO240 := Aside0.mk (Kd.S_below (Sp HO240) hb)
            replace HO244 := Rb HO244 hb
            replace HO247 := Aside0.mk (Kd.S_below (Sp HO247) hb)
            replace HO251 := Rb HO251 hb
            replace HO254 := Aside0.mk (Kd.S_below (Sp HO254) hb)
            replace HO259 := Rb HO259 hb
            replace HO262 := Aside0.mk (Kd.S_below (Sp HO262) hb)
            replace HO266 := Rb HO266 hb
            replace HO269 := Aside0.mk (Kd.S_below (Sp HO269) hb)
            replace BK225 := Kb BK225 hb
            replace BK226 := Kb BK226 hb
            replace BK248 := Kb BK248 hb
            replace BK255 := Kb BK255 hb
            replace HB := Bs HB hb
            (try clear hb)
            (try clear hb2)
            (try clear hk)
            (try clear hi)
            refine hK.out _ _ ⟨(blk_cell BK255.out 0).trans rfl, (blk_cell BK255.out 1).trans rfl, (blk_cell BK226.out 0).trans rfl, (blk_cell BK226.out 1).trans rfl⟩ (fun hHeld => ?_)
            clear hK K
            refine norm_ (a' := ?_) ?_ ?_
            rotate_left
            · show Act.put _ (some 43) _ = _
              simp only [Act.put, List.setIfInBounds_toArray, List.set_cons_zero, List.set_cons_succ, i64_w, i32_w]
              rfl
            refine pure_ (i := 4) (N := some 44) (v := ?_) (a' := ?_) #[true, true, true, true, true] rfl rfl (by kernel_rfl) (fun _ _ _ h => h) (Or.inl ⟨by rfl, ?_⟩) ?_ ?_
            rotate_left
            · intro w'
              go_simp
              with_reducible rfl
            rotate_left
            · simp only [Act.put, List.setIfInBounds_toArray, List.set_cons_zero, List.set_cons_succ, i64_w, i32_w]
              rfl
            refine done_ (by kernel_rfl) ?_
            try go_wp2
            go_ret
            exact ⟨by first | rfl | (simp [errW_none, errW_some] <;> rfl) | (simp [*, errW_none, errW_some] <;> rfl), Bp HB⟩
        · replace c62 := Bool.eq_false_iff.mpr c62
          subst c62
          have H1 : (some false) = some r := by rw [if_neg (show ¬ (false = true) by decide)] at H; exact H
          clear H
          have H := H1
          clear H1
          obtain rfl := Option.some.inj H
          go_enter Try.func3, Try.ntmps3
          try go_wp2_with (first | ((with_reducible refine gate_dst (N := 2) rfl ?_); refine box_event ?hg (N := 2) ?hd (cs := #[.slice A0_0 l0_0.length c0_0, .slice A0_1 l0_1.length c0_1]) (t := 25) ?hr ?_; (case hd => rfl); (case hg => rfl); (case hr => first | (go_simp; done) | (go_simp; rfl)); intro gb225 hg w154 hbox hb; have BK225 := Aside0.mk (hbox); have GW225 := Aside0.mk ((by rw [hg]; exact (below_size (Bp HB)) : w.heap.size ≤ gb225)); have GE225 := Aside0.mk ((by rw [hg]; exact (below_size (Bp HB)) : w.heap.size ≤ gb225)); replace HB := Bs HB hb; clear hb hbox hg) | ((with_reducible refine gate_dst (N := 3) rfl ?_); refine box_event ?hg (N := 3) ?hd (cs := #[.slice A1_0 l1_0.length c1_0, .slice A1_1 l1_1.length c1_1]) (t := 25) ?hr ?_; (case hd => rfl); (case hg => rfl); (case hr => first | (go_simp; done) | (go_simp; rfl)); intro gb226 hg w155 hbox hb; have BK226 := Aside0.mk (hbox); have GW226 := Aside0.mk ((by rw [hg]; exact (below_size (Bp HB)) : w.heap.size ≤ gb226)); have GE226 := Aside0.mk ((by rw [hg]; exact (below_size (Bp HB)) : w.heap.size ≤ gb226)); replace HB := Bs HB hb; have NB225_226 := Aside0.mk ((by rw [hg]; exact Nat.ne_of_lt (blk_lt (Kp BK225)) : gb225 ≠ gb226)); have NB226_225 := Aside0.mk ((by rw [hg]; exact Nat.ne_of_gt (blk_lt (Kp BK225)) : gb226 ≠ gb225)); replace BK225 := Kb BK225 hb; clear hb hbox hg; have hnb156 := NB225_226.out; have hnc156 := NB226_225.out; obtain ⟨hcz157_0, hcz157_1⟩ := bc2 (W := w155) BK225.out; obtain ⟨hfz157_0, hfz157_1⟩ := bf2 BK225.out) | ((with_reducible refine gate_callee (f := 9) rfl ?_); refine goesL_ (some 12) rfl rfl Try.func9 (by kernel_rfl) rfl #[.agg #[.slice A0_0 l0_0.length c0_0, .slice A0_1 l0_1.length c0_1], .int .i64 1048576] rfl (by (try simp only [List.map_toArray, List.map_cons, List.map_nil]); first | done | rfl | (simp only [List.length_drop, List.length_take]; rfl)) ?_; (with_reducible refine (laws_szCodeObj.calls k _ _ l0_0 _ _ l0_1 1048576 t227 _ ?side1 ?side2 ?side3 ?side4 A3.out).mono ?_); (case side1 => exact Cb HR0_0 HB); (case side2 => exact HC0_0.out); (case side3 => exact Cb HR0_1 HB); (case side4 => exact HC0_1.out); rintro e w158 ⟨rfl, hb⟩; refine ⟨_, rfl, ?_⟩; replace BK225 := Kb BK225 hb; replace BK226 := Kb BK226 hb; replace HB := Bs HB hb; (try clear hb); (try clear hb2); (try clear hk); (try clear hi); obtain ⟨hcz159_0, hcz159_1⟩ := bc2 (W := w158) BK226.out; obtain ⟨hfz159_0, hfz159_1⟩ := bf2 BK226.out) | ((with_reducible refine gate_callee (f := 9) rfl ?_); refine goesL_ (some 17) rfl rfl Try.func9 (by kernel_rfl) rfl #[.agg #[.slice A1_0 l1_0.length c1_0, .slice A1_1 l1_1.length c1_1], .int .i64 t227] rfl (by (try simp only [List.map_toArray, List.map_cons, List.map_nil]); first | done | rfl | (simp only [List.length_drop, List.length_take]; rfl)) ?_; (with_reducible refine (laws_szCodeObj.calls k _ _ l1_0 _ _ l1_1 t227 t228 _ ?side1 ?side2 ?side3 ?side4 A10.out).mono ?_); (case side1 => exact Cb HR1_0 HB); (case side2 => exact HC1_0.out); (case side3 => exact Cb HR1_1 HB); (case side4 => exact HC1_1.out); rintro e w160 ⟨rfl, hb⟩; refine ⟨_, rfl, ?_⟩; replace BK225 := Kb BK225 hb; replace BK226 := Kb BK226 hb; replace HB := Bs HB hb; (try clear hb); (try clear hb2); (try clear hk); (try clear hi)))
          replace BK225 := Aside0.mk (blk_drew BK225.out)
          replace BK226 := Aside0.mk (blk_drew BK226.out)
          replace HB := Aside0.mk (below_drew1 HB.out)
          refine start_ (n := 6) (S := fun w' => w'.cell? ⟨gb225, 0, none⟩ = some (.slice A0_0 l0_0.length c0_0) ∧ w'.cell? ⟨gb225, 1, none⟩ = some (.slice A0_1 l0_1.length c0_1) ∧ w'.cell? ⟨gb226, 0, none⟩ = some (.slice A1_0 l1_0.length c1_0) ∧ w'.cell? ⟨gb226, 1, none⟩ = some (.slice A1_1 l1_1.length c1_1)) (ds := []) #[false, false, false, false, false, false] (by kernel_rfl) rfl rfl ⟨(blk_cell BK225.out 0).trans rfl, (blk_cell BK225.out 1).trans rfl, (blk_cell BK226.out 0).trans rfl, (blk_cell BK226.out 1).trans rfl⟩ (fun hHeld => ?_)
          generalize w160.drew = w161 at BK225 BK226 HB hHeld ⊢
          refine take_ (i := 0) (N := some 20) (v := ?_) (a' := ?_) #[true, false, false, false, false, false] rfl rfl (by kernel_rfl) (fun _ _ _ h => h) (Or.inl ⟨by rfl, ?_⟩) hHeld ?_ ?_
          rotate_left
          · rintro w' ⟨s0, s1, s2, s3⟩
            go_simp
            with_reducible rfl
          rotate_left
          · simp only [Act.put, List.setIfInBounds_toArray, List.set_cons_zero, List.set_cons_succ, i64_w, i32_w]
            rfl
          refine take_ (i := 2) (N := some 22) (v := ?_) (a' := ?_) #[true, false, true, false, false, false] rfl rfl (by kernel_rfl) (fun _ _ _ h => h) (Or.inl ⟨by rfl, ?_⟩) hHeld ?_ ?_
          rotate_left
          · rintro w' ⟨s0, s1, s2, s3⟩
            go_simp
            with_reducible rfl
          rotate_left
          · simp only [Act.put, List.setIfInBounds_toArray, List.set_cons_zero, List.set_cons_succ, i64_w, i32_w]
            rfl
          refine one_ (i := 1) (N := some 21) #[true, true, true, false, false, false] rfl rfl (by kernel_rfl) (by decide) (fun K hK => ?_)
          refine goes_ Try.func11 (by kernel_rfl) rfl #[.agg #[.slice A0_0 l0_0.length c0_0, .slice A0_1 l0_1.length c0_1]] (by rfl) rfl rfl (by (try simp only [List.map_toArray, List.map_cons, List.map_nil]); first | done | rfl | (simp only [List.length_drop, List.length_take]; rfl)) ?_
          with_reducible refine (laws_toCodeObj.calls k _ _ l0_0 _ _ l0_1 t229 t232 _ ?side1 ?side2 ?side3 ?side4 A19.out).mono ?_
          (case side1 => exact Cb HR0_0 HB)
          (case side2 => exact HC0_0.out)
          (case side3 => exact Cb HR0_1 HB)
          (case side4 => exact HC0_1.out)
          rintro e w162 ⟨v230, v233, rfl, ho0, ho1, hb⟩
          refine ⟨_, rfl, ?_⟩
          have HO231 := Aside0.mk (Kd.R_lower ho0 (below_size (Bp HB)))
          have HO234 := Aside0.mk (Kd.S_lower ho1 (below_size (Bp HB)))
          replace BK225 := Kb BK225 hb
          replace BK226 := Kb BK226 hb
          replace HB := Bs HB hb
          (try clear hb)
          (try clear hb2)
          (try clear hk)
          (try clear hi)
          (try clear ho0)
          (try clear ho1)
          refine hK.out _ _ ⟨(blk_cell BK225.out 0).trans rfl, (blk_cell BK225.out 1).trans rfl, (blk_cell BK226.out 0).trans rfl, (blk_cell BK226.out 1).trans rfl⟩ (fun hHeld => ?_)
          clear hK K
          refine norm_ (a' := ?_) ?_ ?_
          rotate_left
          · show Act.put _ (some 21) _ = _
            simp only [Act.put, List.setIfInBounds_toArray, List.set_cons_zero, List.set_cons_succ, i64_w, i32_w]
            rfl
          refine one_ (i := 3) (N := some 23) #[true, true, true, true, false, false] rfl rfl (by kernel_rfl) (by decide) (fun K hK => ?_)
          refine goes_ Try.func11 (by kernel_rfl) rfl #[.agg #[.slice A1_0 l1_0.length c1_0, .slice A1_1 l1_1.length c1_1]] (by rfl) rfl rfl (by (try simp only [List.map_toArray, List.map_cons, List.map_nil]); first | done | rfl | (simp only [List.length_drop, List.length_take]; rfl)) ?_
          with_reducible refine (laws_toCodeObj.calls k _ _ l1_0 _ _ l1_1 t235 t238 _ ?side1 ?side2 ?side3 ?side4 A20.out).mono ?_
          (case side1 => exact Cb HR1_0 HB)
          (case side2 => exact HC1_0.out)
          (case side3 => exact Cb HR1_1 HB)
          (case side4 => exact HC1_1.out)
          rintro e w163 ⟨v236, v239, rfl, ho0, ho1, hb⟩
          refine ⟨_, rfl, ?_⟩
          have HO237 := Aside0.mk (Rl (Kd.R_new' ho0 (Rt HO231)) HB)
          replace HO231 := Aside0.mk (Re HO231 ho0 hb)
          have HO240 := Aside0.mk (Kd.S_lower (Kd.S_new' ho1 (Kd.S_lt (Sp HO234))) (below_size (Bp HB)))
          replace HO234 := Aside0.mk (Kd.S_elder' (Sp HO234) (Kd.S_base ho1) hb)
          replace BK225 := Kb BK225 hb
          replace BK226 := Kb BK226 hb
          replace HB := Bs HB hb
          (try clear hb)
          (try clear hb2)
          (try clear hk)
          (try clear hi)
          (try clear ho0)
          (try clear ho1)
          obtain ⟨Ao164, co164, eo164⟩ := Kd.R_slice HO231.out
          (first | subst eo164 | (injection eo164 with f1_ f2_ f3_; have f4_ := f1_.symm; have f5_ := f3_.symm; clear f1_ f2_ f3_; subst f4_; subst f5_))
          obtain ⟨Ao165, co165, eo165⟩ := Kd.S_slice HO234.out
          (first | subst eo165 | (injection eo165 with f1_ f2_ f3_; have f4_ := f1_.symm; have f5_ := f3_.symm; clear f1_ f2_ f3_; subst f4_; subst f5_))
          obtain ⟨Ao166, co166, eo166⟩ := Kd.R_slice HO237.out
          (first | subst eo166 | (injection eo166 with f1_ f2_ f3_; have f4_ := f1_.symm; have f5_ := f3_.symm; clear f1_ f2_ f3_; subst f4_; subst f5_))
          obtain ⟨Ao167, co167, eo167⟩ := Kd.S_slice HO240.out
          (first | subst eo167 | (injection eo167 with f1_ f2_ f3_; have f4_ := f1_.symm; have f5_ := f3_.symm; clear f1_ f2_ f3_; subst f4_; subst f5_))
          refine hK.out _ _ ⟨(blk_cell BK225.out 0).trans rfl, (blk_cell BK225.out 1).trans rfl, (blk_cell BK226.out 0).trans rfl, (blk_cell BK226.out 1).trans rfl⟩ (fun hHeld => ?_)
          clear hK K
          refine norm_ (a' := ?_) ?_ ?_
          rotate_left
          · show Act.put _ (some 23) _ = _
            simp only [Act.put, List.setIfInBounds_toArray, List.set_cons_zero, List.set_cons_succ, i64_w, i32_w]
            rfl
          refine one_ (i := 4) (N := some 24) #[true, true, true, true, true, false] rfl rfl (by kernel_rfl) (by decide) (fun K hK => ?_)
          refine goes_ Try.func10 (by kernel_rfl) rfl #[.agg #[.slice Ao164 t229.length co164, .slice Ao165 t232.length co165], .agg #[.slice Ao166 t235.length co166, .slice Ao167 t238.length co167]] (by rfl) rfl rfl (by (try simp only [List.map_toArray, List.map_cons, List.map_nil]); first | done | rfl | (simp only [List.length_drop, List.length_take]; rfl)) ?_
          with_reducible refine (spec_CodeSame.calls k _ _ t229 _ _ t232 _ _ t235 _ _ t238 t241 _ ?side1 ?side2 ?side3 ?side4 ?side5 ?side6 ?side7 ?side8 A21.out).mono ?_
          (case side1 => repeat (first | exact (Kd.R_reads' HO231.out).2.2 | (with_reducible refine Kd.C_alloc ?_ _) | (with_reducible refine Kd.C_drewN ?_ _) | (with_reducible refine Kd.C_drew ?_)))
          (case side2 => exact (Kd.R_reads' HO231.out).2.1)
          (case side3 => repeat (first | exact (Kd.S_reads' HO234.out).2.2 | (with_reducible refine Kd.C_alloc ?_ _) | (with_reducible refine Kd.C_drewN ?_ _) | (with_reducible refine Kd.C_drew ?_)))
          (case side4 => exact (Kd.S_reads' HO234.out).2.1)
          (case side5 => repeat (first | exact (Kd.R_reads' HO237.out).2.2 | (with_reducible refine Kd.C_alloc ?_ _) | (with_reducible refine Kd.C_drewN ?_ _) | (with_reducible refine Kd.C_drew ?_)))
          (case side6 => exact (Kd.R_reads' HO237.out).2.1)
          (case side7 => repeat (first | exact (Kd.S_reads' HO240.out).2.2 | (with_reducible refine Kd.C_alloc ?_ _) | (with_reducible refine Kd.C_drewN ?_ _) | (with_reducible refine Kd.C_drew ?_)))
          (case side8 => exact (Kd.S_reads' HO240.out).2.1)
          rintro e w168 ⟨rfl, hb⟩
          refine ⟨_, rfl, ?_⟩
          replace HO231 := Rb HO231 hb
          replace HO234 := Aside0.mk (Kd.S_below (Sp HO234) hb)
          replace HO237 := Rb HO237 hb
          replace HO240 := Aside0.mk (Kd.S_below (Sp HO240) hb)
          replace BK225 := Kb BK225 hb
          replace BK226 := Kb BK226 hb
          replace HB := Bs HB hb
          (try clear hb)
          (try clear hb2)
          (try clear hk)
          (try clear hi)
          refine hK.out _ _ ⟨(blk_cell BK225.out 0).trans rfl, (blk_cell BK225.out 1).trans rfl, (blk_cell BK226.out 0).trans rfl, (blk_cell BK226.out 1).trans rfl⟩ (fun hHeld => ?_)
          clear hK K
          refine norm_ (a' := ?_) ?_ ?_
          rotate_left
          · show Act.put _ (some 24) _ = _
            simp only [Act.put, List.setIfInBounds_toArray, List.set_cons_zero, List.set_cons_succ, i64_w, i32_w]
            rfl
          refine pure_ (i := 5) (N := some 6) (v := ?_) (a' := ?_) #[true, true, true, true, true, true] rfl rfl (by kernel_rfl) (fun _ _ _ h => h) (Or.inl ⟨by rfl, ?_⟩) ?_ ?_
          rotate_left
          · intro w'
            go_simp
            with_reducible rfl
          rotate_left
          · simp only [Act.put, List.setIfInBounds_toArray, List.set_cons_zero, List.set_cons_succ, i64_w, i32_w]
            rfl
          refine done_ (by kernel_rfl) ?_
          obtain ⟨hcz169_0, hcz169_1⟩ := bc2 (W := w168) BK225.out
          obtain ⟨hfz169_0, hfz169_1⟩ := bf2 BK225.out
          try go_wp2_with (first | ((with_reducible refine gate_callee (f := 11) rfl ?_); refine goesL_ (some 26) rfl rfl Try.func11 (by kernel_rfl) rfl #[.agg #[.slice A0_0 l0_0.length c0_0, .slice A0_1 l0_1.length c0_1]] rfl (by (try simp only [List.map_toArray, List.map_cons, List.map_nil]); first | done | rfl | (simp only [List.length_drop, List.length_take]; rfl)) ?_; (with_reducible refine (laws_toCodeObj.calls k _ _ l0_0 _ _ l0_1 t242 t245 _ ?side1 ?side2 ?side3 ?side4 A22.out).mono ?_); (case side1 => exact Cb HR0_0 HB); (case side2 => exact HC0_0.out); (case side3 => exact Cb HR0_1 HB); (case side4 => exact HC0_1.out); rintro e w170 ⟨v243, v246, rfl, ho0, ho1, hb⟩; refine ⟨_, rfl, ?_⟩; have HO244 := Aside0.mk (Rl (Kd.R_new' (Kd.R_new' ho0 (Rt HO231)) (Rt HO237)) HB); replace HO231 := Aside0.mk (Re HO231 ho0 hb); replace HO237 := Aside0.mk (Re HO237 ho0 hb); have HO247 := Aside0.mk (Kd.S_lower (Kd.S_new' (Kd.S_new' ho1 (Kd.S_lt (Sp HO234))) (Kd.S_lt (Sp HO240))) (below_size (Bp HB))); replace HO234 := Aside0.mk (Kd.S_elder' (Sp HO234) (Kd.S_base ho1) hb); replace HO240 := Aside0.mk (Kd.S_elder' (Sp HO240) (Kd.S_base ho1) hb); replace BK225 := Kb BK225 hb; replace BK226 := Kb BK226 hb; replace HB := Bs HB hb; (try clear hb); (try clear hb2); (try clear hk); (try clear hi); (try clear ho0); (try clear ho1)) | ((with_reducible refine gate_dst (N := 7) rfl ?_); refine box_event ?hg (N := 7) ?hd (cs := #[.slice none 0 0, .slice none 0 0]) (t := 31) ?hr ?_; (case hd => rfl); (case hg => rfl); (case hr => first | (go_simp; done) | (go_simp; rfl)); intro gb248 hg w171 hbox hb; replace HO231 := Rb HO231 hb; replace HO234 := Aside0.mk (Kd.S_below (Sp HO234) hb); replace HO237 := Rb HO237 hb; replace HO240 := Aside0.mk (Kd.S_below (Sp HO240) hb); replace HO244 := Rb HO244 hb; replace HO247 := Aside0.mk (Kd.S_below (Sp HO247) hb); have BK248 := Aside0.mk (hbox); have GW248 := Aside0.mk ((by rw [hg]; exact (below_size (Bp HB)) : w.heap.size ≤ gb248)); have GE248 := Aside0.mk ((by rw [hg]; exact (below_size (Bp HB)) : w.heap.size ≤ gb248)); replace HB := Bs HB hb; have NB225_248 := Aside0.mk ((by rw [hg]; exact Nat.ne_of_lt (blk_lt (Kp BK225)) : gb225 ≠ gb248)); have NB248_225 := Aside0.mk ((by rw [hg]; exact Nat.ne_of_gt (blk_lt (Kp BK225)) : gb248 ≠ gb225)); replace BK225 := Kb BK225 hb; have NB226_248 := Aside0.mk ((by rw [hg]; exact Nat.ne_of_lt (blk_lt (Kp BK226)) : gb226 ≠ gb248)); have NB248_226 := Aside0.mk ((by rw [hg]; exact Nat.ne_of_gt (blk_lt (Kp BK226)) : gb248 ≠ gb226)); replace BK226 := Kb BK226 hb; clear hb hbox hg; obtain ⟨Ao172, co172, eo172⟩ := Kd.R_slice HO244.out; subst eo172; have hnb173 := NB248_225.out; have hnc173 := NB225_248.out; have hnb174 := NB248_226.out; have hnc174 := NB226_248.out; obtain ⟨hcz175_0, hcz175_1⟩ := bc2 (W := w171) BK248.out; obtain ⟨hfz175_0, hfz175_1⟩ := bf2 BK248.out; obtain ⟨Ao176, co176, eo176⟩ := Kd.S_slice HO247.out; subst eo176; obtain ⟨hcz177_0, hcz177_1⟩ := bc2 (W := w171) BK226.out; obtain ⟨hfz177_0, hfz177_1⟩ := bf2 BK226.out) | ((with_reducible refine gate_callee (f := 11) rfl ?_); refine goesL_ (some 28) rfl rfl Try.func11 (by kernel_rfl) rfl #[.agg #[.slice A1_0 l1_0.length c1_0, .slice A1_1 l1_1.length c1_1]] rfl (by (try simp only [List.map_toArray, List.map_cons, List.map_nil]); first | done | rfl | (simp only [List.length_drop, List.length_take]; rfl)) ?_; (with_reducible refine (laws_toCodeObj.calls k _ _ l1_0 _ _ l1_1 t249 t252 _ ?side1 ?side2 ?side3 ?side4 A23.out).mono ?_); (case side1 => exact Kd.C_below HR1_0.out (Bp HB)); (case side2 => exact HC1_0.out); (case side3 => exact Kd.C_below HR1_1.out (Bp HB)); (case side4 => exact HC1_1.out); rintro e w178 ⟨v250, v253, rfl, ho0, ho1, hb⟩; refine ⟨_, rfl, ?_⟩; have HO251 := Aside0.mk (Kd.R_lower (Kd.R_new' (Kd.R_new' (Kd.R_new' ho0 (Kd.R_lt (by (with_reducible repeat (first | apply Kd.R_alloc | apply Kd.R_drewN | apply Kd.R_drew)); exact (Kd.R_mono (RF (g := gb248) (Kd.R_types HO231.out BK248.out (by decide)) (fun _ hk => hk.2)) (fun _ h_ => h_.1))))) (Kd.R_lt (by (with_reducible repeat (first | apply Kd.R_alloc | apply Kd.R_drewN | apply Kd.R_drew)); exact (Kd.R_mono (RF (g := gb248) (Kd.R_types HO237.out BK248.out (by decide)) (fun _ hk => hk.2)) (fun _ h_ => h_.1))))) (Kd.R_lt (by (with_reducible repeat (first | apply Kd.R_alloc | apply Kd.R_drewN | apply Kd.R_drew)); exact (Kd.R_mono (RF (g := gb248) (Kd.R_types HO244.out BK248.out (by decide)) (fun _ hk => hk.2)) (fun _ h_ => h_.1))))) (below_size (Bp HB))); replace HO231 := Aside0.mk (Kd.R_elder' (by (with_reducible repeat (first | apply Kd.R_alloc | apply Kd.R_drewN | apply Kd.R_drew)); exact (Kd.R_mono (RF (g := gb248) (Kd.R_types HO231.out BK248.out (by decide)) (fun _ hk => hk.2)) (fun _ h_ => h_.1))) (Kd.R_base ho0) hb); replace HO237 := Aside0.mk (Kd.R_elder' (by (with_reducible repeat (first | apply Kd.R_alloc | apply Kd.R_drewN | apply Kd.R_drew)); exact (Kd.R_mono (RF (g := gb248) (Kd.R_types HO237.out BK248.out (by decide)) (fun _ hk => hk.2)) (fun _ h_ => h_.1))) (Kd.R_base ho0) hb); replace HO244 := Aside0.mk (Kd.R_elder' (by (with_reducible repeat (first | apply Kd.R_alloc | apply Kd.R_drewN | apply Kd.R_drew)); exact (Kd.R_mono (RF (g := gb248) (Kd.R_types HO244.out BK248.out (by decide)) (fun _ hk => hk.2)) (fun _ h_ => h_.1))) (Kd.R_base ho0) hb); have HO254 := Aside0.mk (Kd.S_lower (Kd.S_new' (Kd.S_new' (Kd.S_new' ho1 (Kd.S_lt (by (with_reducible repeat (first | apply Kd.S_alloc | apply Kd.S_drewN | apply Kd.S_drew)); exact (Kd.S_mono (SF (g := gb248) (Kd.S_types HO234.out BK248.out (by decide)) (fun _ hk => hk.2)) (fun _ h_ => h_.1))))) (Kd.S_lt (by (with_reducible repeat (first | apply Kd.S_alloc | apply Kd.S_drewN | apply Kd.S_drew)); exact (Kd.S_mono (SF (g := gb248) (Kd.S_types HO240.out BK248.out (by decide)) (fun _ hk => hk.2)) (fun _ h_ => h_.1))))) (Kd.S_lt (by (with_reducible repeat (first | apply Kd.S_alloc | apply Kd.S_drewN | apply Kd.S_drew)); exact (Kd.S_mono (SF (g := gb248) (Kd.S_types HO247.out BK248.out (by decide)) (fun _ hk => hk.2)) (fun _ h_ => h_.1))))) (below_size (Bp HB))); replace HO234 := Aside0.mk (Kd.S_elder' (by (with_reducible repeat (first | apply Kd.S_alloc | apply Kd.S_drewN | apply Kd.S_drew)); exact (Kd.S_mono (SF (g := gb248) (Kd.S_types HO234.out BK248.out (by decide)) (fun _ hk => hk.2)) (fun _ h_ => h_.1))) (Kd.S_base ho1) hb); replace HO240 := Aside0.mk (Kd.S_elder' (by (with_reducible repeat (first | apply Kd.S_alloc | apply Kd.S_drewN | apply Kd.S_drew)); exact (Kd.S_mono (SF (g := gb248) (Kd.S_types HO240.out BK248.out (by decide)) (fun _ hk => hk.2)) (fun _ h_ => h_.1))) (Kd.S_base ho1) hb); replace HO247 := Aside0.mk (Kd.S_elder' (by (with_reducible repeat (first | apply Kd.S_alloc | apply Kd.S_drewN | apply Kd.S_drew)); exact (Kd.S_mono (SF (g := gb248) (Kd.S_types HO247.out BK248.out (by decide)) (fun _ hk => hk.2)) (fun _ h_ => h_.1))) (Kd.S_base ho1) hb); replace BK225 := Aside0.mk (blk_below (Kf BK225) hb); replace BK226 := Aside0.mk (blk_below (Kf BK226) hb); replace BK248 := Aside0.mk (blk_below (g := gb248) (o := .cells #[.slice Ao172 t242.length co172, .slice Ao176 t245.length co176] 31 (0, 0)) (by (with_reducible repeat (first | refine blk_drewN ?_ _ | refine blk_drew ?_ | refine blk_alloc ?_ _)); refine blk_put (cs := #[.slice Ao172 t242.length co172, .slice none 0 0]) ?_ 1 _ rfl; (with_reducible repeat (first | refine blk_drewN ?_ _ | refine blk_drew ?_ | refine blk_alloc ?_ _)); refine blk_put (cs := #[.slice none 0 0, .slice none 0 0]) ?_ 0 _ rfl; (with_reducible repeat (first | refine blk_drewN ?_ _ | refine blk_drew ?_ | refine blk_alloc ?_ _)); exact BK248.out) hb); replace HB := Bs HB hb; (try clear hb); (try clear hb2); (try clear hk); (try clear hi); (try clear ho0); (try clear ho1)) | ((with_reducible refine gate_dst (N := 8) rfl ?_); refine box_event ?hg (N := 8) ?hd (cs := #[.slice none 0 0, .slice none 0 0]) (t := 31) ?hr ?_; (case hd => rfl); (case hg => rfl); (case hr => first | (go_simp; done) | (go_simp; rfl)); intro gb255 hg w179 hbox hb; replace HO231 := Rb HO231 hb; replace HO234 := Aside0.mk (Kd.S_below (Sp HO234) hb); replace HO237 := Rb HO237 hb; replace HO240 := Aside0.mk (Kd.S_below (Sp HO240) hb); replace HO244 := Rb HO244 hb; replace HO247 := Aside0.mk (Kd.S_below (Sp HO247) hb); replace HO251 := Rb HO251 hb; replace HO254 := Aside0.mk (Kd.S_below (Sp HO254) hb); have BK255 := Aside0.mk (hbox); have GW255 := Aside0.mk ((by rw [hg]; exact (below_size (Bp HB)) : w.heap.size ≤ gb255)); have GE255 := Aside0.mk ((by rw [hg]; exact (below_size (Bp HB)) : w.heap.size ≤ gb255)); replace HB := Bs HB hb; have NB225_255 := Aside0.mk ((by rw [hg]; exact Nat.ne_of_lt (blk_lt (Kp BK225)) : gb225 ≠ gb255)); have NB255_225 := Aside0.mk ((by rw [hg]; exact Nat.ne_of_gt (blk_lt (Kp BK225)) : gb255 ≠ gb225)); replace BK225 := Kb BK225 hb; have NB226_255 := Aside0.mk ((by rw [hg]; exact Nat.ne_of_lt (blk_lt (Kp BK226)) : gb226 ≠ gb255)); have NB255_226 := Aside0.mk ((by rw [hg]; exact Nat.ne_of_gt (blk_lt (Kp BK226)) : gb255 ≠ gb226)); replace BK226 := Kb BK226 hb; have NB248_255 := Aside0.mk ((by rw [hg]; exact Nat.ne_of_lt (blk_lt (Kp BK248)) : gb248 ≠ gb255)); have NB255_248 := Aside0.mk ((by rw [hg]; exact Nat.ne_of_gt (blk_lt (Kp BK248)) : gb255 ≠ gb248)); replace BK248 := Kb BK248 hb; clear hb hbox hg; obtain ⟨Ao180, co180, eo180⟩ := Kd.R_slice HO251.out; subst eo180; have hnb181 := NB255_225.out; have hnc181 := NB225_255.out; have hnb182 := NB255_226.out; have hnc182 := NB226_255.out; have hnb183 := NB255_248.out; have hnc183 := NB248_255.out; obtain ⟨hcz184_0, hcz184_1⟩ := bc2 (W := w179) BK255.out; obtain ⟨hfz184_0, hfz184_1⟩ := bf2 BK255.out; obtain ⟨Ao185, co185, eo185⟩ := Kd.S_slice HO254.out; subst eo185; obtain ⟨hcz186_0, hcz186_1⟩ := bc2 (W := w179) BK248.out; obtain ⟨hfz186_0, hfz186_1⟩ := bf2 BK248.out) | ((with_reducible refine gate_callee (f := 12) rfl ?_); refine goesL_ (some 31) rfl rfl Try.func12 (by kernel_rfl) rfl #[.agg #[.slice Ao172 t242.length co172, .slice Ao176 t245.length co176], .agg #[.slice Ao180 t249.length co180, .slice Ao185 t252.length co185]] rfl (by (try simp only [List.map_toArray, List.map_cons, List.map_nil]); first | done | rfl | (simp only [List.length_drop, List.length_take]; rfl)) ?_; (with_reducible refine (impl_CodeSame.calls k _ _ t242 _ _ t245 _ _ t249 _ _ t252 t256 _ ?side1 ?side2 ?side3 ?side4 ?side5 ?side6 ?side7 ?side8 A24.out).mono ?_); (case side1 => refine (Kd.R_reads' (e := 70) (base := w.heap.size) (ok := fun k_ => (((True ∧ some k_ ≠ (.slice Ao164 t229.length co164 : Value).ownBlock) ∧ some k_ ≠ (.slice Ao166 t235.length co166 : Value).ownBlock) ∧ some k_ ≠ (.slice Ao180 t249.length co180 : Value).ownBlock)) (n := t242.length) (c := co172) ?_).2.2; exact (by (with_reducible repeat (first | apply Kd.R_alloc | apply Kd.R_drewN | apply Kd.R_drew)); exact (Kd.R_mono (RF (g := gb255) (Kd.R_types HO244.out BK255.out (by decide)) (fun _ hk => hk.2)) (fun _ h_ => h_.1)))); (case side2 => exact (Kd.R_reads' HO244.out).2.1); (case side3 => refine (Kd.S_reads' (e := 74) (base := w.heap.size) (ok := fun k_ => (((True ∧ some k_ ≠ (.slice Ao165 t232.length co165 : Value).ownBlock) ∧ some k_ ≠ (.slice Ao167 t238.length co167 : Value).ownBlock) ∧ some k_ ≠ (.slice Ao185 t252.length co185 : Value).ownBlock)) (n := t245.length) (c := co176) ?_).2.2; exact (by (with_reducible repeat (first | apply Kd.S_alloc | apply Kd.S_drewN | apply Kd.S_drew)); exact (Kd.S_mono (SF (g := gb255) (Kd.S_types HO247.out BK255.out (by decide)) (fun _ hk => hk.2)) (fun _ h_ => h_.1)))); (case side4 => exact (Kd.S_reads' HO247.out).2.1); (case side5 => refine (Kd.R_reads' (e := 70) (base := w.heap.size) (ok := fun k_ => (((True ∧ some k_ ≠ (.slice Ao164 t229.length co164 : Value).ownBlock) ∧ some k_ ≠ (.slice Ao166 t235.length co166 : Value).ownBlock) ∧ some k_ ≠ (.slice Ao172 t242.length co172 : Value).ownBlock)) (n := t249.length) (c := co180) ?_).2.2; exact (by (with_reducible repeat (first | apply Kd.R_alloc | apply Kd.R_drewN | apply Kd.R_drew)); exact (Kd.R_mono (RF (g := gb255) (Kd.R_types HO251.out BK255.out (by decide)) (fun _ hk => hk.2)) (fun _ h_ => h_.1)))); (case side6 => exact (Kd.R_reads' HO251.out).2.1); (case side7 => refine (Kd.S_reads' (e := 74) (base := w.heap.size) (ok := fun k_ => (((True ∧ some k_ ≠ (.slice Ao165 t232.length co165 : Value).ownBlock) ∧ some k_ ≠ (.slice Ao167 t238.length co167 : Value).ownBlock) ∧ some k_ ≠ (.slice Ao176 t245.length co176 : Value).ownBlock)) (n := t252.length) (c := co185) ?_).2.2; exact (by (with_reducible repeat (first | apply Kd.S_alloc | apply Kd.S_drewN | apply Kd.S_drew)); exact (Kd.S_mono (SF (g := gb255) (Kd.S_types HO254.out BK255.out (by decide)) (fun _ hk => hk.2)) (fun _ h_ => h_.1)))); (case side8 => exact (Kd.S_reads' HO254.out).2.1); rintro e w187 ⟨rfl, hb⟩; refine ⟨_, rfl, ?_⟩; replace HO231 := Aside0.mk (Kd.R_below (by (with_reducible repeat (first | apply Kd.R_alloc | apply Kd.R_drewN | apply Kd.R_drew)); exact (Kd.R_mono (RF (g := gb255) (Kd.R_types HO231.out BK255.out (by decide)) (fun _ hk => hk.2)) (fun _ h_ => h_.1))) hb); replace HO234 := Aside0.mk (Kd.S_below (by (with_reducible repeat (first | apply Kd.S_alloc | apply Kd.S_drewN | apply Kd.S_drew)); exact (Kd.S_mono (SF (g := gb255) (Kd.S_types HO234.out BK255.out (by decide)) (fun _ hk => hk.2)) (fun _ h_ => h_.1))) hb); replace HO237 := Aside0.mk (Kd.R_below (by (with_reducible repeat (first | apply Kd.R_alloc | apply Kd.R_drewN | apply Kd.R_drew)); exact (Kd.R_mono (RF (g := gb255) (Kd.R_types HO237.out BK255.out (by decide)) (fun _ hk => hk.2)) (fun _ h_ => h_.1))) hb); replace HO240 := Aside0.mk (Kd.S_below (by (with_reducible repeat (first | apply Kd.S_alloc | apply Kd.S_drewN | apply Kd.S_drew)); exact (Kd.S_mono (SF (g := gb255) (Kd.S_types HO240.out BK255.out (by decide)) (fun _ hk => hk.2)) (fun _ h_ => h_.1))) hb); replace HO244 := Aside0.mk (Kd.R_below (by (with_reducible repeat (first | apply Kd.R_alloc | apply Kd.R_drewN | apply Kd.R_drew)); exact (Kd.R_mono (RF (g := gb255) (Kd.R_types HO244.out BK255.out (by decide)) (fun _ hk => hk.2)) (fun _ h_ => h_.1))) hb); replace HO247 := Aside0.mk (Kd.S_below (by (with_reducible repeat (first | apply Kd.S_alloc | apply Kd.S_drewN | apply Kd.S_drew)); exact (Kd.S_mono (SF (g := gb255) (Kd.S_types HO247.out BK255.out (by decide)) (fun _ hk => hk.2)) (fun _ h_ => h_.1))) hb); replace HO251 := Aside0.mk (Kd.R_below (by (with_reducible repeat (first | apply Kd.R_alloc | apply Kd.R_drewN | apply Kd.R_drew)); exact (Kd.R_mono (RF (g := gb255) (Kd.R_types HO251.out BK255.out (by decide)) (fun _ hk => hk.2)) (fun _ h_ => h_.1))) hb); replace HO254 := Aside0.mk (Kd.S_below (by (with_reducible repeat (first | apply Kd.S_alloc | apply Kd.S_drewN | apply Kd.S_drew)); exact (Kd.S_mono (SF (g := gb255) (Kd.S_types HO254.out BK255.out (by decide)) (fun _ hk => hk.2)) (fun _ h_ => h_.1))) hb); replace BK225 := Aside0.mk (blk_below (Kf BK225) hb); replace BK226 := Aside0.mk (blk_below (Kf BK226) hb); replace BK248 := Aside0.mk (blk_below (Kf BK248) hb); replace BK255 := Aside0.mk (blk_below (g := gb255) (o := .cells #[.slice Ao180 t249.length co180, .slice Ao185 t252.length co185] 31 (0, 0)) (by (with_reducible repeat (first | refine blk_drewN ?_ _ | refine blk_drew ?_ | refine blk_alloc ?_ _)); refine blk_put (cs := #[.slice Ao180 t249.length co180, .slice none 0 0]) ?_ 1 _ rfl; (with_reducible repeat (first | refine blk_drewN ?_ _ | refine blk_drew ?_ | refine blk_alloc ?_ _)); refine blk_put (cs := #[.slice none 0 0, .slice none 0 0]) ?_ 0 _ rfl; (with_reducible repeat (first | refine blk_drewN ?_ _ | refine blk_drew ?_ | refine blk_alloc ?_ _)); exact BK255.out) hb); replace HB := Bs HB hb; (try clear hb); (try clear hb2); (try clear hk); (try clear hi)))
          replace HO231 := Aside0.mk (Kd.R_drew HO231.out)
          replace HO234 := Aside0.mk (Kd.S_drew HO234.out)
          replace HO237 := Aside0.mk (Kd.R_drew HO237.out)
          replace HO240 := Aside0.mk (Kd.S_drew HO240.out)
          replace HO244 := Aside0.mk (Kd.R_drew HO244.out)
          replace HO247 := Aside0.mk (Kd.S_drew HO247.out)
          replace HO251 := Aside0.mk (Kd.R_drew HO251.out)
          replace HO254 := Aside0.mk (Kd.S_drew HO254.out)
          replace BK225 := Aside0.mk (blk_drew BK225.out)
          replace BK226 := Aside0.mk (blk_drew BK226.out)
          replace BK248 := Aside0.mk (blk_drew BK248.out)
          replace BK255 := Aside0.mk (blk_drew BK255.out)
          replace HB := Aside0.mk (below_drew1 HB.out)
          refine start_ (n := 5) (S := fun w' => w'.cell? ⟨gb248, 0, none⟩ = some (.slice Ao172 t242.length co172) ∧ w'.cell? ⟨gb248, 1, none⟩ = some (.slice Ao176 t245.length co176) ∧ w'.cell? ⟨gb225, 0, none⟩ = some (.slice A0_0 l0_0.length c0_0) ∧ w'.cell? ⟨gb225, 1, none⟩ = some (.slice A0_1 l0_1.length c0_1)) (ds := []) #[false, false, false, false, false] (by kernel_rfl) rfl rfl ⟨(blk_cell BK248.out 0).trans rfl, (blk_cell BK248.out 1).trans rfl, (blk_cell BK225.out 0).trans rfl, (blk_cell BK225.out 1).trans rfl⟩ (fun hHeld => ?_)
          generalize w187.drew = w188 at HO231 HO234 HO237 HO240 HO244 HO247 HO251 HO254 BK225 BK226 BK248 BK255 HB hHeld ⊢
          refine take_ (i := 0) (N := some 35) (v := ?_) (a' := ?_) #[true, false, false, false, false] rfl rfl (by kernel_rfl) (fun _ _ _ h => h) (Or.inl ⟨by rfl, ?_⟩) hHeld ?_ ?_
          rotate_left
          · rintro w' ⟨s0, s1, s2, s3⟩
            go_simp
            with_reducible rfl
          rotate_left
          · simp only [Act.put, List.setIfInBounds_toArray, List.set_cons_zero, List.set_cons_succ, i64_w, i32_w]
            rfl
          refine take_ (i := 1) (N := some 36) (v := ?_) (a' := ?_) #[true, true, false, false, false] rfl rfl (by kernel_rfl) (fun _ _ _ h => h) (Or.inl ⟨by rfl, ?_⟩) hHeld ?_ ?_
          rotate_left
          · rintro w' ⟨s0, s1, s2, s3⟩
            go_simp
            with_reducible rfl
          rotate_left
          · simp only [Act.put, List.setIfInBounds_toArray, List.set_cons_zero, List.set_cons_succ, i64_w, i32_w]
            rfl
          refine one_ (i := 2) (N := some 37) #[true, true, true, false, false] rfl rfl (by kernel_rfl) (by decide) (fun K hK => ?_)
          refine goes_ Try.func11 (by kernel_rfl) rfl #[.agg #[.slice A0_0 l0_0.length c0_0, .slice A0_1 l0_1.length c0_1]] (by rfl) rfl rfl (by (try simp only [List.map_toArray, List.map_cons, List.map_nil]); first | done | rfl | (simp only [List.length_drop, List.length_take]; rfl)) ?_
          with_reducible refine (laws_toCodeObj.calls k _ _ l0_0 _ _ l0_1 t257 t260 _ ?side1 ?side2 ?side3 ?side4 A60.out).mono ?_
          (case side1 => exact Cb HR0_0 HB)
          (case side2 => exact HC0_0.out)
          (case side3 => exact Cb HR0_1 HB)
          (case side4 => exact HC0_1.out)
          rintro e w189 ⟨v258, v261, rfl, ho0, ho1, hb⟩
          refine ⟨_, rfl, ?_⟩
          have HO259 := Aside0.mk (Kd.R_lower (Kd.R_new' (Kd.R_new' (Kd.R_new' (Kd.R_new' ho0 (Rt HO231)) (Rt HO237)) (Rt HO244)) (Rt HO251)) (below_size (Bp HB)))
          replace HO231 := Aside0.mk (Re HO231 ho0 hb)
          replace HO237 := Aside0.mk (Re HO237 ho0 hb)
          replace HO244 := Aside0.mk (Re HO244 ho0 hb)
          replace HO251 := Aside0.mk (Re HO251 ho0 hb)
          have HO262 := Aside0.mk (Kd.S_lower (Kd.S_new' (Kd.S_new' (Kd.S_new' (Kd.S_new' ho1 (Kd.S_lt (Sp HO234))) (Kd.S_lt (Sp HO240))) (Kd.S_lt (Sp HO247))) (Kd.S_lt (Sp HO254))) (below_size (Bp HB)))
          replace HO234 := Aside0.mk (Kd.S_elder' (Sp HO234) (Kd.S_base ho1) hb)
          replace HO240 := Aside0.mk (Kd.S_elder' (Sp HO240) (Kd.S_base ho1) hb)
          replace HO247 := Aside0.mk (Kd.S_elder' (Sp HO247) (Kd.S_base ho1) hb)
          replace HO254 := Aside0.mk (Kd.S_elder' (Sp HO254) (Kd.S_base ho1) hb)
          replace BK225 := Kb BK225 hb
          replace BK226 := Kb BK226 hb
          replace BK248 := Kb BK248 hb
          replace BK255 := Kb BK255 hb
          replace HB := Bs HB hb
          (try clear hb)
          (try clear hb2)
          (try clear hk)
          (try clear hi)
          (try clear ho0)
          (try clear ho1)
          obtain ⟨Ao190, co190, eo190⟩ := Kd.R_slice HO259.out
          (first | subst eo190 | (injection eo190 with f1_ f2_ f3_; have f4_ := f1_.symm; have f5_ := f3_.symm; clear f1_ f2_ f3_; subst f4_; subst f5_))
          obtain ⟨Ao191, co191, eo191⟩ := Kd.S_slice HO262.out
          (first | subst eo191 | (injection eo191 with f1_ f2_ f3_; have f4_ := f1_.symm; have f5_ := f3_.symm; clear f1_ f2_ f3_; subst f4_; subst f5_))
          refine hK.out _ _ ⟨(blk_cell BK248.out 0).trans rfl, (blk_cell BK248.out 1).trans rfl, (blk_cell BK225.out 0).trans rfl, (blk_cell BK225.out 1).trans rfl⟩ (fun hHeld => ?_)
          clear hK K
          refine norm_ (a' := ?_) ?_ ?_
          rotate_left
          · show Act.put _ (some 37) _ = _
            simp only [Act.put, List.setIfInBounds_toArray, List.set_cons_zero, List.set_cons_succ, i64_w, i32_w]
            rfl
          refine one_ (i := 3) (N := some 38) #[true, true, true, true, false] rfl rfl (by kernel_rfl) (by decide) (fun K hK => ?_)
          refine goes_ Try.func13 (by kernel_rfl) rfl #[.agg #[.slice Ao172 t242.length co172, .slice Ao176 t245.length co176], .agg #[.slice Ao190 t257.length co190, .slice Ao191 t260.length co191]] (by rfl) rfl rfl (by (try simp only [List.map_toArray, List.map_cons, List.map_nil]); first | done | rfl | (simp only [List.length_drop, List.length_take]; rfl)) ?_
          with_reducible refine (laws_eqCodeObj.calls k _ _ t242 _ _ t245 _ _ t257 _ _ t260 false _ ?side1 ?side2 ?side3 ?side4 ?side5 ?side6 ?side7 ?side8 A61.out).mono ?_
          (case side1 => repeat (first | exact (Kd.R_reads' HO244.out).2.2 | (with_reducible refine Kd.C_alloc ?_ _) | (with_reducible refine Kd.C_drewN ?_ _) | (with_reducible refine Kd.C_drew ?_)))
          (case side2 => exact (Kd.R_reads' HO244.out).2.1)
          (case side3 => repeat (first | exact (Kd.S_reads' HO247.out).2.2 | (with_reducible refine Kd.C_alloc ?_ _) | (with_reducible refine Kd.C_drewN ?_ _) | (with_reducible refine Kd.C_drew ?_)))
          (case side4 => exact (Kd.S_reads' HO247.out).2.1)
          (case side5 => repeat (first | exact (Kd.R_reads' HO259.out).2.2 | (with_reducible refine Kd.C_alloc ?_ _) | (with_reducible refine Kd.C_drewN ?_ _) | (with_reducible refine Kd.C_drew ?_)))
          (case side6 => exact (Kd.R_reads' HO259.out).2.1)
          (case side7 => repeat (first | exact (Kd.S_reads' HO262.out).2.2 | (with_reducible refine Kd.C_alloc ?_ _) | (with_reducible refine Kd.C_drewN ?_ _) | (with_reducible refine Kd.C_drew ?_)))
          (case side8 => exact (Kd.S_reads' HO262.out).2.1)
          rintro e w192 ⟨rfl, hb⟩
          refine ⟨_, rfl, ?_⟩
          replace HO231 := Rb HO231 hb
          replace HO234 := Aside0.mk (Kd.S_below (Sp HO234) hb)
          replace HO237 := Rb HO237 hb
          replace HO240 := Aside0.mk (Kd.S_below (Sp HO240) hb)
          replace HO244 := Rb HO244 hb
          replace HO247 := Aside0.mk (Kd.S_below (Sp HO247) hb)
          replace HO251 := Rb HO251 hb
          replace HO254 := Aside0.mk (Kd.S_below (Sp HO254) hb)
          replace HO259 := Rb HO259 hb
          replace HO262 := Aside0.mk (Kd.S_below (Sp HO262) hb)
          replace BK225 := Kb BK225 hb
          replace BK226 := Kb BK226 hb
          replace BK248 := Kb BK248 hb
          replace BK255 := Kb BK255 hb
          replace HB := Bs HB hb
          (try clear hb)
          (try clear hb2)
          (try clear hk)
          (try clear hi)
          refine hK.out _ _ ⟨(blk_cell BK248.out 0).trans rfl, (blk_cell BK248.out 1).trans rfl, (blk_cell BK225.out 0).trans rfl, (blk_cell BK225.out 1).trans rfl⟩ (fun hHeld => ?_)
          clear hK K
          refine norm_ (a' := ?_) ?_ ?_
          rotate_left
          · show Act.put _ (some 38) _ = _
            simp only [Act.put, List.setIfInBounds_toArray, List.set_cons_zero, List.set_cons_succ, i64_w, i32_w]
            rfl
          refine pure_ (i := 4) (N := some 39) (v := ?_) (a' := ?_) #[true, true, true, true, true] rfl rfl (by kernel_rfl) (fun _ _ _ h => h) (Or.inl ⟨by rfl, ?_⟩) ?_ ?_
          rotate_left
          · intro w'
            go_simp
            with_reducible rfl
          rotate_left
          · simp only [Act.put, List.setIfInBounds_toArray, List.set_cons_zero, List.set_cons_succ, i64_w, i32_w]
            rfl
          refine done_ (by kernel_rfl) ?_
          try go_wp2
          go_ret
          exact ⟨by first | rfl | (simp [errW_none, errW_some] <;> rfl) | (simp [*, errW_none, errW_some] <;> rfl), Bp HB⟩

end Go.Proofs.Ytnebeklmfenikaa.Q
