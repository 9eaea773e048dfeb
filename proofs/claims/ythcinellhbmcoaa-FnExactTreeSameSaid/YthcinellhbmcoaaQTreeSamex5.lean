-- written by xprint.py, a program of this session, out of the translation: Lean checks it
import Derived.Test.YthcinellhbmcoaaQTreeSamex0
import Derived.Test.YthcinellhbmcoaaQTreeSamex3
import Derived.Test.YthcinellhbmcoaaQTreeSamex4
namespace Go.Proofs.Ythcinellhbmcoaa.Q
open Go.RowKit Go.Proofs.YthcinellhbmcoaaW.PrintWords Go.Proofs.YthcinellhbmcoaaW.PrintLast Go.Proofs.YthcinellhbmcoaaW.PrintMore
attribute [local go_sem] max2_int min2_int max_two min_two max_three min_three max_four min_four   -- for this text's walks alone
set_option linter.unusedVariables false
set_option linter.unusedSimpArgs false

/-! ### spec_TreeSame: function 13 -/
mutual
def spec_TreeSame.j0 : Nat → Bool → List ByteArray → List (S45) → List (S43) → List ByteArray → List (S45) → List (S43) → Option (Bool)
  | 0, _, _, _, _, _, _, _ => none
  | k + 1, x30, x131000, x131001, x131002, x132000, x132001, x132002 => if x30 = true then (some false) else (spec_TreeSame.l0 k 0 x131000 x131001 x131002 x132000 x132001 x132002)
def spec_TreeSame.l0 : Nat → Int → List ByteArray → List (S45) → List (S43) → List ByteArray → List (S45) → List (S43) → Option (Bool)
  | 0, _, _, _, _, _, _, _ => none
  | k + 1, x5, x131000, x131001, x131002, x132000, x132001, x132002 => if x5 < (x131001.length : Int) then (if 0 ≤ x5 then (if x5 < (x132001.length : Int) then ((spec_l2SameFun.f k ((rd_T45 x131001 x5).f0) ((rd_T45 x131001 x5).f1) ((rd_T45 x131001 x5).f2) ((rd_T45 x131001 x5).f3) ((rd_T45 x131001 x5).f4.f0) ((rd_T45 x131001 x5).f4.f1) ((rd_T45 x131001 x5).f4.f2) ((rd_T45 x131001 x5).f4.f3) ((rd_T45 x131001 x5).f4.f4) ((rd_T45 x132001 x5).f0) ((rd_T45 x132001 x5).f1) ((rd_T45 x132001 x5).f2) ((rd_T45 x132001 x5).f3) ((rd_T45 x132001 x5).f4.f0) ((rd_T45 x132001 x5).f4.f1) ((rd_T45 x132001 x5).f4.f2) ((rd_T45 x132001 x5).f4.f3) ((rd_T45 x132001 x5).f4.f4)).bind fun t135 => (if t135 = true then (spec_TreeSame.l0 k (wrap64 (x5 + 1)) x131000 x131001 x131002 x132000 x132001 x132002) else (some false))) else (none)) else (none)) else (spec_TreeSame.l1 k 0 x131000 x131001 x131002 x132000 x132001 x132002)
def spec_TreeSame.l1 : Nat → Int → List ByteArray → List (S45) → List (S43) → List ByteArray → List (S45) → List (S43) → Option (Bool)
  | 0, _, _, _, _, _, _, _ => none
  | k + 1, x6, x131000, x131001, x131002, x132000, x132001, x132002 => if x6 < (x131002.length : Int) then (if 0 ≤ x6 then (if x6 < (x132002.length : Int) then ((spec_l2SameExpr.f k ((rd_T43 x131002 x6).f0) ((rd_T43 x131002 x6).f1) ((rd_T43 x131002 x6).f2) ((rd_T43 x131002 x6).f3) ((rd_T43 x131002 x6).f4) ((rd_T43 x132002 x6).f0) ((rd_T43 x132002 x6).f1) ((rd_T43 x132002 x6).f2) ((rd_T43 x132002 x6).f3) ((rd_T43 x132002 x6).f4)).bind fun t138 => (if t138 = true then (spec_TreeSame.l1 k (wrap64 (x6 + 1)) x131000 x131001 x131002 x132000 x132001 x132002) else (some false))) else (none)) else (none)) else (some true)
end
def spec_TreeSame.f (k : Nat) (l0_0 : List ByteArray) (l0_1 : List (S45)) (l0_2 : List (S43)) (l1_0 : List ByteArray) (l1_1 : List (S45)) (l1_2 : List (S43)) : Option (Bool) := (spec_l2Strings.f k l0_0 l1_0).bind fun t132 => (if t132 = true then (if (l0_1.length : Int) = (l1_1.length : Int) then (spec_TreeSame.j0 k ((l0_2.length : Int) != (l1_2.length : Int)) l0_0 l0_1 l0_2 l1_0 l1_1 l1_2) else (spec_TreeSame.j0 k true l0_0 l0_1 l0_2 l1_0 l1_1 l1_2)) else (spec_TreeSame.j0 k true l0_0 l0_1 l0_2 l1_0 l1_1 l1_2))
theorem spec_TreeSame.mono_l : ∀ k, (∀ y0 y1 y2 y3 y4 y5 y6, LeO (spec_TreeSame.j0 k y0 y1 y2 y3 y4 y5 y6) (spec_TreeSame.j0 (k + 1) y0 y1 y2 y3 y4 y5 y6)) ∧ (∀ y0 y1 y2 y3 y4 y5 y6, LeO (spec_TreeSame.l0 k y0 y1 y2 y3 y4 y5 y6) (spec_TreeSame.l0 (k + 1) y0 y1 y2 y3 y4 y5 y6)) ∧ (∀ y0 y1 y2 y3 y4 y5 y6, LeO (spec_TreeSame.l1 k y0 y1 y2 y3 y4 y5 y6) (spec_TreeSame.l1 (k + 1) y0 y1 y2 y3 y4 y5 y6))
  | 0 => ⟨fun _ _ _ _ _ _ _ r h => by simp [spec_TreeSame.j0] at h, fun _ _ _ _ _ _ _ r h => by simp [spec_TreeSame.l0] at h, fun _ _ _ _ _ _ _ r h => by simp [spec_TreeSame.l1] at h⟩
  | k + 1 => by
    obtain ⟨ih0, ih1, ih2⟩ := spec_TreeSame.mono_l k
    refine ⟨?_, ?_, ?_⟩
    · intro y0 y1 y2 y3 y4 y5 y6
      unfold spec_TreeSame.j0
      repeat' first
      | (with_reducible exact ih0 _ _ _ _ _ _ _)
      | (with_reducible exact ih1 _ _ _ _ _ _ _)
      | (with_reducible exact ih2 _ _ _ _ _ _ _)
      | (with_reducible exact spec_l2SameExpr.mono _ _ _ _ _ _ _ _ _ _ _)
      | (with_reducible exact spec_l2SameFun.mono _ _ _ _ _ _ _ _ _ _ _ _ _ _ _ _ _ _ _)
      | (with_reducible exact spec_l2Strings.mono _ _ _)
      | (with_reducible exact LeO.refl _)
      | (with_reducible exact LeO.none _)
      | (with_reducible refine LeO.ite ?_ ?_)
      | (with_reducible refine LeO.bind ?_ (fun _ => ?_))
      | exact ih0 _ _ _ _ _ _ _
      | exact ih1 _ _ _ _ _ _ _
      | exact ih2 _ _ _ _ _ _ _
      | exact spec_l2SameExpr.mono _ _ _ _ _ _ _ _ _ _ _
      | exact spec_l2SameFun.mono _ _ _ _ _ _ _ _ _ _ _ _ _ _ _ _ _ _ _
      | exact spec_l2Strings.mono _ _ _
      | exact LeO.none _
      | refine LeO.ite ?_ ?_
      | refine LeO.bind ?_ (fun _ => ?_)
    · intro y0 y1 y2 y3 y4 y5 y6
      unfold spec_TreeSame.l0
      repeat' first
      | (with_reducible exact ih0 _ _ _ _ _ _ _)
      | (with_reducible exact ih1 _ _ _ _ _ _ _)
      | (with_reducible exact ih2 _ _ _ _ _ _ _)
      | (with_reducible exact spec_l2SameExpr.mono _ _ _ _ _ _ _ _ _ _ _)
      | (with_reducible exact spec_l2SameFun.mono _ _ _ _ _ _ _ _ _ _ _ _ _ _ _ _ _ _ _)
      | (with_reducible exact spec_l2Strings.mono _ _ _)
      | (with_reducible exact LeO.refl _)
      | (with_reducible exact LeO.none _)
      | (with_reducible refine LeO.ite ?_ ?_)
      | (with_reducible refine LeO.bind ?_ (fun _ => ?_))
      | exact ih0 _ _ _ _ _ _ _
      | exact ih1 _ _ _ _ _ _ _
      | exact ih2 _ _ _ _ _ _ _
      | exact spec_l2SameExpr.mono _ _ _ _ _ _ _ _ _ _ _
      | exact spec_l2SameFun.mono _ _ _ _ _ _ _ _ _ _ _ _ _ _ _ _ _ _ _
      | exact spec_l2Strings.mono _ _ _
      | exact LeO.none _
      | refine LeO.ite ?_ ?_
      | refine LeO.bind ?_ (fun _ => ?_)
    · intro y0 y1 y2 y3 y4 y5 y6
      unfold spec_TreeSame.l1
      repeat' first
      | (with_reducible exact ih0 _ _ _ _ _ _ _)
      | (with_reducible exact ih1 _ _ _ _ _ _ _)
      | (with_reducible exact ih2 _ _ _ _ _ _ _)
      | (with_reducible exact spec_l2SameExpr.mono _ _ _ _ _ _ _ _ _ _ _)
      | (with_reducible exact spec_l2SameFun.mono _ _ _ _ _ _ _ _ _ _ _ _ _ _ _ _ _ _ _)
      | (with_reducible exact spec_l2Strings.mono _ _ _)
      | (with_reducible exact LeO.refl _)
      | (with_reducible exact LeO.none _)
      | (with_reducible refine LeO.ite ?_ ?_)
      | (with_reducible refine LeO.bind ?_ (fun _ => ?_))
      | exact ih0 _ _ _ _ _ _ _
      | exact ih1 _ _ _ _ _ _ _
      | exact ih2 _ _ _ _ _ _ _
      | exact spec_l2SameExpr.mono _ _ _ _ _ _ _ _ _ _ _
      | exact spec_l2SameFun.mono _ _ _ _ _ _ _ _ _ _ _ _ _ _ _ _ _ _ _
      | exact spec_l2Strings.mono _ _ _
      | exact LeO.none _
      | refine LeO.ite ?_ ?_
      | refine LeO.bind ?_ (fun _ => ?_)
theorem spec_TreeSame.mono : ∀ a0 a1 a2 a3 a4 a5 k, LeO (spec_TreeSame.f k a0 a1 a2 a3 a4 a5) (spec_TreeSame.f (k + 1) a0 a1 a2 a3 a4 a5) := by
  intro a0 a1 a2 a3 a4 a5 k
  obtain ⟨ih0, ih1, ih2⟩ := spec_TreeSame.mono_l k
  unfold spec_TreeSame.f
  repeat' first
      | (with_reducible exact ih0 _ _ _ _ _ _ _)
      | (with_reducible exact ih1 _ _ _ _ _ _ _)
      | (with_reducible exact ih2 _ _ _ _ _ _ _)
      | (with_reducible exact spec_l2SameExpr.mono _ _ _ _ _ _ _ _ _ _ _)
      | (with_reducible exact spec_l2SameFun.mono _ _ _ _ _ _ _ _ _ _ _ _ _ _ _ _ _ _ _)
      | (with_reducible exact spec_l2Strings.mono _ _ _)
      | (with_reducible exact LeO.refl _)
      | (with_reducible exact LeO.none _)
      | (with_reducible refine LeO.ite ?_ ?_)
      | (with_reducible refine LeO.bind ?_ (fun _ => ?_))
      | exact ih0 _ _ _ _ _ _ _
      | exact ih1 _ _ _ _ _ _ _
      | exact ih2 _ _ _ _ _ _ _
      | exact spec_l2SameExpr.mono _ _ _ _ _ _ _ _ _ _ _
      | exact spec_l2SameFun.mono _ _ _ _ _ _ _ _ _ _ _ _ _ _ _ _ _ _ _
      | exact spec_l2Strings.mono _ _ _
      | exact LeO.none _
      | refine LeO.ite ?_ ?_
      | refine LeO.bind ?_ (fun _ => ?_)
def spec_TreeSame.T6 : Bool × List (List Nat × List Nat) := (true, [([], []), ([0], [0]), ([], []), ([1, 2], [1, 2]), ([3], [3]), ([], []), ([5], [5]), ([], []), ([6, 7], [6, 7]), ([8], [8]), ([4, 9], [4, 9]), ([10], [10])])
def spec_TreeSame.B6 : List Nat := [0, 1, 0, 7, 15, 0, 32, 0, 224, 480, 1023, 2047]
theorem spec_TreeSame.tab6 : rtab .any (opsOf Try.f13 6) = spec_TreeSame.T6 := by kernel_rfl
theorem spec_TreeSame.bits6 : waitsOk spec_TreeSame.T6.2 spec_TreeSame.B6 = true := by kernel_rfl
def spec_TreeSame.T11 : Bool × List (List Nat × List Nat) := (true, [([], []), ([0], [0]), ([], []), ([1, 2], [1, 2]), ([3], [3]), ([], []), ([5], [5]), ([], []), ([6, 7], [6, 7]), ([8], [8]), ([4, 9], [4, 9]), ([10], [10])])
def spec_TreeSame.B11 : List Nat := [0, 1, 0, 7, 15, 0, 32, 0, 224, 480, 1023, 2047]
theorem spec_TreeSame.tab11 : rtab .any (opsOf Try.f13 11) = spec_TreeSame.T11 := by kernel_rfl
theorem spec_TreeSame.bits11 : waitsOk spec_TreeSame.T11.2 spec_TreeSame.B11 = true := by kernel_rfl
set_option maxHeartbeats 8000000 in
set_option maxRecDepth 100000 in
theorem spec_TreeSame.calls (k : Nat) (A0_0 : Option Addr) (c0_0 : Nat) (l0_0 : List ByteArray) (A0_1 : Option Addr) (c0_1 : Nat) (l0_1 : List (S45)) (A0_2 : Option Addr) (c0_2 : Nat) (l0_2 : List (S43)) (A1_0 : Option Addr) (c1_0 : Nat) (l1_0 : List ByteArray) (A1_1 : Option Addr) (c1_1 : Nat) (l1_1 : List (S45)) (A1_2 : Option Addr) (c1_2 : Nat) (l1_2 : List (S43)) (r : Bool) (w : World) (hr0_0 : Kd.C Kd.string w A0_0 l0_0.length l0_0) (hc0_0 : l0_0.length ≤ c0_0) (hr0_1 : Kd.C k45 w A0_1 l0_1.length l0_1) (hc0_1 : l0_1.length ≤ c0_1) (hr0_2 : Kd.C k43 w A0_2 l0_2.length l0_2) (hc0_2 : l0_2.length ≤ c0_2) (hr1_0 : Kd.C Kd.string w A1_0 l1_0.length l1_0) (hc1_0 : l1_0.length ≤ c1_0) (hr1_1 : Kd.C k45 w A1_1 l1_1.length l1_1) (hc1_1 : l1_1.length ≤ c1_1) (hr1_2 : Kd.C k43 w A1_2 l1_2.length l1_2) (hc1_2 : l1_2.length ≤ c1_2) (h : spec_TreeSame.f k l0_0 l0_1 l0_2 l1_0 l1_1 l1_2 = some r) :
    Calls Try.prog 13 #[.agg #[.slice A0_0 l0_0.length c0_0, .slice A0_1 l0_1.length c0_1, .slice A0_2 l0_2.length c0_2], .agg #[.slice A1_0 l1_0.length c1_0, .slice A1_1 l1_1.length c1_1, .slice A1_2 l1_2.length c1_2]] w fun e w' => e = .returned (.bool r) ∧ Below w.heap.size w w' := by
  have hu32 := Try.underlying32
  have hu45 := Try.underlying45
  have hu43 := Try.underlying43
  have HR0_0 := Aside0.mk hr0_0
  have HC0_0 := Aside0.mk hc0_0
  clear hr0_0 hc0_0
  have HR0_1 := Aside0.mk hr0_1
  have HC0_1 := Aside0.mk hc0_1
  clear hr0_1 hc0_1
  have HR0_2 := Aside0.mk hr0_2
  have HC0_2 := Aside0.mk hc0_2
  clear hr0_2 hc0_2
  have HR1_0 := Aside0.mk hr1_0
  have HC1_0 := Aside0.mk hc1_0
  clear hr1_0 hc1_0
  have HR1_1 := Aside0.mk hr1_1
  have HC1_1 := Aside0.mk hc1_1
  clear hr1_1 hc1_1
  have HR1_2 := Aside0.mk hr1_2
  have HC1_2 := Aside0.mk hc1_2
  clear hr1_2 hc1_2
  have HB := Aside0.mk (Below.refl w.heap.size w)
  have H : ((spec_l2Strings.f k l0_0 l1_0).bind fun t132 => (if t132 = true then (if (l0_1.length : Int) = (l1_1.length : Int) then (spec_TreeSame.j0 k ((l0_2.length : Int) != (l1_2.length : Int)) l0_0 l0_1 l0_2 l1_0 l1_1 l1_2) else (spec_TreeSame.j0 k true l0_0 l0_1 l0_2 l1_0 l1_1 l1_2)) else (spec_TreeSame.j0 k true l0_0 l0_1 l0_2 l1_0 l1_1 l1_2))) = some r := h
  clear h
  have HC3 := Aside0.mk H
  clear H
  go_enter Try.func13, Try.ntmps13
  go_upto_region 1 with (first | ((with_reducible refine gate_dst (N := 2) rfl ?_); (try (refine gate_guard (by rfl) ?_; dsimp only)); refine box_event ?hg (N := 2) ?hd (cs := #[.slice A0_0 l0_0.length c0_0, .slice A0_1 l0_1.length c0_1, .slice A0_2 l0_2.length c0_2]) (t := 32) ?hr ?_; (case hd => rfl); (case hg => rfl); (case hr => first | (go_simp; done) | (go_simp; rfl)); intro gb130 hg w4 hbox hb; have BK130 := Aside0.mk (hbox); have GW130 := Aside0.mk ((by rw [hg]; exact (below_size (Bp HB)) : w.heap.size ≤ gb130)); have GE130 := Aside0.mk ((by rw [hg]; exact (below_size (Bp HB)) : w.heap.size ≤ gb130)); replace HB := Bs HB hb; clear hb hbox hg) | ((with_reducible refine gate_dst (N := 3) rfl ?_); (try (refine gate_guard (by rfl) ?_; dsimp only)); refine box_event ?hg (N := 3) ?hd (cs := #[.slice A1_0 l1_0.length c1_0, .slice A1_1 l1_1.length c1_1, .slice A1_2 l1_2.length c1_2]) (t := 32) ?hr ?_; (case hd => rfl); (case hg => rfl); (case hr => first | (go_simp; done) | (go_simp; rfl)); intro gb131 hg w5 hbox hb; have BK131 := Aside0.mk (hbox); have GW131 := Aside0.mk ((by rw [hg]; exact (below_size (Bp HB)) : w.heap.size ≤ gb131)); have GE131 := Aside0.mk ((by rw [hg]; exact (below_size (Bp HB)) : w.heap.size ≤ gb131)); replace HB := Bs HB hb; have NB130_131 := Aside0.mk ((by rw [hg]; exact Nat.ne_of_lt (blk_lt (Kp BK130)) : gb130 ≠ gb131)); have NB131_130 := Aside0.mk ((by rw [hg]; exact Nat.ne_of_gt (blk_lt (Kp BK130)) : gb131 ≠ gb130)); replace BK130 := Kb BK130 hb; clear hb hbox hg))
  (try simp only [Act.put, List.setIfInBounds_toArray, List.set_cons_zero, List.set_cons_succ])
  go_cut [30] (fun v30 wc => ∃ (kq : Nat) (x30_2 : Bool), v30 = .bool x30_2 ∧ Aside0 (spec_TreeSame.j0 kq x30_2 l0_0 l0_1 l0_2 l1_0 l1_1 l1_2 = some r) ∧ Aside0 (kq ≤ k) ∧ Aside0 (wc.heap[gb130]? = some (.cells #[(.slice A0_0 l0_0.length c0_0), (.slice A0_1 l0_1.length c0_1), (.slice A0_2 l0_2.length c0_2)] 32 (0, 0))) ∧ Aside0 (wc.heap[gb131]? = some (.cells #[(.slice A1_0 l1_0.length c1_0), (.slice A1_1 l1_1.length c1_1), (.slice A1_2 l1_2.length c1_2)] 32 (0, 0))) ∧ Aside0 (Below w.heap.size w wc))
  case first =>
    have H := HC3.out
    clear HC3
    replace H := Option.bind_eq_some_iff.mp H
    obtain ⟨t132, A60, H⟩ := H
    replace H : (if t132 = true then (if (l0_1.length : Int) = (l1_1.length : Int) then (spec_TreeSame.j0 k ((l0_2.length : Int) != (l1_2.length : Int)) l0_0 l0_1 l0_2 l1_0 l1_1 l1_2) else (spec_TreeSame.j0 k true l0_0 l0_1 l0_2 l1_0 l1_1 l1_2)) else (spec_TreeSame.j0 k true l0_0 l0_1 l0_2 l1_0 l1_1 l1_2)) = some r := H
    have A6 := Aside0.mk A60
    clear A60
    by_cases c7 : t132 = true
    · subst c7
      have H1 : (if (l0_1.length : Int) = (l1_1.length : Int) then (spec_TreeSame.j0 k ((l0_2.length : Int) != (l1_2.length : Int)) l0_0 l0_1 l0_2 l1_0 l1_1 l1_2) else (spec_TreeSame.j0 k true l0_0 l0_1 l0_2 l1_0 l1_1 l1_2)) = some r := by rw [if_pos rfl] at H; exact H
      clear H
      have H := H1
      clear H1
      by_cases c8 : (l0_1.length : Int) = (l1_1.length : Int)
      · rw [if_pos c8] at H
        have c8b0 : ((l0_1.length : Int) == (l1_1.length : Int)) = true := beq_iff_eq.mpr c8
        have c8b1 : ((l0_1.length : Int) != (l1_1.length : Int)) = false := bne_eq_false_iff_eq.mpr c8
        have c8b2 : (l0_1.length == l1_1.length) = true := by first | simpa using c8 | (simp at c8 ⊢; omega)
        clear c8
        (first | rw [c8b0] | (simp only [i64_w, i32_w]; rw [c8b0]) | skip)
        have H' := Aside0.mk H
        clear H
        have hnb9 := NB130_131.out
        have hnc9 := NB131_130.out
        obtain ⟨hcz10_0, hcz10_1, hcz10_2⟩ := bc3 (W := w5) BK130.out
        obtain ⟨hfz10_0, hfz10_1, hfz10_2⟩ := bf3 BK130.out
        obtain ⟨hcz11_0, hcz11_1, hcz11_2⟩ := bc3 (W := w5) BK131.out
        obtain ⟨hfz11_0, hfz11_1, hfz11_2⟩ := bf3 BK131.out
        go_wp2_with (first | ((with_reducible refine gate_callee (f := 48) rfl ?_); refine goesL_ (some 11) rfl rfl Try.func48 (by kernel_rfl) rfl #[.slice A0_0 l0_0.length c0_0, .slice A1_0 l1_0.length c1_0] rfl (by (try simp only [List.map_toArray, List.map_cons, List.map_nil]); first | done | rfl | (simp only [List.length_drop, List.length_take]; rfl)) ?_; (with_reducible refine (spec_l2Strings.calls k _ _ l0_0 _ _ l1_0 true _ ?side1 ?side2 ?side3 ?side4 A6.out).mono ?_); (case side1 => exact Cb HR0_0 HB); (case side2 => exact HC0_0.out); (case side3 => exact Cb HR1_0 HB); (case side4 => exact HC1_0.out); rintro e w' ⟨rfl, ⟨nd, rfl⟩⟩; refine ⟨_, rfl, ?_⟩))
        go_meet
        case rel => exact ⟨_, (((l0_2.length : Int) != (l1_2.length : Int))), (by first | rfl | (simp; done) | (simp [*]; done)), H', ⟨by first | omega | exact Nat.le_refl _⟩, ⟨by (with_reducible repeat (first | refine blk_drewN ?_ _ | refine blk_drew ?_ | refine blk_alloc ?_ _)); exact BK130.out⟩, ⟨by (with_reducible repeat (first | refine blk_drewN ?_ _ | refine blk_drew ?_ | refine blk_alloc ?_ _)); exact BK131.out⟩, ⟨Bp HB⟩⟩
      · rw [if_neg c8] at H
        have c8b0 : ((l0_1.length : Int) == (l1_1.length : Int)) = false := beq_eq_false_iff_ne.mpr c8
        have c8b1 : ((l0_1.length : Int) != (l1_1.length : Int)) = true := bne_iff_ne.mpr c8
        have c8b2 : (l0_1.length == l1_1.length) = false := by first | simpa using c8 | (simp at c8 ⊢; omega)
        (first | rw [c8b0] | (simp only [i64_w, i32_w]; rw [c8b0]) | skip)
        have H' := Aside0.mk H
        clear H
        have hnb12 := NB130_131.out
        have hnc12 := NB131_130.out
        obtain ⟨hcz13_0, hcz13_1, hcz13_2⟩ := bc3 (W := w5) BK130.out
        obtain ⟨hfz13_0, hfz13_1, hfz13_2⟩ := bf3 BK130.out
        obtain ⟨hcz14_0, hcz14_1, hcz14_2⟩ := bc3 (W := w5) BK131.out
        obtain ⟨hfz14_0, hfz14_1, hfz14_2⟩ := bf3 BK131.out
        go_wp2_with (first | ((with_reducible refine gate_callee (f := 48) rfl ?_); refine goesL_ (some 11) rfl rfl Try.func48 (by kernel_rfl) rfl #[.slice A0_0 l0_0.length c0_0, .slice A1_0 l1_0.length c1_0] rfl (by (try simp only [List.map_toArray, List.map_cons, List.map_nil]); first | done | rfl | (simp only [List.length_drop, List.length_take]; rfl)) ?_; (with_reducible refine (spec_l2Strings.calls k _ _ l0_0 _ _ l1_0 true _ ?side1 ?side2 ?side3 ?side4 A6.out).mono ?_); (case side1 => exact Cb HR0_0 HB); (case side2 => exact HC0_0.out); (case side3 => exact Cb HR1_0 HB); (case side4 => exact HC1_0.out); rintro e w' ⟨rfl, ⟨nd, rfl⟩⟩; refine ⟨_, rfl, ?_⟩))
        go_meet
        case rel => exact ⟨_, (true), (by first | rfl | (simp; done) | (simp [*]; done)), H', ⟨by first | omega | exact Nat.le_refl _⟩, ⟨by (with_reducible repeat (first | refine blk_drewN ?_ _ | refine blk_drew ?_ | refine blk_alloc ?_ _)); exact BK130.out⟩, ⟨by (with_reducible repeat (first | refine blk_drewN ?_ _ | refine blk_drew ?_ | refine blk_alloc ?_ _)); exact BK131.out⟩, ⟨Bp HB⟩⟩
    · replace c7 := Bool.eq_false_iff.mpr c7
      subst c7
      have H1 : (spec_TreeSame.j0 k true l0_0 l0_1 l0_2 l1_0 l1_1 l1_2) = some r := by rw [if_neg (show ¬ (false = true) by decide)] at H; exact H
      clear H
      have H := H1
      clear H1
      have H' := Aside0.mk H
      clear H
      have hnb15 := NB130_131.out
      have hnc15 := NB131_130.out
      obtain ⟨hcz16_0, hcz16_1, hcz16_2⟩ := bc3 (W := w5) BK130.out
      obtain ⟨hfz16_0, hfz16_1, hfz16_2⟩ := bf3 BK130.out
      obtain ⟨hcz17_0, hcz17_1, hcz17_2⟩ := bc3 (W := w5) BK131.out
      obtain ⟨hfz17_0, hfz17_1, hfz17_2⟩ := bf3 BK131.out
      go_wp2_with (first | ((with_reducible refine gate_callee (f := 48) rfl ?_); refine goesL_ (some 11) rfl rfl Try.func48 (by kernel_rfl) rfl #[.slice A0_0 l0_0.length c0_0, .slice A1_0 l1_0.length c1_0] rfl (by (try simp only [List.map_toArray, List.map_cons, List.map_nil]); first | done | rfl | (simp only [List.length_drop, List.length_take]; rfl)) ?_; (with_reducible refine (spec_l2Strings.calls k _ _ l0_0 _ _ l1_0 false _ ?side1 ?side2 ?side3 ?side4 A6.out).mono ?_); (case side1 => exact Cb HR0_0 HB); (case side2 => exact HC0_0.out); (case side3 => exact Cb HR1_0 HB); (case side4 => exact HC1_0.out); rintro e w' ⟨rfl, ⟨nd, rfl⟩⟩; refine ⟨_, rfl, ?_⟩))
      go_meet
      case rel => exact ⟨_, (true), (by first | rfl | (simp; done) | (simp [*]; done)), H', ⟨by first | omega | exact Nat.le_refl _⟩, ⟨by (with_reducible repeat (first | refine blk_drewN ?_ _ | refine blk_drew ?_ | refine blk_alloc ?_ _)); exact BK130.out⟩, ⟨by (with_reducible repeat (first | refine blk_drewN ?_ _ | refine blk_drew ?_ | refine blk_alloc ?_ _)); exact BK131.out⟩, ⟨Bp HB⟩⟩
  case rest =>
    clear HC3
    try clear c1
    try clear p2
    try clear c4
    try clear c7
    try clear c8
    try clear c8b0
    try clear c8b1
    try clear c8b2
    try clear c9
    try clear c12
    try clear c13
    try clear c15
    try clear hcz10_0 hcz10_1 hcz10_2 hcz11_0 hcz11_1 hcz11_2 hcz13_0 hcz13_1 hcz13_2 hcz14_0 hcz14_1 hcz14_2 hcz16_0 hcz16_1 hcz16_2 hcz17_0 hcz17_1 hcz17_2 hfz10_0 hfz10_1 hfz10_2 hfz11_0 hfz11_1 hfz11_2 hfz13_0 hfz13_1 hfz13_2 hfz14_0 hfz14_1 hfz14_2 hfz16_0 hfz16_1 hfz16_2 hfz17_0 hfz17_1 hfz17_2
    obtain ⟨kq, x30_2, rfl, HA, HJ2, BK130, BK131, HB⟩ := hcut
    cases kq with
    | zero => exact absurd HA.out (by simp [spec_TreeSame.j0])
    | succ kj2 =>
      have H := HA.out
      clear HA
      simp only [spec_TreeSame.j0] at H
      by_cases c18 : x30_2 = true
      · subst c18
        have H1 : (some false) = some r := by rw [if_pos rfl] at H; exact H
        clear H
        have H := H1
        clear H1
        obtain rfl := Option.some.inj H
        go_wp2
        go_ret
        exact ⟨by first | rfl | (simp [errW_none, errW_some] <;> rfl) | (simp [*, errW_none, errW_some] <;> rfl), Bp HB⟩
      · replace c18 := Bool.eq_false_iff.mpr c18
        subst c18
        have H1 : (spec_TreeSame.l0 kj2 0 l0_0 l0_1 l0_2 l1_0 l1_1 l1_2) = some r := by rw [if_neg (show ¬ (false = true) by decide)] at H; exact H
        clear H
        have H := H1
        clear H1
        have H' := Aside0.mk H
        clear H
        go_wp2
        go_loopg [5] kj2 (fun kq v5 w' => ∃ (x5_2 : Int), v5 = .int .i64 x5_2 ∧ Aside0 (spec_TreeSame.l0 kq x5_2 l0_0 l0_1 l0_2 l1_0 l1_1 l1_2 = some r) ∧ Aside0 (kq ≤ kj2) ∧ Aside0 (w'.heap[gb130]? = some (.cells #[(.slice A0_0 l0_0.length c0_0), (.slice A0_1 l0_1.length c0_1), (.slice A0_2 l0_2.length c0_2)] 32 (0, 0))) ∧ Aside0 (w'.heap[gb131]? = some (.cells #[(.slice A1_0 l1_0.length c1_0), (.slice A1_1 l1_1.length c1_1), (.slice A1_2 l1_2.length c1_2)] 32 (0, 0))) ∧ Aside0 (Below w.heap.size w w'))
        case atStart => exact ⟨(0), (by first | rfl | (simp; done) | (simp [*]; done)), H', ⟨Nat.le_refl _⟩, ⟨by (with_reducible repeat (first | refine blk_drewN ?_ _ | refine blk_drew ?_ | refine blk_alloc ?_ _)); exact BK130.out⟩, ⟨by (with_reducible repeat (first | refine blk_drewN ?_ _ | refine blk_drew ?_ | refine blk_alloc ?_ _)); exact BK131.out⟩, ⟨Bp HB⟩⟩
        case round =>
          clear H'
          try clear c1
          try clear p2
          try clear c4
          try clear c7
          try clear c8
          try clear c8b0
          try clear c8b1
          try clear c8b2
          try clear c9
          try clear c12
          try clear c13
          try clear c15
          try clear c18
          try clear hcz10_0 hcz10_1 hcz10_2 hcz11_0 hcz11_1 hcz11_2 hcz13_0 hcz13_1 hcz13_2 hcz14_0 hcz14_1 hcz14_2 hcz16_0 hcz16_1 hcz16_2 hcz17_0 hcz17_1 hcz17_2 hfz10_0 hfz10_1 hfz10_2 hfz11_0 hfz11_1 hfz11_2 hfz13_0 hfz13_1 hfz13_2 hfz14_0 hfz14_1 hfz14_2 hfz16_0 hfz16_1 hfz16_2 hfz17_0 hfz17_1 hfz17_2
          try clear p2
          obtain ⟨x5_2, rfl, HA, HK2, BK130, BK131, HB⟩ := hrel
          cases gk with
          | zero => exact absurd HA.out (by simp [spec_TreeSame.l0])
          | succ k2 =>
            have H := HA.out
            clear HA
            simp only [spec_TreeSame.l0] at H
            by_cases c19 : x5_2 < (l0_1.length : Int)
            · rw [if_pos c19] at H
              have c19b0 : decide (x5_2 < (l0_1.length : Int)) = true := decide_eq_true c19
              clear c19
              by_cases c20 : 0 ≤ x5_2
              · rw [if_pos c20] at H
                have c20b0 : decide (0 ≤ x5_2) = true := decide_eq_true c20
                clear c20
                by_cases c21 : x5_2 < (l1_1.length : Int)
                · rw [if_pos c21] at H
                  have c21b0 : decide (x5_2 < (l1_1.length : Int)) = true := decide_eq_true c21
                  clear c21
                  replace H := Option.bind_eq_some_iff.mp H
                  obtain ⟨t135, A220, H⟩ := H
                  replace H : (if t135 = true then (spec_TreeSame.l0 k2 (wrap64 (x5_2 + 1)) l0_0 l0_1 l0_2 l1_0 l1_1 l1_2) else (some false)) = some r := H
                  have A22 := Aside0.mk A220
                  clear A220
                  by_cases c23 : t135 = true
                  · subst c23
                    have H1 : (spec_TreeSame.l0 k2 (wrap64 (x5_2 + 1)) l0_0 l0_1 l0_2 l1_0 l1_1 l1_2) = some r := by rw [if_pos rfl] at H; exact H
                    clear H
                    have H := H1
                    clear H1
                    have H' := Aside0.mk H
                    clear H
                    have hnb24 := NB130_131.out
                    have hnc24 := NB131_130.out
                    obtain ⟨hcz25_0, hcz25_1, hcz25_2⟩ := bc3 (W := wr) BK130.out
                    obtain ⟨hfz25_0, hfz25_1, hfz25_2⟩ := bf3 BK130.out
                    try go_wp2
                    replace BK130 := Aside0.mk (blk_drew BK130.out)
                    replace BK131 := Aside0.mk (blk_drew BK131.out)
                    replace HB := Aside0.mk (below_drew1 HB.out)
                    have p133 : 0 ≤ (x5_2 : Int) := of_decide_eq_true (by first | (with_reducible assumption) | assumption)
                    have q133 : x5_2 < (l0_1.length : Int) := of_decide_eq_true (by first | (with_reducible assumption) | assumption)
                    obtain ⟨ad133, A133_2, c133_2, A133_8, c133_8, e133, hx133_0, hx133_1, hx133_2, hx133_3, hx133_4, hx133_5, hx133_6, hx133_7, hx133_8, hl133_2, hi133_2, hl133_8, hi133_8⟩ := at_T45 HR0_1.out x5_2 p133 q133
                    have hw133_8 := hx133_8
                    have hw133_7 := hx133_7
                    have hw133_6 := hx133_6
                    have hw133_5 := hx133_5
                    have hw133_4 := hx133_4
                    have hw133_3 := hx133_3
                    have hw133_2 := hx133_2
                    have hw133_1 := hx133_1
                    have hw133_0 := hx133_0
                    cases e133
                    replace hx133_0 := (HB.out.cell (World.block_lt_of_cell? w _ hx133_0)).trans hx133_0
                    replace hx133_1 := (HB.out.cell (World.block_lt_of_cell? w _ hx133_1)).trans hx133_1
                    replace hx133_2 := (HB.out.cell (World.block_lt_of_cell? w _ hx133_2)).trans hx133_2
                    replace hx133_3 := (HB.out.cell (World.block_lt_of_cell? w _ hx133_3)).trans hx133_3
                    replace hx133_4 := (HB.out.cell (World.block_lt_of_cell? w _ hx133_4)).trans hx133_4
                    replace hx133_5 := (HB.out.cell (World.block_lt_of_cell? w _ hx133_5)).trans hx133_5
                    replace hx133_6 := (HB.out.cell (World.block_lt_of_cell? w _ hx133_6)).trans hx133_6
                    replace hx133_7 := (HB.out.cell (World.block_lt_of_cell? w _ hx133_7)).trans hx133_7
                    replace hx133_8 := (HB.out.cell (World.block_lt_of_cell? w _ hx133_8)).trans hx133_8
                    have HR133_2 := Aside0.mk hi133_2
                    have HC133_2 := Aside0.mk hl133_2
                    clear hi133_2 hl133_2
                    have HR133_8 := Aside0.mk hi133_8
                    have HC133_8 := Aside0.mk hl133_8
                    clear hi133_8 hl133_8
                    replace p133 := eq_true p133
                    replace q133 := eq_true q133
                    have p134 : 0 ≤ (x5_2 : Int) := of_decide_eq_true (by first | (with_reducible assumption) | assumption)
                    have q134 : x5_2 < (l1_1.length : Int) := of_decide_eq_true (by first | (with_reducible assumption) | assumption)
                    obtain ⟨ad134, A134_2, c134_2, A134_8, c134_8, e134, hx134_0, hx134_1, hx134_2, hx134_3, hx134_4, hx134_5, hx134_6, hx134_7, hx134_8, hl134_2, hi134_2, hl134_8, hi134_8⟩ := at_T45 HR1_1.out x5_2 p134 q134
                    have hw134_8 := hx134_8
                    have hw134_7 := hx134_7
                    have hw134_6 := hx134_6
                    have hw134_5 := hx134_5
                    have hw134_4 := hx134_4
                    have hw134_3 := hx134_3
                    have hw134_2 := hx134_2
                    have hw134_1 := hx134_1
                    have hw134_0 := hx134_0
                    cases e134
                    replace hx134_0 := (HB.out.cell (World.block_lt_of_cell? w _ hx134_0)).trans hx134_0
                    replace hx134_1 := (HB.out.cell (World.block_lt_of_cell? w _ hx134_1)).trans hx134_1
                    replace hx134_2 := (HB.out.cell (World.block_lt_of_cell? w _ hx134_2)).trans hx134_2
                    replace hx134_3 := (HB.out.cell (World.block_lt_of_cell? w _ hx134_3)).trans hx134_3
                    replace hx134_4 := (HB.out.cell (World.block_lt_of_cell? w _ hx134_4)).trans hx134_4
                    replace hx134_5 := (HB.out.cell (World.block_lt_of_cell? w _ hx134_5)).trans hx134_5
                    replace hx134_6 := (HB.out.cell (World.block_lt_of_cell? w _ hx134_6)).trans hx134_6
                    replace hx134_7 := (HB.out.cell (World.block_lt_of_cell? w _ hx134_7)).trans hx134_7
                    replace hx134_8 := (HB.out.cell (World.block_lt_of_cell? w _ hx134_8)).trans hx134_8
                    have HR134_2 := Aside0.mk hi134_2
                    have HC134_2 := Aside0.mk hl134_2
                    clear hi134_2 hl134_2
                    have HR134_8 := Aside0.mk hi134_8
                    have HC134_8 := Aside0.mk hl134_8
                    clear hi134_8 hl134_8
                    replace p134 := eq_true p134
                    replace q134 := eq_true q134
                    refine start_ (n := 12) (S := fun w' => w'.cell? ⟨gb130, 0, none⟩ = some (.slice A0_0 l0_0.length c0_0) ∧ w'.cell? ⟨gb130, 1, none⟩ = some (.slice (some ad133) l0_1.length c0_1) ∧ w'.cell? ⟨gb130, 2, none⟩ = some (.slice A0_2 l0_2.length c0_2) ∧ w'.cell? ⟨gb131, 0, none⟩ = some (.slice A1_0 l1_0.length c1_0) ∧ w'.cell? ⟨gb131, 1, none⟩ = some (.slice (some ad134) l1_1.length c1_1) ∧ w'.cell? ⟨gb131, 2, none⟩ = some (.slice A1_2 l1_2.length c1_2) ∧ w'.cell? (ad133.add ((x5_2).toNat * 9)) = some (.string ((rd_T45 l0_1 x5_2).f0)) ∧ w'.cell? ⟨(ad133.add ((x5_2).toNat * 9)).block, (ad133.add ((x5_2).toNat * 9)).off + 1, none⟩ = some (.bool ((rd_T45 l0_1 x5_2).f1)) ∧ w'.cell? ⟨(ad133.add ((x5_2).toNat * 9)).block, (ad133.add ((x5_2).toNat * 9)).off + 2, none⟩ = some (.slice A133_2 ((rd_T45 l0_1 x5_2).f2).length c133_2) ∧ w'.cell? ⟨(ad133.add ((x5_2).toNat * 9)).block, (ad133.add ((x5_2).toNat * 9)).off + 3, none⟩ = some (.int .i64 ((rd_T45 l0_1 x5_2).f3)) ∧ w'.cell? ⟨(ad133.add ((x5_2).toNat * 9)).block, (ad133.add ((x5_2).toNat * 9)).off + 4, none⟩ = some (.int .i64 ((rd_T45 l0_1 x5_2).f4.f0)) ∧ w'.cell? ⟨(ad133.add ((x5_2).toNat * 9)).block, (ad133.add ((x5_2).toNat * 9)).off + 5, none⟩ = some (.int .i64 ((rd_T45 l0_1 x5_2).f4.f1)) ∧ w'.cell? ⟨(ad133.add ((x5_2).toNat * 9)).block, (ad133.add ((x5_2).toNat * 9)).off + 6, none⟩ = some (.string ((rd_T45 l0_1 x5_2).f4.f2)) ∧ w'.cell? ⟨(ad133.add ((x5_2).toNat * 9)).block, (ad133.add ((x5_2).toNat * 9)).off + 7, none⟩ = some (.string ((rd_T45 l0_1 x5_2).f4.f3)) ∧ w'.cell? ⟨(ad133.add ((x5_2).toNat * 9)).block, (ad133.add ((x5_2).toNat * 9)).off + 8, none⟩ = some (.slice A133_8 ((rd_T45 l0_1 x5_2).f4.f4).length c133_8) ∧ w'.cell? (ad134.add ((x5_2).toNat * 9)) = some (.string ((rd_T45 l1_1 x5_2).f0)) ∧ w'.cell? ⟨(ad134.add ((x5_2).toNat * 9)).block, (ad134.add ((x5_2).toNat * 9)).off + 1, none⟩ = some (.bool ((rd_T45 l1_1 x5_2).f1)) ∧ w'.cell? ⟨(ad134.add ((x5_2).toNat * 9)).block, (ad134.add ((x5_2).toNat * 9)).off + 2, none⟩ = some (.slice A134_2 ((rd_T45 l1_1 x5_2).f2).length c134_2) ∧ w'.cell? ⟨(ad134.add ((x5_2).toNat * 9)).block, (ad134.add ((x5_2).toNat * 9)).off + 3, none⟩ = some (.int .i64 ((rd_T45 l1_1 x5_2).f3)) ∧ w'.cell? ⟨(ad134.add ((x5_2).toNat * 9)).block, (ad134.add ((x5_2).toNat * 9)).off + 4, none⟩ = some (.int .i64 ((rd_T45 l1_1 x5_2).f4.f0)) ∧ w'.cell? ⟨(ad134.add ((x5_2).toNat * 9)).block, (ad134.add ((x5_2).toNat * 9)).off + 5, none⟩ = some (.int .i64 ((rd_T45 l1_1 x5_2).f4.f1)) ∧ w'.cell? ⟨(ad134.add ((x5_2).toNat * 9)).block, (ad134.add ((x5_2).toNat * 9)).off + 6, none⟩ = some (.string ((rd_T45 l1_1 x5_2).f4.f2)) ∧ w'.cell? ⟨(ad134.add ((x5_2).toNat * 9)).block, (ad134.add ((x5_2).toNat * 9)).off + 7, none⟩ = some (.string ((rd_T45 l1_1 x5_2).f4.f3)) ∧ w'.cell? ⟨(ad134.add ((x5_2).toNat * 9)).block, (ad134.add ((x5_2).toNat * 9)).off + 8, none⟩ = some (.slice A134_8 ((rd_T45 l1_1 x5_2).f4.f4).length c134_8)) (ds := []) #[false, false, false, false, false, false, false, false, false, false, false, false] (by kernel_rfl) rfl rfl ⟨(blk_cell BK130.out 0).trans rfl, (blk_cell BK130.out 1).trans rfl, (blk_cell BK130.out 2).trans rfl, (blk_cell BK131.out 0).trans rfl, (blk_cell BK131.out 1).trans rfl, (blk_cell BK131.out 2).trans rfl, ((HB.out.cell (World.block_lt_of_cell? w _ hw133_0)).trans hw133_0), ((HB.out.cell (World.block_lt_of_cell? w _ hw133_1)).trans hw133_1), ((HB.out.cell (World.block_lt_of_cell? w _ hw133_2)).trans hw133_2), ((HB.out.cell (World.block_lt_of_cell? w _ hw133_3)).trans hw133_3), ((HB.out.cell (World.block_lt_of_cell? w _ hw133_4)).trans hw133_4), ((HB.out.cell (World.block_lt_of_cell? w _ hw133_5)).trans hw133_5), ((HB.out.cell (World.block_lt_of_cell? w _ hw133_6)).trans hw133_6), ((HB.out.cell (World.block_lt_of_cell? w _ hw133_7)).trans hw133_7), ((HB.out.cell (World.block_lt_of_cell? w _ hw133_8)).trans hw133_8), ((HB.out.cell (World.block_lt_of_cell? w _ hw134_0)).trans hw134_0), ((HB.out.cell (World.block_lt_of_cell? w _ hw134_1)).trans hw134_1), ((HB.out.cell (World.block_lt_of_cell? w _ hw134_2)).trans hw134_2), ((HB.out.cell (World.block_lt_of_cell? w _ hw134_3)).trans hw134_3), ((HB.out.cell (World.block_lt_of_cell? w _ hw134_4)).trans hw134_4), ((HB.out.cell (World.block_lt_of_cell? w _ hw134_5)).trans hw134_5), ((HB.out.cell (World.block_lt_of_cell? w _ hw134_6)).trans hw134_6), ((HB.out.cell (World.block_lt_of_cell? w _ hw134_7)).trans hw134_7), ((HB.out.cell (World.block_lt_of_cell? w _ hw134_8)).trans hw134_8)⟩ (fun hHeld => ?_); refine with_tabW spec_TreeSame.tab6 spec_TreeSame.bits6 (fun HT_ HW_ => ?_)
                    generalize wr.drew = w26 at BK130 BK131 HB HR133_2 HR133_8 HR134_2 HR134_8 hx133_0 hx133_1 hx133_2 hx133_3 hx133_4 hx133_5 hx133_6 hx133_7 hx133_8 hx134_0 hx134_1 hx134_2 hx134_3 hx134_4 hx134_5 hx134_6 hx134_7 hx134_8 hHeld ⊢
                    refine pure_ (i := 0) (N := some 38) (v := ?_) (a' := ?_) #[true, false, false, false, false, false, false, false, false, false, false, false] rfl rfl (any_of HT_.out (by kernel_rfl)) (fun _ _ _ h => h) (Or.inl ⟨by rfl, ?_⟩) ?_ ?_
                    rotate_left
                    · intro w'
                      go_simp
                      with_reducible rfl
                    rotate_left
                    · simp only [Act.put, List.setIfInBounds_toArray, List.set_cons_zero, List.set_cons_succ, i64_w, i32_w]
                      rfl
                    refine pure_ (i := 2) (N := some 40) (v := ?_) (a' := ?_) #[true, false, true, false, false, false, false, false, false, false, false, false] rfl rfl (any_of HT_.out (by kernel_rfl)) (fun _ _ _ h => h) (Or.inl ⟨by rfl, ?_⟩) ?_ ?_
                    rotate_left
                    · intro w'
                      go_simp
                      with_reducible rfl
                    rotate_left
                    · simp only [Act.put, List.setIfInBounds_toArray, List.set_cons_zero, List.set_cons_succ, i64_w, i32_w]
                      rfl
                    refine pure_ (i := 5) (N := some 43) (v := ?_) (a' := ?_) #[true, false, true, false, false, true, false, false, false, false, false, false] rfl rfl (any_of HT_.out (by kernel_rfl)) (fun _ _ _ h => h) (Or.inl ⟨by rfl, ?_⟩) ?_ ?_
                    rotate_left
                    · intro w'
                      go_simp
                      with_reducible rfl
                    rotate_left
                    · simp only [Act.put, List.setIfInBounds_toArray, List.set_cons_zero, List.set_cons_succ, i64_w, i32_w]
                      rfl
                    refine pure_ (i := 7) (N := some 45) (v := ?_) (a' := ?_) #[true, false, true, false, false, true, false, true, false, false, false, false] rfl rfl (any_of HT_.out (by kernel_rfl)) (fun _ _ _ h => h) (Or.inl ⟨by rfl, ?_⟩) ?_ ?_
                    rotate_left
                    · intro w'
                      go_simp
                      with_reducible rfl
                    rotate_left
                    · simp only [Act.put, List.setIfInBounds_toArray, List.set_cons_zero, List.set_cons_succ, i64_w, i32_w]
                      rfl
                    refine take_ (i := 1) (N := some 39) (v := ?_) (a' := ?_) #[true, true, true, false, false, true, false, true, false, false, false, false] rfl rfl (take_ofW HT_.out HW_.out (by kernel_rfl)) (fun _ _ _ h => h) (Or.inl ⟨by rfl, ?_⟩) hHeld ?_ ?_
                    rotate_left
                    · rintro w' ⟨s0, s1, s2, s3, s4, s5, s6, s7, s8, s9, s10, s11, s12, s13, s14, s15, s16, s17, s18, s19, s20, s21, s22, s23⟩
                      go_simp
                      with_reducible rfl
                    rotate_left
                    · simp only [Act.put, List.setIfInBounds_toArray, List.set_cons_zero, List.set_cons_succ, i64_w, i32_w]
                      rfl
                    refine pure_ (i := 3) (N := some 41) (v := ?_) (a' := ?_) #[true, true, true, true, false, true, false, true, false, false, false, false] rfl rfl (any_of HT_.out (by kernel_rfl)) (fun _ _ _ h => h) (Or.inl ⟨by rfl, ?_⟩) ?_ ?_
                    rotate_left
                    · intro w'
                      go_simp
                      with_reducible rfl
                    rotate_left
                    · simp only [Act.put, List.setIfInBounds_toArray, List.set_cons_zero, List.set_cons_succ, i64_w, i32_w]
                      rfl
                    refine take_ (i := 4) (N := some 42) (v := ?_) (a' := ?_) #[true, true, true, true, true, true, false, true, false, false, false, false] rfl rfl (take_ofW HT_.out HW_.out (by kernel_rfl)) (fun _ _ _ h => h) (Or.inl ⟨by rfl, ?_⟩) hHeld ?_ ?_
                    rotate_left
                    · rintro w' ⟨s0, s1, s2, s3, s4, s5, s6, s7, s8, s9, s10, s11, s12, s13, s14, s15, s16, s17, s18, s19, s20, s21, s22, s23⟩
                      go_simp
                      with_reducible rfl
                    rotate_left
                    · simp only [Act.put, List.setIfInBounds_toArray, List.set_cons_zero, List.set_cons_succ, i64_w, i32_w]
                      rfl
                    refine take_ (i := 6) (N := some 44) (v := ?_) (a' := ?_) #[true, true, true, true, true, true, true, true, false, false, false, false] rfl rfl (take_ofW HT_.out HW_.out (by kernel_rfl)) (fun _ _ _ h => h) (Or.inl ⟨by rfl, ?_⟩) hHeld ?_ ?_
                    rotate_left
                    · rintro w' ⟨s0, s1, s2, s3, s4, s5, s6, s7, s8, s9, s10, s11, s12, s13, s14, s15, s16, s17, s18, s19, s20, s21, s22, s23⟩
                      go_simp
                      with_reducible rfl
                    rotate_left
                    · simp only [Act.put, List.setIfInBounds_toArray, List.set_cons_zero, List.set_cons_succ, i64_w, i32_w]
                      rfl
                    refine pure_ (i := 8) (N := some 46) (v := ?_) (a' := ?_) #[true, true, true, true, true, true, true, true, true, false, false, false] rfl rfl (any_of HT_.out (by kernel_rfl)) (fun _ _ _ h => h) (Or.inl ⟨by rfl, ?_⟩) ?_ ?_
                    rotate_left
                    · intro w'
                      go_simp
                      with_reducible rfl
                    rotate_left
                    · simp only [Act.put, List.setIfInBounds_toArray, List.set_cons_zero, List.set_cons_succ, i64_w, i32_w]
                      rfl
                    refine take_ (i := 9) (N := some 47) (v := ?_) (a' := ?_) #[true, true, true, true, true, true, true, true, true, true, false, false] rfl rfl (take_ofW HT_.out HW_.out (by kernel_rfl)) (fun _ _ _ h => h) (Or.inl ⟨by rfl, ?_⟩) hHeld ?_ ?_
                    rotate_left
                    · rintro w' ⟨s0, s1, s2, s3, s4, s5, s6, s7, s8, s9, s10, s11, s12, s13, s14, s15, s16, s17, s18, s19, s20, s21, s22, s23⟩
                      go_simp
                      with_reducible rfl
                    rotate_left
                    · simp only [Act.put, List.setIfInBounds_toArray, List.set_cons_zero, List.set_cons_succ, i64_w, i32_w]
                      rfl
                    refine one_ (i := 10) (N := some 48) #[true, true, true, true, true, true, true, true, true, true, true, false] rfl rfl (one_of HT_.out (by kernel_rfl)) (by decide) (fun K hK => ?_)
                    refine goes_ Try.func49 (by kernel_rfl) rfl #[.agg #[.string ((rd_T45 l0_1 x5_2).f0), .bool ((rd_T45 l0_1 x5_2).f1), .slice A133_2 ((rd_T45 l0_1 x5_2).f2).length c133_2, .int .i64 ((rd_T45 l0_1 x5_2).f3), .int .i64 ((rd_T45 l0_1 x5_2).f4.f0), .int .i64 ((rd_T45 l0_1 x5_2).f4.f1), .string ((rd_T45 l0_1 x5_2).f4.f2), .string ((rd_T45 l0_1 x5_2).f4.f3), .slice A133_8 ((rd_T45 l0_1 x5_2).f4.f4).length c133_8], .agg #[.string ((rd_T45 l1_1 x5_2).f0), .bool ((rd_T45 l1_1 x5_2).f1), .slice A134_2 ((rd_T45 l1_1 x5_2).f2).length c134_2, .int .i64 ((rd_T45 l1_1 x5_2).f3), .int .i64 ((rd_T45 l1_1 x5_2).f4.f0), .int .i64 ((rd_T45 l1_1 x5_2).f4.f1), .string ((rd_T45 l1_1 x5_2).f4.f2), .string ((rd_T45 l1_1 x5_2).f4.f3), .slice A134_8 ((rd_T45 l1_1 x5_2).f4.f4).length c134_8]] (by rfl) rfl rfl (by (try simp only [List.map_toArray, List.map_cons, List.map_nil]); first | done | rfl | (simp only [List.length_drop, List.length_take]; rfl)) ?_
                    with_reducible refine (spec_l2SameFun.calls k2 ((rd_T45 l0_1 x5_2).f0) ((rd_T45 l0_1 x5_2).f1) _ _ ((rd_T45 l0_1 x5_2).f2) ((rd_T45 l0_1 x5_2).f3) ((rd_T45 l0_1 x5_2).f4.f0) ((rd_T45 l0_1 x5_2).f4.f1) ((rd_T45 l0_1 x5_2).f4.f2) ((rd_T45 l0_1 x5_2).f4.f3) _ _ ((rd_T45 l0_1 x5_2).f4.f4) ((rd_T45 l1_1 x5_2).f0) ((rd_T45 l1_1 x5_2).f1) _ _ ((rd_T45 l1_1 x5_2).f2) ((rd_T45 l1_1 x5_2).f3) ((rd_T45 l1_1 x5_2).f4.f0) ((rd_T45 l1_1 x5_2).f4.f1) ((rd_T45 l1_1 x5_2).f4.f2) ((rd_T45 l1_1 x5_2).f4.f3) _ _ ((rd_T45 l1_1 x5_2).f4.f4) true _ ?side1 ?side2 ?side3 ?side4 ?side5 ?side6 ?side7 ?side8 A22.out).mono ?_
                    (case side1 => exact Cb HR133_2 HB)
                    (case side2 => exact HC133_2.out)
                    (case side3 => exact Cb HR133_8 HB)
                    (case side4 => exact HC133_8.out)
                    (case side5 => exact Cb HR134_2 HB)
                    (case side6 => exact HC134_2.out)
                    (case side7 => exact Cb HR134_8 HB)
                    (case side8 => exact HC134_8.out)
                    rintro e w27 ⟨rfl, hb⟩
                    refine ⟨_, rfl, ?_⟩
                    replace BK130 := Kb BK130 hb
                    replace BK131 := Kb BK131 hb
                    replace HB := Bs HB hb
                    (try clear hb)
                    (try clear hb2)
                    (try clear hk)
                    (try clear hi)
                    refine hK.out _ _ ⟨(blk_cell BK130.out 0).trans rfl, (blk_cell BK130.out 1).trans rfl, (blk_cell BK130.out 2).trans rfl, (blk_cell BK131.out 0).trans rfl, (blk_cell BK131.out 1).trans rfl, (blk_cell BK131.out 2).trans rfl, ((HB.out.cell (World.block_lt_of_cell? w _ hw133_0)).trans hw133_0), ((HB.out.cell (World.block_lt_of_cell? w _ hw133_1)).trans hw133_1), ((HB.out.cell (World.block_lt_of_cell? w _ hw133_2)).trans hw133_2), ((HB.out.cell (World.block_lt_of_cell? w _ hw133_3)).trans hw133_3), ((HB.out.cell (World.block_lt_of_cell? w _ hw133_4)).trans hw133_4), ((HB.out.cell (World.block_lt_of_cell? w _ hw133_5)).trans hw133_5), ((HB.out.cell (World.block_lt_of_cell? w _ hw133_6)).trans hw133_6), ((HB.out.cell (World.block_lt_of_cell? w _ hw133_7)).trans hw133_7), ((HB.out.cell (World.block_lt_of_cell? w _ hw133_8)).trans hw133_8), ((HB.out.cell (World.block_lt_of_cell? w _ hw134_0)).trans hw134_0), ((HB.out.cell (World.block_lt_of_cell? w _ hw134_1)).trans hw134_1), ((HB.out.cell (World.block_lt_of_cell? w _ hw134_2)).trans hw134_2), ((HB.out.cell (World.block_lt_of_cell? w _ hw134_3)).trans hw134_3), ((HB.out.cell (World.block_lt_of_cell? w _ hw134_4)).trans hw134_4), ((HB.out.cell (World.block_lt_of_cell? w _ hw134_5)).trans hw134_5), ((HB.out.cell (World.block_lt_of_cell? w _ hw134_6)).trans hw134_6), ((HB.out.cell (World.block_lt_of_cell? w _ hw134_7)).trans hw134_7), ((HB.out.cell (World.block_lt_of_cell? w _ hw134_8)).trans hw134_8)⟩ (fun hHeld => ?_)
                    clear hK K
                    refine norm_ (a' := ?_) ?_ ?_
                    rotate_left
                    · show Act.put _ (some 48) _ = _
                      simp only [Act.put, List.setIfInBounds_toArray, List.set_cons_zero, List.set_cons_succ, i64_w, i32_w]
                      rfl
                    refine pure_ (i := 11) (N := some 49) (v := ?_) (a' := ?_) #[true, true, true, true, true, true, true, true, true, true, true, true] rfl rfl (any_of HT_.out (by kernel_rfl)) (fun _ _ _ h => h) (Or.inl ⟨by rfl, ?_⟩) ?_ ?_
                    rotate_left
                    · intro w'
                      go_simp
                      with_reducible rfl
                    rotate_left
                    · simp only [Act.put, List.setIfInBounds_toArray, List.set_cons_zero, List.set_cons_succ, i64_w, i32_w]
                      rfl
                    refine done_ (done_of HT_.out (by kernel_rfl)) ?_
                    try go_wp2
                    go_roundg k2
                    case measure => have := HJ2.out; have := HK2.out; omega
                    case rel => exact ⟨(wrap64 (x5_2 + 1)), (by first | rfl | (simp; done) | (simp [*]; done)), H', ⟨by have := HJ2.out; have := HK2.out; omega⟩, ⟨by (with_reducible repeat (first | refine blk_drewN ?_ _ | refine blk_drew ?_ | refine blk_alloc ?_ _)); exact BK130.out⟩, ⟨by (with_reducible repeat (first | refine blk_drewN ?_ _ | refine blk_drew ?_ | refine blk_alloc ?_ _)); exact BK131.out⟩, ⟨Bp HB⟩⟩
                  · replace c23 := Bool.eq_false_iff.mpr c23
                    subst c23
                    have H1 : (some false) = some r := by rw [if_neg (show ¬ (false = true) by decide)] at H; exact H
                    clear H
                    have H := H1
                    clear H1
                    obtain rfl := Option.some.inj H
                    have hnb28 := NB130_131.out
                    have hnc28 := NB131_130.out
                    obtain ⟨hcz29_0, hcz29_1, hcz29_2⟩ := bc3 (W := wr) BK130.out
                    obtain ⟨hfz29_0, hfz29_1, hfz29_2⟩ := bf3 BK130.out
                    try go_wp2
                    replace BK130 := Aside0.mk (blk_drew BK130.out)
                    replace BK131 := Aside0.mk (blk_drew BK131.out)
                    replace HB := Aside0.mk (below_drew1 HB.out)
                    have p133 : 0 ≤ (x5_2 : Int) := of_decide_eq_true (by first | (with_reducible assumption) | assumption)
                    have q133 : x5_2 < (l0_1.length : Int) := of_decide_eq_true (by first | (with_reducible assumption) | assumption)
                    obtain ⟨ad133, A133_2, c133_2, A133_8, c133_8, e133, hx133_0, hx133_1, hx133_2, hx133_3, hx133_4, hx133_5, hx133_6, hx133_7, hx133_8, hl133_2, hi133_2, hl133_8, hi133_8⟩ := at_T45 HR0_1.out x5_2 p133 q133
                    have hw133_8 := hx133_8
                    have hw133_7 := hx133_7
                    have hw133_6 := hx133_6
                    have hw133_5 := hx133_5
                    have hw133_4 := hx133_4
                    have hw133_3 := hx133_3
                    have hw133_2 := hx133_2
                    have hw133_1 := hx133_1
                    have hw133_0 := hx133_0
                    cases e133
                    replace hx133_0 := (HB.out.cell (World.block_lt_of_cell? w _ hx133_0)).trans hx133_0
                    replace hx133_1 := (HB.out.cell (World.block_lt_of_cell? w _ hx133_1)).trans hx133_1
                    replace hx133_2 := (HB.out.cell (World.block_lt_of_cell? w _ hx133_2)).trans hx133_2
                    replace hx133_3 := (HB.out.cell (World.block_lt_of_cell? w _ hx133_3)).trans hx133_3
                    replace hx133_4 := (HB.out.cell (World.block_lt_of_cell? w _ hx133_4)).trans hx133_4
                    replace hx133_5 := (HB.out.cell (World.block_lt_of_cell? w _ hx133_5)).trans hx133_5
                    replace hx133_6 := (HB.out.cell (World.block_lt_of_cell? w _ hx133_6)).trans hx133_6
                    replace hx133_7 := (HB.out.cell (World.block_lt_of_cell? w _ hx133_7)).trans hx133_7
                    replace hx133_8 := (HB.out.cell (World.block_lt_of_cell? w _ hx133_8)).trans hx133_8
                    have HR133_2 := Aside0.mk hi133_2
                    have HC133_2 := Aside0.mk hl133_2
                    clear hi133_2 hl133_2
                    have HR133_8 := Aside0.mk hi133_8
                    have HC133_8 := Aside0.mk hl133_8
                    clear hi133_8 hl133_8
                    replace p133 := eq_true p133
                    replace q133 := eq_true q133
                    have p134 : 0 ≤ (x5_2 : Int) := of_decide_eq_true (by first | (with_reducible assumption) | assumption)
                    have q134 : x5_2 < (l1_1.length : Int) := of_decide_eq_true (by first | (with_reducible assumption) | assumption)
                    obtain ⟨ad134, A134_2, c134_2, A134_8, c134_8, e134, hx134_0, hx134_1, hx134_2, hx134_3, hx134_4, hx134_5, hx134_6, hx134_7, hx134_8, hl134_2, hi134_2, hl134_8, hi134_8⟩ := at_T45 HR1_1.out x5_2 p134 q134
                    have hw134_8 := hx134_8
                    have hw134_7 := hx134_7
                    have hw134_6 := hx134_6
                    have hw134_5 := hx134_5
                    have hw134_4 := hx134_4
                    have hw134_3 := hx134_3
                    have hw134_2 := hx134_2
                    have hw134_1 := hx134_1
                    have hw134_0 := hx134_0
                    cases e134
                    replace hx134_0 := (HB.out.cell (World.block_lt_of_cell? w _ hx134_0)).trans hx134_0
                    replace hx134_1 := (HB.out.cell (World.block_lt_of_cell? w _ hx134_1)).trans hx134_1
                    replace hx134_2 := (HB.out.cell (World.block_lt_of_cell? w _ hx134_2)).trans hx134_2
                    replace hx134_3 := (HB.out.cell (World.block_lt_of_cell? w _ hx134_3)).trans hx134_3
                    replace hx134_4 := (HB.out.cell (World.block_lt_of_cell? w _ hx134_4)).trans hx134_4
                    replace hx134_5 := (HB.out.cell (World.block_lt_of_cell? w _ hx134_5)).trans hx134_5
                    replace hx134_6 := (HB.out.cell (World.block_lt_of_cell? w _ hx134_6)).trans hx134_6
                    replace hx134_7 := (HB.out.cell (World.block_lt_of_cell? w _ hx134_7)).trans hx134_7
                    replace hx134_8 := (HB.out.cell (World.block_lt_of_cell? w _ hx134_8)).trans hx134_8
                    have HR134_2 := Aside0.mk hi134_2
                    have HC134_2 := Aside0.mk hl134_2
                    clear hi134_2 hl134_2
                    have HR134_8 := Aside0.mk hi134_8
                    have HC134_8 := Aside0.mk hl134_8
                    clear hi134_8 hl134_8
                    replace p134 := eq_true p134
                    replace q134 := eq_true q134
                    refine start_ (n := 12) (S := fun w' => w'.cell? ⟨gb130, 0, none⟩ = some (.slice A0_0 l0_0.length c0_0) ∧ w'.cell? ⟨gb130, 1, none⟩ = some (.slice (some ad133) l0_1.length c0_1) ∧ w'.cell? ⟨gb130, 2, none⟩ = some (.slice A0_2 l0_2.length c0_2) ∧ w'.cell? ⟨gb131, 0, none⟩ = some (.slice A1_0 l1_0.length c1_0) ∧ w'.cell? ⟨gb131, 1, none⟩ = some (.slice (some ad134) l1_1.length c1_1) ∧ w'.cell? ⟨gb131, 2, none⟩ = some (.slice A1_2 l1_2.length c1_2) ∧ w'.cell? (ad133.add ((x5_2).toNat * 9)) = some (.string ((rd_T45 l0_1 x5_2).f0)) ∧ w'.cell? ⟨(ad133.add ((x5_2).toNat * 9)).block, (ad133.add ((x5_2).toNat * 9)).off + 1, none⟩ = some (.bool ((rd_T45 l0_1 x5_2).f1)) ∧ w'.cell? ⟨(ad133.add ((x5_2).toNat * 9)).block, (ad133.add ((x5_2).toNat * 9)).off + 2, none⟩ = some (.slice A133_2 ((rd_T45 l0_1 x5_2).f2).length c133_2) ∧ w'.cell? ⟨(ad133.add ((x5_2).toNat * 9)).block, (ad133.add ((x5_2).toNat * 9)).off + 3, none⟩ = some (.int .i64 ((rd_T45 l0_1 x5_2).f3)) ∧ w'.cell? ⟨(ad133.add ((x5_2).toNat * 9)).block, (ad133.add ((x5_2).toNat * 9)).off + 4, none⟩ = some (.int .i64 ((rd_T45 l0_1 x5_2).f4.f0)) ∧ w'.cell? ⟨(ad133.add ((x5_2).toNat * 9)).block, (ad133.add ((x5_2).toNat * 9)).off + 5, none⟩ = some (.int .i64 ((rd_T45 l0_1 x5_2).f4.f1)) ∧ w'.cell? ⟨(ad133.add ((x5_2).toNat * 9)).block, (ad133.add ((x5_2).toNat * 9)).off + 6, none⟩ = some (.string ((rd_T45 l0_1 x5_2).f4.f2)) ∧ w'.cell? ⟨(ad133.add ((x5_2).toNat * 9)).block, (ad133.add ((x5_2).toNat * 9)).off + 7, none⟩ = some (.string ((rd_T45 l0_1 x5_2).f4.f3)) ∧ w'.cell? ⟨(ad133.add ((x5_2).toNat * 9)).block, (ad133.add ((x5_2).toNat * 9)).off + 8, none⟩ = some (.slice A133_8 ((rd_T45 l0_1 x5_2).f4.f4).length c133_8) ∧ w'.cell? (ad134.add ((x5_2).toNat * 9)) = some (.string ((rd_T45 l1_1 x5_2).f0)) ∧ w'.cell? ⟨(ad134.add ((x5_2).toNat * 9)).block, (ad134.add ((x5_2).toNat * 9)).off + 1, none⟩ = some (.bool ((rd_T45 l1_1 x5_2).f1)) ∧ w'.cell? ⟨(ad134.add ((x5_2).toNat * 9)).block, (ad134.add ((x5_2).toNat * 9)).off + 2, none⟩ = some (.slice A134_2 ((rd_T45 l1_1 x5_2).f2).length c134_2) ∧ w'.cell? ⟨(ad134.add ((x5_2).toNat * 9)).block, (ad134.add ((x5_2).toNat * 9)).off + 3, none⟩ = some (.int .i64 ((rd_T45 l1_1 x5_2).f3)) ∧ w'.cell? ⟨(ad134.add ((x5_2).toNat * 9)).block, (ad134.add ((x5_2).toNat * 9)).off + 4, none⟩ = some (.int .i64 ((rd_T45 l1_1 x5_2).f4.f0)) ∧ w'.cell? ⟨(ad134.add ((x5_2).toNat * 9)).block, (ad134.add ((x5_2).toNat * 9)).off + 5, none⟩ = some (.int .i64 ((rd_T45 l1_1 x5_2).f4.f1)) ∧ w'.cell? ⟨(ad134.add ((x5_2).toNat * 9)).block, (ad134.add ((x5_2).toNat * 9)).off + 6, none⟩ = some (.string ((rd_T45 l1_1 x5_2).f4.f2)) ∧ w'.cell? ⟨(ad134.add ((x5_2).toNat * 9)).block, (ad134.add ((x5_2).toNat * 9)).off + 7, none⟩ = some (.string ((rd_T45 l1_1 x5_2).f4.f3)) ∧ w'.cell? ⟨(ad134.add ((x5_2).toNat * 9)).block, (ad134.add ((x5_2).toNat * 9)).off + 8, none⟩ = some (.slice A134_8 ((rd_T45 l1_1 x5_2).f4.f4).length c134_8)) (ds := []) #[false, false, false, false, false, false, false, false, false, false, false, false] (by kernel_rfl) rfl rfl ⟨(blk_cell BK130.out 0).trans rfl, (blk_cell BK130.out 1).trans rfl, (blk_cell BK130.out 2).trans rfl, (blk_cell BK131.out 0).trans rfl, (blk_cell BK131.out 1).trans rfl, (blk_cell BK131.out 2).trans rfl, ((HB.out.cell (World.block_lt_of_cell? w _ hw133_0)).trans hw133_0), ((HB.out.cell (World.block_lt_of_cell? w _ hw133_1)).trans hw133_1), ((HB.out.cell (World.block_lt_of_cell? w _ hw133_2)).trans hw133_2), ((HB.out.cell (World.block_lt_of_cell? w _ hw133_3)).trans hw133_3), ((HB.out.cell (World.block_lt_of_cell? w _ hw133_4)).trans hw133_4), ((HB.out.cell (World.block_lt_of_cell? w _ hw133_5)).trans hw133_5), ((HB.out.cell (World.block_lt_of_cell? w _ hw133_6)).trans hw133_6), ((HB.out.cell (World.block_lt_of_cell? w _ hw133_7)).trans hw133_7), ((HB.out.cell (World.block_lt_of_cell? w _ hw133_8)).trans hw133_8), ((HB.out.cell (World.block_lt_of_cell? w _ hw134_0)).trans hw134_0), ((HB.out.cell (World.block_lt_of_cell? w _ hw134_1)).trans hw134_1), ((HB.out.cell (World.block_lt_of_cell? w _ hw134_2)).trans hw134_2), ((HB.out.cell (World.block_lt_of_cell? w _ hw134_3)).trans hw134_3), ((HB.out.cell (World.block_lt_of_cell? w _ hw134_4)).trans hw134_4), ((HB.out.cell (World.block_lt_of_cell? w _ hw134_5)).trans hw134_5), ((HB.out.cell (World.block_lt_of_cell? w _ hw134_6)).trans hw134_6), ((HB.out.cell (World.block_lt_of_cell? w _ hw134_7)).trans hw134_7), ((HB.out.cell (World.block_lt_of_cell? w _ hw134_8)).trans hw134_8)⟩ (fun hHeld => ?_); refine with_tabW spec_TreeSame.tab6 spec_TreeSame.bits6 (fun HT_ HW_ => ?_)
                    generalize wr.drew = w30 at BK130 BK131 HB HR133_2 HR133_8 HR134_2 HR134_8 hx133_0 hx133_1 hx133_2 hx133_3 hx133_4 hx133_5 hx133_6 hx133_7 hx133_8 hx134_0 hx134_1 hx134_2 hx134_3 hx134_4 hx134_5 hx134_6 hx134_7 hx134_8 hHeld ⊢
                    refine pure_ (i := 0) (N := some 38) (v := ?_) (a' := ?_) #[true, false, false, false, false, false, false, false, false, false, false, false] rfl rfl (any_of HT_.out (by kernel_rfl)) (fun _ _ _ h => h) (Or.inl ⟨by rfl, ?_⟩) ?_ ?_
                    rotate_left
                    · intro w'
                      go_simp
                      with_reducible rfl
                    rotate_left
                    · simp only [Act.put, List.setIfInBounds_toArray, List.set_cons_zero, List.set_cons_succ, i64_w, i32_w]
                      rfl
                    refine pure_ (i := 2) (N := some 40) (v := ?_) (a' := ?_) #[true, false, true, false, false, false, false, false, false, false, false, false] rfl rfl (any_of HT_.out (by kernel_rfl)) (fun _ _ _ h => h) (Or.inl ⟨by rfl, ?_⟩) ?_ ?_
                    rotate_left
                    · intro w'
                      go_simp
                      with_reducible rfl
                    rotate_left
                    · simp only [Act.put, List.setIfInBounds_toArray, List.set_cons_zero, List.set_cons_succ, i64_w, i32_w]
                      rfl
                    refine pure_ (i := 5) (N := some 43) (v := ?_) (a' := ?_) #[true, false, true, false, false, true, false, false, false, false, false, false] rfl rfl (any_of HT_.out (by kernel_rfl)) (fun _ _ _ h => h) (Or.inl ⟨by rfl, ?_⟩) ?_ ?_
                    rotate_left
                    · intro w'
                      go_simp
                      with_reducible rfl
                    rotate_left
                    · simp only [Act.put, List.setIfInBounds_toArray, List.set_cons_zero, List.set_cons_succ, i64_w, i32_w]
                      rfl
                    refine pure_ (i := 7) (N := some 45) (v := ?_) (a' := ?_) #[true, false, true, false, false, true, false, true, false, false, false, false] rfl rfl (any_of HT_.out (by kernel_rfl)) (fun _ _ _ h => h) (Or.inl ⟨by rfl, ?_⟩) ?_ ?_
                    rotate_left
                    · intro w'
                      go_simp
                      with_reducible rfl
                    rotate_left
                    · simp only [Act.put, List.setIfInBounds_toArray, List.set_cons_zero, List.set_cons_succ, i64_w, i32_w]
                      rfl
                    refine take_ (i := 1) (N := some 39) (v := ?_) (a' := ?_) #[true, true, true, false, false, true, false, true, false, false, false, false] rfl rfl (take_ofW HT_.out HW_.out (by kernel_rfl)) (fun _ _ _ h => h) (Or.inl ⟨by rfl, ?_⟩) hHeld ?_ ?_
                    rotate_left
                    · rintro w' ⟨s0, s1, s2, s3, s4, s5, s6, s7, s8, s9, s10, s11, s12, s13, s14, s15, s16, s17, s18, s19, s20, s21, s22, s23⟩
                      go_simp
                      with_reducible rfl
                    rotate_left
                    · simp only [Act.put, List.setIfInBounds_toArray, List.set_cons_zero, List.set_cons_succ, i64_w, i32_w]
                      rfl
                    refine pure_ (i := 3) (N := some 41) (v := ?_) (a' := ?_) #[true, true, true, true, false, true, false, true, false, false, false, false] rfl rfl (any_of HT_.out (by kernel_rfl)) (fun _ _ _ h => h) (Or.inl ⟨by rfl, ?_⟩) ?_ ?_
                    rotate_left
                    · intro w'
                      go_simp
                      with_reducible rfl
                    rotate_left
                    · simp only [Act.put, List.setIfInBounds_toArray, List.set_cons_zero, List.set_cons_succ, i64_w, i32_w]
                      rfl
                    refine take_ (i := 4) (N := some 42) (v := ?_) (a' := ?_) #[true, true, true, true, true, true, false, true, false, false, false, false] rfl rfl (take_ofW HT_.out HW_.out (by kernel_rfl)) (fun _ _ _ h => h) (Or.inl ⟨by rfl, ?_⟩) hHeld ?_ ?_
                    rotate_left
                    · rintro w' ⟨s0, s1, s2, s3, s4, s5, s6, s7, s8, s9, s10, s11, s12, s13, s14, s15, s16, s17, s18, s19, s20, s21, s22, s23⟩
                      go_simp
                      with_reducible rfl
                    rotate_left
                    · simp only [Act.put, List.setIfInBounds_toArray, List.set_cons_zero, List.set_cons_succ, i64_w, i32_w]
                      rfl
                    refine take_ (i := 6) (N := some 44) (v := ?_) (a' := ?_) #[true, true, true, true, true, true, true, true, false, false, false, false] rfl rfl (take_ofW HT_.out HW_.out (by kernel_rfl)) (fun _ _ _ h => h) (Or.inl ⟨by rfl, ?_⟩) hHeld ?_ ?_
                    rotate_left
                    · rintro w' ⟨s0, s1, s2, s3, s4, s5, s6, s7, s8, s9, s10, s11, s12, s13, s14, s15, s16, s17, s18, s19, s20, s21, s22, s23⟩
                      go_simp
                      with_reducible rfl
                    rotate_left
                    · simp only [Act.put, List.setIfInBounds_toArray, List.set_cons_zero, List.set_cons_succ, i64_w, i32_w]
                      rfl
                    refine pure_ (i := 8) (N := some 46) (v := ?_) (a' := ?_) #[true, true, true, true, true, true, true, true, true, false, false, false] rfl rfl (any_of HT_.out (by kernel_rfl)) (fun _ _ _ h => h) (Or.inl ⟨by rfl, ?_⟩) ?_ ?_
                    rotate_left
                    · intro w'
                      go_simp
                      with_reducible rfl
                    rotate_left
                    · simp only [Act.put, List.setIfInBounds_toArray, List.set_cons_zero, List.set_cons_succ, i64_w, i32_w]
                      rfl
                    refine take_ (i := 9) (N := some 47) (v := ?_) (a' := ?_) #[true, true, true, true, true, true, true, true, true, true, false, false] rfl rfl (take_ofW HT_.out HW_.out (by kernel_rfl)) (fun _ _ _ h => h) (Or.inl ⟨by rfl, ?_⟩) hHeld ?_ ?_
                    rotate_left
                    · rintro w' ⟨s0, s1, s2, s3, s4, s5, s6, s7, s8, s9, s10, s11, s12, s13, s14, s15, s16, s17, s18, s19, s20, s21, s22, s23⟩
                      go_simp
                      with_reducible rfl
                    rotate_left
                    · simp only [Act.put, List.setIfInBounds_toArray, List.set_cons_zero, List.set_cons_succ, i64_w, i32_w]
                      rfl
                    refine one_ (i := 10) (N := some 48) #[true, true, true, true, true, true, true, true, true, true, true, false] rfl rfl (one_of HT_.out (by kernel_rfl)) (by decide) (fun K hK => ?_)
                    refine goes_ Try.func49 (by kernel_rfl) rfl #[.agg #[.string ((rd_T45 l0_1 x5_2).f0), .bool ((rd_T45 l0_1 x5_2).f1), .slice A133_2 ((rd_T45 l0_1 x5_2).f2).length c133_2, .int .i64 ((rd_T45 l0_1 x5_2).f3), .int .i64 ((rd_T45 l0_1 x5_2).f4.f0), .int .i64 ((rd_T45 l0_1 x5_2).f4.f1), .string ((rd_T45 l0_1 x5_2).f4.f2), .string ((rd_T45 l0_1 x5_2).f4.f3), .slice A133_8 ((rd_T45 l0_1 x5_2).f4.f4).length c133_8], .agg #[.string ((rd_T45 l1_1 x5_2).f0), .bool ((rd_T45 l1_1 x5_2).f1), .slice A134_2 ((rd_T45 l1_1 x5_2).f2).length c134_2, .int .i64 ((rd_T45 l1_1 x5_2).f3), .int .i64 ((rd_T45 l1_1 x5_2).f4.f0), .int .i64 ((rd_T45 l1_1 x5_2).f4.f1), .string ((rd_T45 l1_1 x5_2).f4.f2), .string ((rd_T45 l1_1 x5_2).f4.f3), .slice A134_8 ((rd_T45 l1_1 x5_2).f4.f4).length c134_8]] (by rfl) rfl rfl (by (try simp only [List.map_toArray, List.map_cons, List.map_nil]); first | done | rfl | (simp only [List.length_drop, List.length_take]; rfl)) ?_
                    with_reducible refine (spec_l2SameFun.calls k2 ((rd_T45 l0_1 x5_2).f0) ((rd_T45 l0_1 x5_2).f1) _ _ ((rd_T45 l0_1 x5_2).f2) ((rd_T45 l0_1 x5_2).f3) ((rd_T45 l0_1 x5_2).f4.f0) ((rd_T45 l0_1 x5_2).f4.f1) ((rd_T45 l0_1 x5_2).f4.f2) ((rd_T45 l0_1 x5_2).f4.f3) _ _ ((rd_T45 l0_1 x5_2).f4.f4) ((rd_T45 l1_1 x5_2).f0) ((rd_T45 l1_1 x5_2).f1) _ _ ((rd_T45 l1_1 x5_2).f2) ((rd_T45 l1_1 x5_2).f3) ((rd_T45 l1_1 x5_2).f4.f0) ((rd_T45 l1_1 x5_2).f4.f1) ((rd_T45 l1_1 x5_2).f4.f2) ((rd_T45 l1_1 x5_2).f4.f3) _ _ ((rd_T45 l1_1 x5_2).f4.f4) false _ ?side1 ?side2 ?side3 ?side4 ?side5 ?side6 ?side7 ?side8 A22.out).mono ?_
                    (case side1 => exact Cb HR133_2 HB)
                    (case side2 => exact HC133_2.out)
                    (case side3 => exact Cb HR133_8 HB)
                    (case side4 => exact HC133_8.out)
                    (case side5 => exact Cb HR134_2 HB)
                    (case side6 => exact HC134_2.out)
                    (case side7 => exact Cb HR134_8 HB)
                    (case side8 => exact HC134_8.out)
                    rintro e w31 ⟨rfl, hb⟩
                    refine ⟨_, rfl, ?_⟩
                    replace BK130 := Kb BK130 hb
                    replace BK131 := Kb BK131 hb
                    replace HB := Bs HB hb
                    (try clear hb)
                    (try clear hb2)
                    (try clear hk)
                    (try clear hi)
                    refine hK.out _ _ ⟨(blk_cell BK130.out 0).trans rfl, (blk_cell BK130.out 1).trans rfl, (blk_cell BK130.out 2).trans rfl, (blk_cell BK131.out 0).trans rfl, (blk_cell BK131.out 1).trans rfl, (blk_cell BK131.out 2).trans rfl, ((HB.out.cell (World.block_lt_of_cell? w _ hw133_0)).trans hw133_0), ((HB.out.cell (World.block_lt_of_cell? w _ hw133_1)).trans hw133_1), ((HB.out.cell (World.block_lt_of_cell? w _ hw133_2)).trans hw133_2), ((HB.out.cell (World.block_lt_of_cell? w _ hw133_3)).trans hw133_3), ((HB.out.cell (World.block_lt_of_cell? w _ hw133_4)).trans hw133_4), ((HB.out.cell (World.block_lt_of_cell? w _ hw133_5)).trans hw133_5), ((HB.out.cell (World.block_lt_of_cell? w _ hw133_6)).trans hw133_6), ((HB.out.cell (World.block_lt_of_cell? w _ hw133_7)).trans hw133_7), ((HB.out.cell (World.block_lt_of_cell? w _ hw133_8)).trans hw133_8), ((HB.out.cell (World.block_lt_of_cell? w _ hw134_0)).trans hw134_0), ((HB.out.cell (World.block_lt_of_cell? w _ hw134_1)).trans hw134_1), ((HB.out.cell (World.block_lt_of_cell? w _ hw134_2)).trans hw134_2), ((HB.out.cell (World.block_lt_of_cell? w _ hw134_3)).trans hw134_3), ((HB.out.cell (World.block_lt_of_cell? w _ hw134_4)).trans hw134_4), ((HB.out.cell (World.block_lt_of_cell? w _ hw134_5)).trans hw134_5), ((HB.out.cell (World.block_lt_of_cell? w _ hw134_6)).trans hw134_6), ((HB.out.cell (World.block_lt_of_cell? w _ hw134_7)).trans hw134_7), ((HB.out.cell (World.block_lt_of_cell? w _ hw134_8)).trans hw134_8)⟩ (fun hHeld => ?_)
                    clear hK K
                    refine norm_ (a' := ?_) ?_ ?_
                    rotate_left
                    · show Act.put _ (some 48) _ = _
                      simp only [Act.put, List.setIfInBounds_toArray, List.set_cons_zero, List.set_cons_succ, i64_w, i32_w]
                      rfl
                    refine pure_ (i := 11) (N := some 49) (v := ?_) (a' := ?_) #[true, true, true, true, true, true, true, true, true, true, true, true] rfl rfl (any_of HT_.out (by kernel_rfl)) (fun _ _ _ h => h) (Or.inl ⟨by rfl, ?_⟩) ?_ ?_
                    rotate_left
                    · intro w'
                      go_simp
                      with_reducible rfl
                    rotate_left
                    · simp only [Act.put, List.setIfInBounds_toArray, List.set_cons_zero, List.set_cons_succ, i64_w, i32_w]
                      rfl
                    refine done_ (done_of HT_.out (by kernel_rfl)) ?_
                    try go_wp2
                    go_ret
                    exact ⟨by first | rfl | (simp [errW_none, errW_some] <;> rfl) | (simp [*, errW_none, errW_some] <;> rfl), Bp HB⟩
                · rw [if_neg c21] at H
                  exact absurd H (by simp)
              · rw [if_neg c20] at H
                exact absurd H (by simp)
            · rw [if_neg c19] at H
              have c19b0 : decide (x5_2 < (l0_1.length : Int)) = false := decide_eq_false c19
              clear c19
              have H' := Aside0.mk H
              clear H
              have hnb32 := NB130_131.out
              have hnc32 := NB131_130.out
              obtain ⟨hcz33_0, hcz33_1, hcz33_2⟩ := bc3 (W := wr) BK130.out
              obtain ⟨hfz33_0, hfz33_1, hfz33_2⟩ := bf3 BK130.out
              go_wp2
              go_loopg [6] k2 (fun kq v6 w' => ∃ (x6_3 : Int), v6 = .int .i64 x6_3 ∧ Aside0 (spec_TreeSame.l1 kq x6_3 l0_0 l0_1 l0_2 l1_0 l1_1 l1_2 = some r) ∧ Aside0 (kq ≤ k2) ∧ Aside0 (w'.heap[gb130]? = some (.cells #[(.slice A0_0 l0_0.length c0_0), (.slice A0_1 l0_1.length c0_1), (.slice A0_2 l0_2.length c0_2)] 32 (0, 0))) ∧ Aside0 (w'.heap[gb131]? = some (.cells #[(.slice A1_0 l1_0.length c1_0), (.slice A1_1 l1_1.length c1_1), (.slice A1_2 l1_2.length c1_2)] 32 (0, 0))) ∧ Aside0 (Below w.heap.size w w'))
              case atStart => exact ⟨(0), (by first | rfl | (simp; done) | (simp [*]; done)), H', ⟨Nat.le_refl _⟩, ⟨by (with_reducible repeat (first | refine blk_drewN ?_ _ | refine blk_drew ?_ | refine blk_alloc ?_ _)); exact BK130.out⟩, ⟨by (with_reducible repeat (first | refine blk_drewN ?_ _ | refine blk_drew ?_ | refine blk_alloc ?_ _)); exact BK131.out⟩, ⟨Bp HB⟩⟩
              case round =>
                clear H'
                try clear c1
                try clear p1
                try clear q1
                try clear hx1
                try clear c2
                try clear p2
                try clear c3
                try clear c4
                try clear p6
                try clear c7
                try clear c8
                try clear c8b0
                try clear c8b1
                try clear c8b2
                try clear c9
                try clear c12
                try clear c13
                try clear p13
                try clear q13
                try clear hx13
                try clear c15
                try clear c18
                try clear c19
                try clear c19b0
                try clear c20
                try clear c20b0
                try clear c21
                try clear c21b0
                try clear c23
                try clear c24
                try clear c28
                try clear c32
                try clear hcz10_0 hcz10_1 hcz10_2 hcz11_0 hcz11_1 hcz11_2 hcz13_0 hcz13_1 hcz13_2 hcz14_0 hcz14_1 hcz14_2 hcz16_0 hcz16_1 hcz16_2 hcz17_0 hcz17_1 hcz17_2 hcz25_0 hcz25_1 hcz25_2 hcz29_0 hcz29_1 hcz29_2 hcz33_0 hcz33_1 hcz33_2 hfz10_0 hfz10_1 hfz10_2 hfz11_0 hfz11_1 hfz11_2 hfz13_0 hfz13_1 hfz13_2 hfz14_0 hfz14_1 hfz14_2 hfz16_0 hfz16_1 hfz16_2 hfz17_0 hfz17_1 hfz17_2 hfz25_0 hfz25_1 hfz25_2 hfz29_0 hfz29_1 hfz29_2 hfz33_0 hfz33_1 hfz33_2
                try clear hx133_0
                try clear hx133_1
                try clear hx133_2
                try clear hx133_3
                try clear hx133_4
                try clear hx133_5
                try clear hx133_6
                try clear hx133_7
                try clear hx133_8
                try clear hx134_0
                try clear hx134_1
                try clear hx134_2
                try clear hx134_3
                try clear hx134_4
                try clear hx134_5
                try clear hx134_6
                try clear hx134_7
                try clear hx134_8
                try clear p133
                try clear p134
                try clear p2
                try clear q133
                try clear q134
                obtain ⟨x6_3, rfl, HA, HK3, BK130, BK131, HB⟩ := hrel
                cases gk with
                | zero => exact absurd HA.out (by simp [spec_TreeSame.l1])
                | succ k3 =>
                  have H := HA.out
                  clear HA
                  simp only [spec_TreeSame.l1] at H
                  by_cases c34 : x6_3 < (l0_2.length : Int)
                  · rw [if_pos c34] at H
                    have c34b0 : decide (x6_3 < (l0_2.length : Int)) = true := decide_eq_true c34
                    clear c34
                    by_cases c35 : 0 ≤ x6_3
                    · rw [if_pos c35] at H
                      have c35b0 : decide (0 ≤ x6_3) = true := decide_eq_true c35
                      clear c35
                      by_cases c36 : x6_3 < (l1_2.length : Int)
                      · rw [if_pos c36] at H
                        have c36b0 : decide (x6_3 < (l1_2.length : Int)) = true := decide_eq_true c36
                        clear c36
                        replace H := Option.bind_eq_some_iff.mp H
                        obtain ⟨t138, A370, H⟩ := H
                        replace H : (if t138 = true then (spec_TreeSame.l1 k3 (wrap64 (x6_3 + 1)) l0_0 l0_1 l0_2 l1_0 l1_1 l1_2) else (some false)) = some r := H
                        have A37 := Aside0.mk A370
                        clear A370
                        by_cases c38 : t138 = true
                        · subst c38
                          have H1 : (spec_TreeSame.l1 k3 (wrap64 (x6_3 + 1)) l0_0 l0_1 l0_2 l1_0 l1_1 l1_2) = some r := by rw [if_pos rfl] at H; exact H
                          clear H
                          have H := H1
                          clear H1
                          have H' := Aside0.mk H
                          clear H
                          have hnb39 := NB130_131.out
                          have hnc39 := NB131_130.out
                          obtain ⟨hcz40_0, hcz40_1, hcz40_2⟩ := bc3 (W := wr) BK130.out
                          obtain ⟨hfz40_0, hfz40_1, hfz40_2⟩ := bf3 BK130.out
                          try go_wp2
                          replace BK130 := Aside0.mk (blk_drew BK130.out)
                          replace BK131 := Aside0.mk (blk_drew BK131.out)
                          replace HB := Aside0.mk (below_drew1 HB.out)
                          have p136 : 0 ≤ (x6_3 : Int) := of_decide_eq_true (by first | (with_reducible assumption) | assumption)
                          have q136 : x6_3 < (l0_2.length : Int) := of_decide_eq_true (by first | (with_reducible assumption) | assumption)
                          obtain ⟨ad136, A136_4, c136_4, e136, hx136_0, hx136_1, hx136_2, hx136_3, hx136_4, hl136_4, hi136_4⟩ := at_T43 HR0_2.out x6_3 p136 q136
                          have hw136_4 := hx136_4
                          have hw136_3 := hx136_3
                          have hw136_2 := hx136_2
                          have hw136_1 := hx136_1
                          have hw136_0 := hx136_0
                          cases e136
                          replace hx136_0 := (HB.out.cell (World.block_lt_of_cell? w _ hx136_0)).trans hx136_0
                          replace hx136_1 := (HB.out.cell (World.block_lt_of_cell? w _ hx136_1)).trans hx136_1
                          replace hx136_2 := (HB.out.cell (World.block_lt_of_cell? w _ hx136_2)).trans hx136_2
                          replace hx136_3 := (HB.out.cell (World.block_lt_of_cell? w _ hx136_3)).trans hx136_3
                          replace hx136_4 := (HB.out.cell (World.block_lt_of_cell? w _ hx136_4)).trans hx136_4
                          have HR136_4 := Aside0.mk hi136_4
                          have HC136_4 := Aside0.mk hl136_4
                          clear hi136_4 hl136_4
                          replace p136 := eq_true p136
                          replace q136 := eq_true q136
                          have p137 : 0 ≤ (x6_3 : Int) := of_decide_eq_true (by first | (with_reducible assumption) | assumption)
                          have q137 : x6_3 < (l1_2.length : Int) := of_decide_eq_true (by first | (with_reducible assumption) | assumption)
                          obtain ⟨ad137, A137_4, c137_4, e137, hx137_0, hx137_1, hx137_2, hx137_3, hx137_4, hl137_4, hi137_4⟩ := at_T43 HR1_2.out x6_3 p137 q137
                          have hw137_4 := hx137_4
                          have hw137_3 := hx137_3
                          have hw137_2 := hx137_2
                          have hw137_1 := hx137_1
                          have hw137_0 := hx137_0
                          cases e137
                          replace hx137_0 := (HB.out.cell (World.block_lt_of_cell? w _ hx137_0)).trans hx137_0
                          replace hx137_1 := (HB.out.cell (World.block_lt_of_cell? w _ hx137_1)).trans hx137_1
                          replace hx137_2 := (HB.out.cell (World.block_lt_of_cell? w _ hx137_2)).trans hx137_2
                          replace hx137_3 := (HB.out.cell (World.block_lt_of_cell? w _ hx137_3)).trans hx137_3
                          replace hx137_4 := (HB.out.cell (World.block_lt_of_cell? w _ hx137_4)).trans hx137_4
                          have HR137_4 := Aside0.mk hi137_4
                          have HC137_4 := Aside0.mk hl137_4
                          clear hi137_4 hl137_4
                          replace p137 := eq_true p137
                          replace q137 := eq_true q137
                          refine start_ (n := 12) (S := fun w' => w'.cell? ⟨gb130, 0, none⟩ = some (.slice A0_0 l0_0.length c0_0) ∧ w'.cell? ⟨gb130, 1, none⟩ = some (.slice A0_1 l0_1.length c0_1) ∧ w'.cell? ⟨gb130, 2, none⟩ = some (.slice (some ad136) l0_2.length c0_2) ∧ w'.cell? ⟨gb131, 0, none⟩ = some (.slice A1_0 l1_0.length c1_0) ∧ w'.cell? ⟨gb131, 1, none⟩ = some (.slice A1_1 l1_1.length c1_1) ∧ w'.cell? ⟨gb131, 2, none⟩ = some (.slice (some ad137) l1_2.length c1_2) ∧ w'.cell? (ad136.add ((x6_3).toNat * 5)) = some (.int .i64 ((rd_T43 l0_2 x6_3).f0)) ∧ w'.cell? ⟨(ad136.add ((x6_3).toNat * 5)).block, (ad136.add ((x6_3).toNat * 5)).off + 1, none⟩ = some (.int .i64 ((rd_T43 l0_2 x6_3).f1)) ∧ w'.cell? ⟨(ad136.add ((x6_3).toNat * 5)).block, (ad136.add ((x6_3).toNat * 5)).off + 2, none⟩ = some (.string ((rd_T43 l0_2 x6_3).f2)) ∧ w'.cell? ⟨(ad136.add ((x6_3).toNat * 5)).block, (ad136.add ((x6_3).toNat * 5)).off + 3, none⟩ = some (.string ((rd_T43 l0_2 x6_3).f3)) ∧ w'.cell? ⟨(ad136.add ((x6_3).toNat * 5)).block, (ad136.add ((x6_3).toNat * 5)).off + 4, none⟩ = some (.slice A136_4 ((rd_T43 l0_2 x6_3).f4).length c136_4) ∧ w'.cell? (ad137.add ((x6_3).toNat * 5)) = some (.int .i64 ((rd_T43 l1_2 x6_3).f0)) ∧ w'.cell? ⟨(ad137.add ((x6_3).toNat * 5)).block, (ad137.add ((x6_3).toNat * 5)).off + 1, none⟩ = some (.int .i64 ((rd_T43 l1_2 x6_3).f1)) ∧ w'.cell? ⟨(ad137.add ((x6_3).toNat * 5)).block, (ad137.add ((x6_3).toNat * 5)).off + 2, none⟩ = some (.string ((rd_T43 l1_2 x6_3).f2)) ∧ w'.cell? ⟨(ad137.add ((x6_3).toNat * 5)).block, (ad137.add ((x6_3).toNat * 5)).off + 3, none⟩ = some (.string ((rd_T43 l1_2 x6_3).f3)) ∧ w'.cell? ⟨(ad137.add ((x6_3).toNat * 5)).block, (ad137.add ((x6_3).toNat * 5)).off + 4, none⟩ = some (.slice A137_4 ((rd_T43 l1_2 x6_3).f4).length c137_4)) (ds := []) #[false, false, false, false, false, false, false, false, false, false, false, false] (by kernel_rfl) rfl rfl ⟨(blk_cell BK130.out 0).trans rfl, (blk_cell BK130.out 1).trans rfl, (blk_cell BK130.out 2).trans rfl, (blk_cell BK131.out 0).trans rfl, (blk_cell BK131.out 1).trans rfl, (blk_cell BK131.out 2).trans rfl, ((HB.out.cell (World.block_lt_of_cell? w _ hw136_0)).trans hw136_0), ((HB.out.cell (World.block_lt_of_cell? w _ hw136_1)).trans hw136_1), ((HB.out.cell (World.block_lt_of_cell? w _ hw136_2)).trans hw136_2), ((HB.out.cell (World.block_lt_of_cell? w _ hw136_3)).trans hw136_3), ((HB.out.cell (World.block_lt_of_cell? w _ hw136_4)).trans hw136_4), ((HB.out.cell (World.block_lt_of_cell? w _ hw137_0)).trans hw137_0), ((HB.out.cell (World.block_lt_of_cell? w _ hw137_1)).trans hw137_1), ((HB.out.cell (World.block_lt_of_cell? w _ hw137_2)).trans hw137_2), ((HB.out.cell (World.block_lt_of_cell? w _ hw137_3)).trans hw137_3), ((HB.out.cell (World.block_lt_of_cell? w _ hw137_4)).trans hw137_4)⟩ (fun hHeld => ?_); refine with_tabW spec_TreeSame.tab11 spec_TreeSame.bits11 (fun HT_ HW_ => ?_)
                          generalize wr.drew = w41 at BK130 BK131 HB HR136_4 HR137_4 hx136_0 hx136_1 hx136_2 hx136_3 hx136_4 hx137_0 hx137_1 hx137_2 hx137_3 hx137_4 hHeld ⊢
                          refine pure_ (i := 0) (N := some 57) (v := ?_) (a' := ?_) #[true, false, false, false, false, false, false, false, false, false, false, false] rfl rfl (any_of HT_.out (by kernel_rfl)) (fun _ _ _ h => h) (Or.inl ⟨by rfl, ?_⟩) ?_ ?_
                          rotate_left
                          · intro w'
                            go_simp
                            with_reducible rfl
                          rotate_left
                          · simp only [Act.put, List.setIfInBounds_toArray, List.set_cons_zero, List.set_cons_succ, i64_w, i32_w]
                            rfl
                          refine pure_ (i := 2) (N := some 59) (v := ?_) (a' := ?_) #[true, false, true, false, false, false, false, false, false, false, false, false] rfl rfl (any_of HT_.out (by kernel_rfl)) (fun _ _ _ h => h) (Or.inl ⟨by rfl, ?_⟩) ?_ ?_
                          rotate_left
                          · intro w'
                            go_simp
                            with_reducible rfl
                          rotate_left
                          · simp only [Act.put, List.setIfInBounds_toArray, List.set_cons_zero, List.set_cons_succ, i64_w, i32_w]
                            rfl
                          refine pure_ (i := 5) (N := some 62) (v := ?_) (a' := ?_) #[true, false, true, false, false, true, false, false, false, false, false, false] rfl rfl (any_of HT_.out (by kernel_rfl)) (fun _ _ _ h => h) (Or.inl ⟨by rfl, ?_⟩) ?_ ?_
                          rotate_left
                          · intro w'
                            go_simp
                            with_reducible rfl
                          rotate_left
                          · simp only [Act.put, List.setIfInBounds_toArray, List.set_cons_zero, List.set_cons_succ, i64_w, i32_w]
                            rfl
                          refine pure_ (i := 7) (N := some 64) (v := ?_) (a' := ?_) #[true, false, true, false, false, true, false, true, false, false, false, false] rfl rfl (any_of HT_.out (by kernel_rfl)) (fun _ _ _ h => h) (Or.inl ⟨by rfl, ?_⟩) ?_ ?_
                          rotate_left
                          · intro w'
                            go_simp
                            with_reducible rfl
                          rotate_left
                          · simp only [Act.put, List.setIfInBounds_toArray, List.set_cons_zero, List.set_cons_succ, i64_w, i32_w]
                            rfl
                          refine take_ (i := 1) (N := some 58) (v := ?_) (a' := ?_) #[true, true, true, false, false, true, false, true, false, false, false, false] rfl rfl (take_ofW HT_.out HW_.out (by kernel_rfl)) (fun _ _ _ h => h) (Or.inl ⟨by rfl, ?_⟩) hHeld ?_ ?_
                          rotate_left
                          · rintro w' ⟨s0, s1, s2, s3, s4, s5, s6, s7, s8, s9, s10, s11, s12, s13, s14, s15⟩
                            go_simp
                            with_reducible rfl
                          rotate_left
                          · simp only [Act.put, List.setIfInBounds_toArray, List.set_cons_zero, List.set_cons_succ, i64_w, i32_w]
                            rfl
                          refine pure_ (i := 3) (N := some 60) (v := ?_) (a' := ?_) #[true, true, true, true, false, true, false, true, false, false, false, false] rfl rfl (any_of HT_.out (by kernel_rfl)) (fun _ _ _ h => h) (Or.inl ⟨by rfl, ?_⟩) ?_ ?_
                          rotate_left
                          · intro w'
                            go_simp
                            with_reducible rfl
                          rotate_left
                          · simp only [Act.put, List.setIfInBounds_toArray, List.set_cons_zero, List.set_cons_succ, i64_w, i32_w]
                            rfl
                          refine take_ (i := 4) (N := some 61) (v := ?_) (a' := ?_) #[true, true, true, true, true, true, false, true, false, false, false, false] rfl rfl (take_ofW HT_.out HW_.out (by kernel_rfl)) (fun _ _ _ h => h) (Or.inl ⟨by rfl, ?_⟩) hHeld ?_ ?_
                          rotate_left
                          · rintro w' ⟨s0, s1, s2, s3, s4, s5, s6, s7, s8, s9, s10, s11, s12, s13, s14, s15⟩
                            go_simp
                            with_reducible rfl
                          rotate_left
                          · simp only [Act.put, List.setIfInBounds_toArray, List.set_cons_zero, List.set_cons_succ, i64_w, i32_w]
                            rfl
                          refine take_ (i := 6) (N := some 63) (v := ?_) (a' := ?_) #[true, true, true, true, true, true, true, true, false, false, false, false] rfl rfl (take_ofW HT_.out HW_.out (by kernel_rfl)) (fun _ _ _ h => h) (Or.inl ⟨by rfl, ?_⟩) hHeld ?_ ?_
                          rotate_left
                          · rintro w' ⟨s0, s1, s2, s3, s4, s5, s6, s7, s8, s9, s10, s11, s12, s13, s14, s15⟩
                            go_simp
                            with_reducible rfl
                          rotate_left
                          · simp only [Act.put, List.setIfInBounds_toArray, List.set_cons_zero, List.set_cons_succ, i64_w, i32_w]
                            rfl
                          refine pure_ (i := 8) (N := some 65) (v := ?_) (a' := ?_) #[true, true, true, true, true, true, true, true, true, false, false, false] rfl rfl (any_of HT_.out (by kernel_rfl)) (fun _ _ _ h => h) (Or.inl ⟨by rfl, ?_⟩) ?_ ?_
                          rotate_left
                          · intro w'
                            go_simp
                            with_reducible rfl
                          rotate_left
                          · simp only [Act.put, List.setIfInBounds_toArray, List.set_cons_zero, List.set_cons_succ, i64_w, i32_w]
                            rfl
                          refine take_ (i := 9) (N := some 66) (v := ?_) (a' := ?_) #[true, true, true, true, true, true, true, true, true, true, false, false] rfl rfl (take_ofW HT_.out HW_.out (by kernel_rfl)) (fun _ _ _ h => h) (Or.inl ⟨by rfl, ?_⟩) hHeld ?_ ?_
                          rotate_left
                          · rintro w' ⟨s0, s1, s2, s3, s4, s5, s6, s7, s8, s9, s10, s11, s12, s13, s14, s15⟩
                            go_simp
                            with_reducible rfl
                          rotate_left
                          · simp only [Act.put, List.setIfInBounds_toArray, List.set_cons_zero, List.set_cons_succ, i64_w, i32_w]
                            rfl
                          refine one_ (i := 10) (N := some 67) #[true, true, true, true, true, true, true, true, true, true, true, false] rfl rfl (one_of HT_.out (by kernel_rfl)) (by decide) (fun K hK => ?_)
                          refine goes_ Try.func50 (by kernel_rfl) rfl #[.agg #[.int .i64 ((rd_T43 l0_2 x6_3).f0), .int .i64 ((rd_T43 l0_2 x6_3).f1), .string ((rd_T43 l0_2 x6_3).f2), .string ((rd_T43 l0_2 x6_3).f3), .slice A136_4 ((rd_T43 l0_2 x6_3).f4).length c136_4], .agg #[.int .i64 ((rd_T43 l1_2 x6_3).f0), .int .i64 ((rd_T43 l1_2 x6_3).f1), .string ((rd_T43 l1_2 x6_3).f2), .string ((rd_T43 l1_2 x6_3).f3), .slice A137_4 ((rd_T43 l1_2 x6_3).f4).length c137_4]] (by rfl) rfl rfl (by (try simp only [List.map_toArray, List.map_cons, List.map_nil]); first | done | rfl | (simp only [List.length_drop, List.length_take]; rfl)) ?_
                          with_reducible refine (spec_l2SameExpr.calls k3 ((rd_T43 l0_2 x6_3).f0) ((rd_T43 l0_2 x6_3).f1) ((rd_T43 l0_2 x6_3).f2) ((rd_T43 l0_2 x6_3).f3) _ _ ((rd_T43 l0_2 x6_3).f4) ((rd_T43 l1_2 x6_3).f0) ((rd_T43 l1_2 x6_3).f1) ((rd_T43 l1_2 x6_3).f2) ((rd_T43 l1_2 x6_3).f3) _ _ ((rd_T43 l1_2 x6_3).f4) true _ ?side1 ?side2 ?side3 ?side4 A37.out).mono ?_
                          (case side1 => exact Cb HR136_4 HB)
                          (case side2 => exact HC136_4.out)
                          (case side3 => exact Cb HR137_4 HB)
                          (case side4 => exact HC137_4.out)
                          rintro e w42 ⟨rfl, hb⟩
                          refine ⟨_, rfl, ?_⟩
                          replace BK130 := Kb BK130 hb
                          replace BK131 := Kb BK131 hb
                          replace HB := Bs HB hb
                          (try clear hb)
                          (try clear hb2)
                          (try clear hk)
                          (try clear hi)
                          refine hK.out _ _ ⟨(blk_cell BK130.out 0).trans rfl, (blk_cell BK130.out 1).trans rfl, (blk_cell BK130.out 2).trans rfl, (blk_cell BK131.out 0).trans rfl, (blk_cell BK131.out 1).trans rfl, (blk_cell BK131.out 2).trans rfl, ((HB.out.cell (World.block_lt_of_cell? w _ hw136_0)).trans hw136_0), ((HB.out.cell (World.block_lt_of_cell? w _ hw136_1)).trans hw136_1), ((HB.out.cell (World.block_lt_of_cell? w _ hw136_2)).trans hw136_2), ((HB.out.cell (World.block_lt_of_cell? w _ hw136_3)).trans hw136_3), ((HB.out.cell (World.block_lt_of_cell? w _ hw136_4)).trans hw136_4), ((HB.out.cell (World.block_lt_of_cell? w _ hw137_0)).trans hw137_0), ((HB.out.cell (World.block_lt_of_cell? w _ hw137_1)).trans hw137_1), ((HB.out.cell (World.block_lt_of_cell? w _ hw137_2)).trans hw137_2), ((HB.out.cell (World.block_lt_of_cell? w _ hw137_3)).trans hw137_3), ((HB.out.cell (World.block_lt_of_cell? w _ hw137_4)).trans hw137_4)⟩ (fun hHeld => ?_)
                          clear hK K
                          refine norm_ (a' := ?_) ?_ ?_
                          rotate_left
                          · show Act.put _ (some 67) _ = _
                            simp only [Act.put, List.setIfInBounds_toArray, List.set_cons_zero, List.set_cons_succ, i64_w, i32_w]
                            rfl
                          refine pure_ (i := 11) (N := some 68) (v := ?_) (a' := ?_) #[true, true, true, true, true, true, true, true, true, true, true, true] rfl rfl (any_of HT_.out (by kernel_rfl)) (fun _ _ _ h => h) (Or.inl ⟨by rfl, ?_⟩) ?_ ?_
                          rotate_left
                          · intro w'
                            go_simp
                            with_reducible rfl
                          rotate_left
                          · simp only [Act.put, List.setIfInBounds_toArray, List.set_cons_zero, List.set_cons_succ, i64_w, i32_w]
                            rfl
                          refine done_ (done_of HT_.out (by kernel_rfl)) ?_
                          try go_wp2
                          go_roundg k3
                          case measure => have := HJ2.out; have := HK2.out; have := HK3.out; omega
                          case rel => exact ⟨(wrap64 (x6_3 + 1)), (by first | rfl | (simp; done) | (simp [*]; done)), H', ⟨by have := HJ2.out; have := HK2.out; have := HK3.out; omega⟩, ⟨by (with_reducible repeat (first | refine blk_drewN ?_ _ | refine blk_drew ?_ | refine blk_alloc ?_ _)); exact BK130.out⟩, ⟨by (with_reducible repeat (first | refine blk_drewN ?_ _ | refine blk_drew ?_ | refine blk_alloc ?_ _)); exact BK131.out⟩, ⟨Bp HB⟩⟩
                        · replace c38 := Bool.eq_false_iff.mpr c38
                          subst c38
                          have H1 : (some false) = some r := by rw [if_neg (show ¬ (false = true) by decide)] at H; exact H
                          clear H
                          have H := H1
                          clear H1
                          obtain rfl := Option.some.inj H
                          have hnb43 := NB130_131.out
                          have hnc43 := NB131_130.out
                          obtain ⟨hcz44_0, hcz44_1, hcz44_2⟩ := bc3 (W := wr) BK130.out
                          obtain ⟨hfz44_0, hfz44_1, hfz44_2⟩ := bf3 BK130.out
                          try go_wp2
                          replace BK130 := Aside0.mk (blk_drew BK130.out)
                          replace BK131 := Aside0.mk (blk_drew BK131.out)
                          replace HB := Aside0.mk (below_drew1 HB.out)
                          have p136 : 0 ≤ (x6_3 : Int) := of_decide_eq_true (by first | (with_reducible assumption) | assumption)
                          have q136 : x6_3 < (l0_2.length : Int) := of_decide_eq_true (by first | (with_reducible assumption) | assumption)
                          obtain ⟨ad136, A136_4, c136_4, e136, hx136_0, hx136_1, hx136_2, hx136_3, hx136_4, hl136_4, hi136_4⟩ := at_T43 HR0_2.out x6_3 p136 q136
                          have hw136_4 := hx136_4
                          have hw136_3 := hx136_3
                          have hw136_2 := hx136_2
                          have hw136_1 := hx136_1
                          have hw136_0 := hx136_0
                          cases e136
                          replace hx136_0 := (HB.out.cell (World.block_lt_of_cell? w _ hx136_0)).trans hx136_0
                          replace hx136_1 := (HB.out.cell (World.block_lt_of_cell? w _ hx136_1)).trans hx136_1
                          replace hx136_2 := (HB.out.cell (World.block_lt_of_cell? w _ hx136_2)).trans hx136_2
                          replace hx136_3 := (HB.out.cell (World.block_lt_of_cell? w _ hx136_3)).trans hx136_3
                          replace hx136_4 := (HB.out.cell (World.block_lt_of_cell? w _ hx136_4)).trans hx136_4
                          have HR136_4 := Aside0.mk hi136_4
                          have HC136_4 := Aside0.mk hl136_4
                          clear hi136_4 hl136_4
                          replace p136 := eq_true p136
                          replace q136 := eq_true q136
                          have p137 : 0 ≤ (x6_3 : Int) := of_decide_eq_true (by first | (with_reducible assumption) | assumption)
                          have q137 : x6_3 < (l1_2.length : Int) := of_decide_eq_true (by first | (with_reducible assumption) | assumption)
                          obtain ⟨ad137, A137_4, c137_4, e137, hx137_0, hx137_1, hx137_2, hx137_3, hx137_4, hl137_4, hi137_4⟩ := at_T43 HR1_2.out x6_3 p137 q137
                          have hw137_4 := hx137_4
                          have hw137_3 := hx137_3
                          have hw137_2 := hx137_2
                          have hw137_1 := hx137_1
                          have hw137_0 := hx137_0
                          cases e137
                          replace hx137_0 := (HB.out.cell (World.block_lt_of_cell? w _ hx137_0)).trans hx137_0
                          replace hx137_1 := (HB.out.cell (World.block_lt_of_cell? w _ hx137_1)).trans hx137_1
                          replace hx137_2 := (HB.out.cell (World.block_lt_of_cell? w _ hx137_2)).trans hx137_2
                          replace hx137_3 := (HB.out.cell (World.block_lt_of_cell? w _ hx137_3)).trans hx137_3
                          replace hx137_4 := (HB.out.cell (World.block_lt_of_cell? w _ hx137_4)).trans hx137_4
                          have HR137_4 := Aside0.mk hi137_4
                          have HC137_4 := Aside0.mk hl137_4
                          clear hi137_4 hl137_4
                          replace p137 := eq_true p137
                          replace q137 := eq_true q137
                          refine start_ (n := 12) (S := fun w' => w'.cell? ⟨gb130, 0, none⟩ = some (.slice A0_0 l0_0.length c0_0) ∧ w'.cell? ⟨gb130, 1, none⟩ = some (.slice A0_1 l0_1.length c0_1) ∧ w'.cell? ⟨gb130, 2, none⟩ = some (.slice (some ad136) l0_2.length c0_2) ∧ w'.cell? ⟨gb131, 0, none⟩ = some (.slice A1_0 l1_0.length c1_0) ∧ w'.cell? ⟨gb131, 1, none⟩ = some (.slice A1_1 l1_1.length c1_1) ∧ w'.cell? ⟨gb131, 2, none⟩ = some (.slice (some ad137) l1_2.length c1_2) ∧ w'.cell? (ad136.add ((x6_3).toNat * 5)) = some (.int .i64 ((rd_T43 l0_2 x6_3).f0)) ∧ w'.cell? ⟨(ad136.add ((x6_3).toNat * 5)).block, (ad136.add ((x6_3).toNat * 5)).off + 1, none⟩ = some (.int .i64 ((rd_T43 l0_2 x6_3).f1)) ∧ w'.cell? ⟨(ad136.add ((x6_3).toNat * 5)).block, (ad136.add ((x6_3).toNat * 5)).off + 2, none⟩ = some (.string ((rd_T43 l0_2 x6_3).f2)) ∧ w'.cell? ⟨(ad136.add ((x6_3).toNat * 5)).block, (ad136.add ((x6_3).toNat * 5)).off + 3, none⟩ = some (.string ((rd_T43 l0_2 x6_3).f3)) ∧ w'.cell? ⟨(ad136.add ((x6_3).toNat * 5)).block, (ad136.add ((x6_3).toNat * 5)).off + 4, none⟩ = some (.slice A136_4 ((rd_T43 l0_2 x6_3).f4).length c136_4) ∧ w'.cell? (ad137.add ((x6_3).toNat * 5)) = some (.int .i64 ((rd_T43 l1_2 x6_3).f0)) ∧ w'.cell? ⟨(ad137.add ((x6_3).toNat * 5)).block, (ad137.add ((x6_3).toNat * 5)).off + 1, none⟩ = some (.int .i64 ((rd_T43 l1_2 x6_3).f1)) ∧ w'.cell? ⟨(ad137.add ((x6_3).toNat * 5)).block, (ad137.add ((x6_3).toNat * 5)).off + 2, none⟩ = some (.string ((rd_T43 l1_2 x6_3).f2)) ∧ w'.cell? ⟨(ad137.add ((x6_3).toNat * 5)).block, (ad137.add ((x6_3).toNat * 5)).off + 3, none⟩ = some (.string ((rd_T43 l1_2 x6_3).f3)) ∧ w'.cell? ⟨(ad137.add ((x6_3).toNat * 5)).block, (ad137.add ((x6_3).toNat * 5)).off + 4, none⟩ = some (.slice A137_4 ((rd_T43 l1_2 x6_3).f4).length c137_4)) (ds := []) #[false, false, false, false, false, false, false, false, false, false, false, false] (by kernel_rfl) rfl rfl ⟨(blk_cell BK130.out 0).trans rfl, (blk_cell BK130.out 1).trans rfl, (blk_cell BK130.out 2).trans rfl, (blk_cell BK131.out 0).trans rfl, (blk_cell BK131.out 1).trans rfl, (blk_cell BK131.out 2).trans rfl, ((HB.out.cell (World.block_lt_of_cell? w _ hw136_0)).trans hw136_0), ((HB.out.cell (World.block_lt_of_cell? w _ hw136_1)).trans hw136_1), ((HB.out.cell (World.block_lt_of_cell? w _ hw136_2)).trans hw136_2), ((HB.out.cell (World.block_lt_of_cell? w _ hw136_3)).trans hw136_3), ((HB.out.cell (World.block_lt_of_cell? w _ hw136_4)).trans hw136_4), ((HB.out.cell (World.block_lt_of_cell? w _ hw137_0)).trans hw137_0), ((HB.out.cell (World.block_lt_of_cell? w _ hw137_1)).trans hw137_1), ((HB.out.cell (World.block_lt_of_cell? w _ hw137_2)).trans hw137_2), ((HB.out.cell (World.block_lt_of_cell? w _ hw137_3)).trans hw137_3), ((HB.out.cell (World.block_lt_of_cell? w _ hw137_4)).trans hw137_4)⟩ (fun hHeld => ?_); refine with_tabW spec_TreeSame.tab11 spec_TreeSame.bits11 (fun HT_ HW_ => ?_)
                          generalize wr.drew = w45 at BK130 BK131 HB HR136_4 HR137_4 hx136_0 hx136_1 hx136_2 hx136_3 hx136_4 hx137_0 hx137_1 hx137_2 hx137_3 hx137_4 hHeld ⊢
                          refine pure_ (i := 0) (N := some 57) (v := ?_) (a' := ?_) #[true, false, false, false, false, false, false, false, false, false, false, false] rfl rfl (any_of HT_.out (by kernel_rfl)) (fun _ _ _ h => h) (Or.inl ⟨by rfl, ?_⟩) ?_ ?_
                          rotate_left
                          · intro w'
                            go_simp
                            with_reducible rfl
                          rotate_left
                          · simp only [Act.put, List.setIfInBounds_toArray, List.set_cons_zero, List.set_cons_succ, i64_w, i32_w]
                            rfl
                          refine pure_ (i := 2) (N := some 59) (v := ?_) (a' := ?_) #[true, false, true, false, false, false, false, false, false, false, false, false] rfl rfl (any_of HT_.out (by kernel_rfl)) (fun _ _ _ h => h) (Or.inl ⟨by rfl, ?_⟩) ?_ ?_
                          rotate_left
                          · intro w'
                            go_simp
                            with_reducible rfl
                          rotate_left
                          · simp only [Act.put, List.setIfInBounds_toArray, List.set_cons_zero, List.set_cons_succ, i64_w, i32_w]
                            rfl
                          refine pure_ (i := 5) (N := some 62) (v := ?_) (a' := ?_) #[true, false, true, false, false, true, false, false, false, false, false, false] rfl rfl (any_of HT_.out (by kernel_rfl)) (fun _ _ _ h => h) (Or.inl ⟨by rfl, ?_⟩) ?_ ?_
                          rotate_left
                          · intro w'
                            go_simp
                            with_reducible rfl
                          rotate_left
                          · simp only [Act.put, List.setIfInBounds_toArray, List.set_cons_zero, List.set_cons_succ, i64_w, i32_w]
                            rfl
                          refine pure_ (i := 7) (N := some 64) (v := ?_) (a' := ?_) #[true, false, true, false, false, true, false, true, false, false, false, false] rfl rfl (any_of HT_.out (by kernel_rfl)) (fun _ _ _ h => h) (Or.inl ⟨by rfl, ?_⟩) ?_ ?_
                          rotate_left
                          · intro w'
                            go_simp
                            with_reducible rfl
                          rotate_left
                          · simp only [Act.put, List.setIfInBounds_toArray, List.set_cons_zero, List.set_cons_succ, i64_w, i32_w]
                            rfl
                          refine take_ (i := 1) (N := some 58) (v := ?_) (a' := ?_) #[true, true, true, false, false, true, false, true, false, false, false, false] rfl rfl (take_ofW HT_.out HW_.out (by kernel_rfl)) (fun _ _ _ h => h) (Or.inl ⟨by rfl, ?_⟩) hHeld ?_ ?_
                          rotate_left
                          · rintro w' ⟨s0, s1, s2, s3, s4, s5, s6, s7, s8, s9, s10, s11, s12, s13, s14, s15⟩
                            go_simp
                            with_reducible rfl
                          rotate_left
                          · simp only [Act.put, List.setIfInBounds_toArray, List.set_cons_zero, List.set_cons_succ, i64_w, i32_w]
                            rfl
                          refine pure_ (i := 3) (N := some 60) (v := ?_) (a' := ?_) #[true, true, true, true, false, true, false, true, false, false, false, false] rfl rfl (any_of HT_.out (by kernel_rfl)) (fun _ _ _ h => h) (Or.inl ⟨by rfl, ?_⟩) ?_ ?_
                          rotate_left
                          · intro w'
                            go_simp
                            with_reducible rfl
                          rotate_left
                          · simp only [Act.put, List.setIfInBounds_toArray, List.set_cons_zero, List.set_cons_succ, i64_w, i32_w]
                            rfl
                          refine take_ (i := 4) (N := some 61) (v := ?_) (a' := ?_) #[true, true, true, true, true, true, false, true, false, false, false, false] rfl rfl (take_ofW HT_.out HW_.out (by kernel_rfl)) (fun _ _ _ h => h) (Or.inl ⟨by rfl, ?_⟩) hHeld ?_ ?_
                          rotate_left
                          · rintro w' ⟨s0, s1, s2, s3, s4, s5, s6, s7, s8, s9, s10, s11, s12, s13, s14, s15⟩
                            go_simp
                            with_reducible rfl
                          rotate_left
                          · simp only [Act.put, List.setIfInBounds_toArray, List.set_cons_zero, List.set_cons_succ, i64_w, i32_w]
                            rfl
                          refine take_ (i := 6) (N := some 63) (v := ?_) (a' := ?_) #[true, true, true, true, true, true, true, true, false, false, false, false] rfl rfl (take_ofW HT_.out HW_.out (by kernel_rfl)) (fun _ _ _ h => h) (Or.inl ⟨by rfl, ?_⟩) hHeld ?_ ?_
                          rotate_left
                          · rintro w' ⟨s0, s1, s2, s3, s4, s5, s6, s7, s8, s9, s10, s11, s12, s13, s14, s15⟩
                            go_simp
                            with_reducible rfl
                          rotate_left
                          · simp only [Act.put, List.setIfInBounds_toArray, List.set_cons_zero, List.set_cons_succ, i64_w, i32_w]
                            rfl
                          refine pure_ (i := 8) (N := some 65) (v := ?_) (a' := ?_) #[true, true, true, true, true, true, true, true, true, false, false, false] rfl rfl (any_of HT_.out (by kernel_rfl)) (fun _ _ _ h => h) (Or.inl ⟨by rfl, ?_⟩) ?_ ?_
                          rotate_left
                          · intro w'
                            go_simp
                            with_reducible rfl
                          rotate_left
                          · simp only [Act.put, List.setIfInBounds_toArray, List.set_cons_zero, List.set_cons_succ, i64_w, i32_w]
                            rfl
                          refine take_ (i := 9) (N := some 66) (v := ?_) (a' := ?_) #[true, true, true, true, true, true, true, true, true, true, false, false] rfl rfl (take_ofW HT_.out HW_.out (by kernel_rfl)) (fun _ _ _ h => h) (Or.inl ⟨by rfl, ?_⟩) hHeld ?_ ?_
                          rotate_left
                          · rintro w' ⟨s0, s1, s2, s3, s4, s5, s6, s7, s8, s9, s10, s11, s12, s13, s14, s15⟩
                            go_simp
                            with_reducible rfl
                          rotate_left
                          · simp only [Act.put, List.setIfInBounds_toArray, List.set_cons_zero, List.set_cons_succ, i64_w, i32_w]
                            rfl
                          refine one_ (i := 10) (N := some 67) #[true, true, true, true, true, true, true, true, true, true, true, false] rfl rfl (one_of HT_.out (by kernel_rfl)) (by decide) (fun K hK => ?_)
                          refine goes_ Try.func50 (by kernel_rfl) rfl #[.agg #[.int .i64 ((rd_T43 l0_2 x6_3).f0), .int .i64 ((rd_T43 l0_2 x6_3).f1), .string ((rd_T43 l0_2 x6_3).f2), .string ((rd_T43 l0_2 x6_3).f3), .slice A136_4 ((rd_T43 l0_2 x6_3).f4).length c136_4], .agg #[.int .i64 ((rd_T43 l1_2 x6_3).f0), .int .i64 ((rd_T43 l1_2 x6_3).f1), .string ((rd_T43 l1_2 x6_3).f2), .string ((rd_T43 l1_2 x6_3).f3), .slice A137_4 ((rd_T43 l1_2 x6_3).f4).length c137_4]] (by rfl) rfl rfl (by (try simp only [List.map_toArray, List.map_cons, List.map_nil]); first | done | rfl | (simp only [List.length_drop, List.length_take]; rfl)) ?_
                          with_reducible refine (spec_l2SameExpr.calls k3 ((rd_T43 l0_2 x6_3).f0) ((rd_T43 l0_2 x6_3).f1) ((rd_T43 l0_2 x6_3).f2) ((rd_T43 l0_2 x6_3).f3) _ _ ((rd_T43 l0_2 x6_3).f4) ((rd_T43 l1_2 x6_3).f0) ((rd_T43 l1_2 x6_3).f1) ((rd_T43 l1_2 x6_3).f2) ((rd_T43 l1_2 x6_3).f3) _ _ ((rd_T43 l1_2 x6_3).f4) false _ ?side1 ?side2 ?side3 ?side4 A37.out).mono ?_
                          (case side1 => exact Cb HR136_4 HB)
                          (case side2 => exact HC136_4.out)
                          (case side3 => exact Cb HR137_4 HB)
                          (case side4 => exact HC137_4.out)
                          rintro e w46 ⟨rfl, hb⟩
                          refine ⟨_, rfl, ?_⟩
                          replace BK130 := Kb BK130 hb
                          replace BK131 := Kb BK131 hb
                          replace HB := Bs HB hb
                          (try clear hb)
                          (try clear hb2)
                          (try clear hk)
                          (try clear hi)
                          refine hK.out _ _ ⟨(blk_cell BK130.out 0).trans rfl, (blk_cell BK130.out 1).trans rfl, (blk_cell BK130.out 2).trans rfl, (blk_cell BK131.out 0).trans rfl, (blk_cell BK131.out 1).trans rfl, (blk_cell BK131.out 2).trans rfl, ((HB.out.cell (World.block_lt_of_cell? w _ hw136_0)).trans hw136_0), ((HB.out.cell (World.block_lt_of_cell? w _ hw136_1)).trans hw136_1), ((HB.out.cell (World.block_lt_of_cell? w _ hw136_2)).trans hw136_2), ((HB.out.cell (World.block_lt_of_cell? w _ hw136_3)).trans hw136_3), ((HB.out.cell (World.block_lt_of_cell? w _ hw136_4)).trans hw136_4), ((HB.out.cell (World.block_lt_of_cell? w _ hw137_0)).trans hw137_0), ((HB.out.cell (World.block_lt_of_cell? w _ hw137_1)).trans hw137_1), ((HB.out.cell (World.block_lt_of_cell? w _ hw137_2)).trans hw137_2), ((HB.out.cell (World.block_lt_of_cell? w _ hw137_3)).trans hw137_3), ((HB.out.cell (World.block_lt_of_cell? w _ hw137_4)).trans hw137_4)⟩ (fun hHeld => ?_)
                          clear hK K
                          refine norm_ (a' := ?_) ?_ ?_
                          rotate_left
                          · show Act.put _ (some 67) _ = _
                            simp only [Act.put, List.setIfInBounds_toArray, List.set_cons_zero, List.set_cons_succ, i64_w, i32_w]
                            rfl
                          refine pure_ (i := 11) (N := some 68) (v := ?_) (a' := ?_) #[true, true, true, true, true, true, true, true, true, true, true, true] rfl rfl (any_of HT_.out (by kernel_rfl)) (fun _ _ _ h => h) (Or.inl ⟨by rfl, ?_⟩) ?_ ?_
                          rotate_left
                          · intro w'
                            go_simp
                            with_reducible rfl
                          rotate_left
                          · simp only [Act.put, List.setIfInBounds_toArray, List.set_cons_zero, List.set_cons_succ, i64_w, i32_w]
                            rfl
                          refine done_ (done_of HT_.out (by kernel_rfl)) ?_
                          try go_wp2
                          go_ret
                          exact ⟨by first | rfl | (simp [errW_none, errW_some] <;> rfl) | (simp [*, errW_none, errW_some] <;> rfl), Bp HB⟩
                      · rw [if_neg c36] at H
                        exact absurd H (by simp)
                    · rw [if_neg c35] at H
                      exact absurd H (by simp)
                  · rw [if_neg c34] at H
                    have c34b0 : decide (x6_3 < (l0_2.length : Int)) = false := decide_eq_false c34
                    clear c34
                    obtain rfl := Option.some.inj H
                    have hnb47 := NB130_131.out
                    have hnc47 := NB131_130.out
                    obtain ⟨hcz48_0, hcz48_1, hcz48_2⟩ := bc3 (W := wr) BK130.out
                    obtain ⟨hfz48_0, hfz48_1, hfz48_2⟩ := bf3 BK130.out
                    go_wp2
                    go_ret
                    exact ⟨by first | rfl | (simp [errW_none, errW_some] <;> rfl) | (simp [*, errW_none, errW_some] <;> rfl), Bp HB⟩

end Go.Proofs.Ythcinellhbmcoaa.Q
