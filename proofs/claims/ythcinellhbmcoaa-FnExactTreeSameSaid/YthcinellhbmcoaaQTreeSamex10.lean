-- written by xprint.py, a program of this session, out of the translation: Lean checks it
import Derived.Test.YthcinellhbmcoaaQTreeSamex0
import Derived.Test.YthcinellhbmcoaaQTreeSamex8
import Derived.Test.YthcinellhbmcoaaQTreeSamex9
namespace Go.Proofs.Ythcinellhbmcoaa.Q
open Go.RowKit Go.Proofs.YthcinellhbmcoaaW.PrintWords Go.Proofs.YthcinellhbmcoaaW.PrintLast Go.Proofs.YthcinellhbmcoaaW.PrintMore
attribute [local go_sem] max2_int min2_int max_two min_two max_three min_three max_four min_four   -- for this text's walks alone
set_option linter.unusedVariables false
set_option linter.unusedSimpArgs false

/-! ### laws_eqTreeFunS: function 60 -/
def laws_eqTreeFunS.l0 : Nat → List (S45) → List (S45) → Int → Option (Bool)
  | 0, _, _, _ => none
  | k + 1, x0, x1, x5 => if x5 < (x0.length : Int) then (if 0 ≤ x5 then (if x5 < (x1.length : Int) then ((laws_eqTreeFun.f k ((rd_T45 x0 x5).f0) ((rd_T45 x0 x5).f1) ((rd_T45 x0 x5).f2) ((rd_T45 x0 x5).f3) ((rd_T45 x0 x5).f4.f0) ((rd_T45 x0 x5).f4.f1) ((rd_T45 x0 x5).f4.f2) ((rd_T45 x0 x5).f4.f3) ((rd_T45 x0 x5).f4.f4) ((rd_T45 x1 x5).f0) ((rd_T45 x1 x5).f1) ((rd_T45 x1 x5).f2) ((rd_T45 x1 x5).f3) ((rd_T45 x1 x5).f4.f0) ((rd_T45 x1 x5).f4.f1) ((rd_T45 x1 x5).f4.f2) ((rd_T45 x1 x5).f4.f3) ((rd_T45 x1 x5).f4.f4)).bind fun t260 => (if t260 = true then (laws_eqTreeFunS.l0 k x0 x1 (wrap64 (x5 + 1))) else (some false))) else (none)) else (none)) else (some true)
def laws_eqTreeFunS.f (k : Nat) (l0 : List (S45)) (l1 : List (S45)) : Option (Bool) := if (l0.length : Int) = (l1.length : Int) then (laws_eqTreeFunS.l0 k l0 l1 0) else (some false)
theorem laws_eqTreeFunS.mono_l : ∀ k, (∀ y0 y1 y2, LeO (laws_eqTreeFunS.l0 k y0 y1 y2) (laws_eqTreeFunS.l0 (k + 1) y0 y1 y2))
  | 0 => fun _ _ _ r h => by simp [laws_eqTreeFunS.l0] at h
  | k + 1 => by
    have ih0 := laws_eqTreeFunS.mono_l k
    · intro y0 y1 y2
      unfold laws_eqTreeFunS.l0
      repeat' first
      | (with_reducible exact ih0 _ _ _)
      | (with_reducible exact laws_eqTreeFun.mono _ _ _ _ _ _ _ _ _ _ _ _ _ _ _ _ _ _ _)
      | (with_reducible exact LeO.refl _)
      | (with_reducible exact LeO.none _)
      | (with_reducible refine LeO.ite ?_ ?_)
      | (with_reducible refine LeO.bind ?_ (fun _ => ?_))
      | exact ih0 _ _ _
      | exact laws_eqTreeFun.mono _ _ _ _ _ _ _ _ _ _ _ _ _ _ _ _ _ _ _
      | exact LeO.none _
      | refine LeO.ite ?_ ?_
      | refine LeO.bind ?_ (fun _ => ?_)
theorem laws_eqTreeFunS.mono : ∀ a0 a1 k, LeO (laws_eqTreeFunS.f k a0 a1) (laws_eqTreeFunS.f (k + 1) a0 a1) := by
  intro a0 a1 k
  have ih0 := laws_eqTreeFunS.mono_l k
  unfold laws_eqTreeFunS.f
  repeat' first
      | (with_reducible exact ih0 _ _ _)
      | (with_reducible exact laws_eqTreeFun.mono _ _ _ _ _ _ _ _ _ _ _ _ _ _ _ _ _ _ _)
      | (with_reducible exact LeO.refl _)
      | (with_reducible exact LeO.none _)
      | (with_reducible refine LeO.ite ?_ ?_)
      | (with_reducible refine LeO.bind ?_ (fun _ => ?_))
      | exact ih0 _ _ _
      | exact laws_eqTreeFun.mono _ _ _ _ _ _ _ _ _ _ _ _ _ _ _ _ _ _ _
      | exact LeO.none _
      | refine LeO.ite ?_ ?_
      | refine LeO.bind ?_ (fun _ => ?_)
def laws_eqTreeFunS.T6 : Bool × List (List Nat × List Nat) := (true, [([], []), ([], []), ([0, 1], [0, 1]), ([2], [2]), ([], []), ([], []), ([4, 5], [4, 5]), ([6], [6]), ([3, 7], [3, 7]), ([8], [8])])
def laws_eqTreeFunS.B6 : List Nat := [0, 0, 3, 7, 0, 0, 48, 112, 255, 511]
theorem laws_eqTreeFunS.tab6 : rtab .any (opsOf Try.f60 6) = laws_eqTreeFunS.T6 := by kernel_rfl
theorem laws_eqTreeFunS.bits6 : waitsOk laws_eqTreeFunS.T6.2 laws_eqTreeFunS.B6 = true := by kernel_rfl
set_option maxHeartbeats 8000000 in
set_option maxRecDepth 100000 in
theorem laws_eqTreeFunS.calls (k : Nat) (A0 : Option Addr) (c0 : Nat) (l0 : List (S45)) (A1 : Option Addr) (c1 : Nat) (l1 : List (S45)) (r : Bool) (w : World) (hr0 : Kd.C k45 w A0 l0.length l0) (hc0 : l0.length ≤ c0) (hr1 : Kd.C k45 w A1 l1.length l1) (hc1 : l1.length ≤ c1) (h : laws_eqTreeFunS.f k l0 l1 = some r) :
    Calls Try.prog 60 #[.slice A0 l0.length c0, .slice A1 l1.length c1] w fun e w' => e = .returned (.bool r) ∧ Below w.heap.size w w' := by
  have hu45 := Try.underlying45
  have HR0 := Aside0.mk hr0
  have HC0 := Aside0.mk hc0
  clear hr0 hc0
  have HR1 := Aside0.mk hr1
  have HC1 := Aside0.mk hc1
  clear hr1 hc1
  have HB := Aside0.mk (Below.refl w.heap.size w)
  have H : (if (l0.length : Int) = (l1.length : Int) then (laws_eqTreeFunS.l0 k l0 l1 0) else (some false)) = some r := h
  clear h
  by_cases c3 : (l0.length : Int) = (l1.length : Int)
  · rw [if_pos c3] at H
    have c3b0 : ((l0.length : Int) == (l1.length : Int)) = true := beq_iff_eq.mpr c3
    have c3b1 : ((l0.length : Int) != (l1.length : Int)) = false := bne_eq_false_iff_eq.mpr c3
    have c3b2 : (l0.length == l1.length) = true := by first | simpa using c3 | (simp at c3 ⊢; omega)
    clear c3
    have H' := Aside0.mk H
    clear H
    go_enter Try.func60, Try.ntmps60
    go_wp2
    go_loopg [5] k (fun kq v5 w' => ∃ (x5_1 : Int), v5 = .int .i64 x5_1 ∧ Aside0 (laws_eqTreeFunS.l0 kq l0 l1 x5_1 = some r) ∧ Aside0 (kq ≤ k) ∧ Aside0 (Below w.heap.size w w'))
    case atStart => exact ⟨(0), (by first | rfl | (simp; done) | (simp [*]; done)), H', ⟨Nat.le_refl _⟩, ⟨Bp HB⟩⟩
    case round =>
      clear H'
      try clear c1
      try clear p2
      try clear c3
      try clear c3b0
      try clear c3b1
      try clear c3b2
      obtain ⟨x5_1, rfl, HA, HK1, HB⟩ := hrel
      cases gk with
      | zero => exact absurd HA.out (by simp [laws_eqTreeFunS.l0])
      | succ k1 =>
        have H := HA.out
        clear HA
        simp only [laws_eqTreeFunS.l0] at H
        by_cases c4 : x5_1 < (l0.length : Int)
        · rw [if_pos c4] at H
          have c4b0 : decide (x5_1 < (l0.length : Int)) = true := decide_eq_true c4
          clear c4
          by_cases c5 : 0 ≤ x5_1
          · rw [if_pos c5] at H
            have c5b0 : decide (0 ≤ x5_1) = true := decide_eq_true c5
            clear c5
            by_cases c6 : x5_1 < (l1.length : Int)
            · rw [if_pos c6] at H
              have c6b0 : decide (x5_1 < (l1.length : Int)) = true := decide_eq_true c6
              clear c6
              replace H := Option.bind_eq_some_iff.mp H
              obtain ⟨t260, A70, H⟩ := H
              replace H : (if t260 = true then (laws_eqTreeFunS.l0 k1 l0 l1 (wrap64 (x5_1 + 1))) else (some false)) = some r := H
              have A7 := Aside0.mk A70
              clear A70
              by_cases c8 : t260 = true
              · subst c8
                have H1 : (laws_eqTreeFunS.l0 k1 l0 l1 (wrap64 (x5_1 + 1))) = some r := by rw [if_pos rfl] at H; exact H
                clear H
                have H := H1
                clear H1
                have H' := Aside0.mk H
                clear H
                try go_wp2
                replace HB := Aside0.mk (below_drew1 HB.out)
                have p258 : 0 ≤ (x5_1 : Int) := of_decide_eq_true (by first | (with_reducible assumption) | assumption)
                have q258 : x5_1 < (l0.length : Int) := of_decide_eq_true (by first | (with_reducible assumption) | assumption)
                obtain ⟨ad258, A258_2, c258_2, A258_8, c258_8, e258, hx258_0, hx258_1, hx258_2, hx258_3, hx258_4, hx258_5, hx258_6, hx258_7, hx258_8, hl258_2, hi258_2, hl258_8, hi258_8⟩ := at_T45 HR0.out x5_1 p258 q258
                have hw258_8 := hx258_8
                have hw258_7 := hx258_7
                have hw258_6 := hx258_6
                have hw258_5 := hx258_5
                have hw258_4 := hx258_4
                have hw258_3 := hx258_3
                have hw258_2 := hx258_2
                have hw258_1 := hx258_1
                have hw258_0 := hx258_0
                cases e258
                replace hx258_0 := (HB.out.cell (World.block_lt_of_cell? w _ hx258_0)).trans hx258_0
                replace hx258_1 := (HB.out.cell (World.block_lt_of_cell? w _ hx258_1)).trans hx258_1
                replace hx258_2 := (HB.out.cell (World.block_lt_of_cell? w _ hx258_2)).trans hx258_2
                replace hx258_3 := (HB.out.cell (World.block_lt_of_cell? w _ hx258_3)).trans hx258_3
                replace hx258_4 := (HB.out.cell (World.block_lt_of_cell? w _ hx258_4)).trans hx258_4
                replace hx258_5 := (HB.out.cell (World.block_lt_of_cell? w _ hx258_5)).trans hx258_5
                replace hx258_6 := (HB.out.cell (World.block_lt_of_cell? w _ hx258_6)).trans hx258_6
                replace hx258_7 := (HB.out.cell (World.block_lt_of_cell? w _ hx258_7)).trans hx258_7
                replace hx258_8 := (HB.out.cell (World.block_lt_of_cell? w _ hx258_8)).trans hx258_8
                have HR258_2 := Aside0.mk hi258_2
                have HC258_2 := Aside0.mk hl258_2
                clear hi258_2 hl258_2
                have HR258_8 := Aside0.mk hi258_8
                have HC258_8 := Aside0.mk hl258_8
                clear hi258_8 hl258_8
                replace p258 := eq_true p258
                replace q258 := eq_true q258
                have p259 : 0 ≤ (x5_1 : Int) := of_decide_eq_true (by first | (with_reducible assumption) | assumption)
                have q259 : x5_1 < (l1.length : Int) := of_decide_eq_true (by first | (with_reducible assumption) | assumption)
                obtain ⟨ad259, A259_2, c259_2, A259_8, c259_8, e259, hx259_0, hx259_1, hx259_2, hx259_3, hx259_4, hx259_5, hx259_6, hx259_7, hx259_8, hl259_2, hi259_2, hl259_8, hi259_8⟩ := at_T45 HR1.out x5_1 p259 q259
                have hw259_8 := hx259_8
                have hw259_7 := hx259_7
                have hw259_6 := hx259_6
                have hw259_5 := hx259_5
                have hw259_4 := hx259_4
                have hw259_3 := hx259_3
                have hw259_2 := hx259_2
                have hw259_1 := hx259_1
                have hw259_0 := hx259_0
                cases e259
                replace hx259_0 := (HB.out.cell (World.block_lt_of_cell? w _ hx259_0)).trans hx259_0
                replace hx259_1 := (HB.out.cell (World.block_lt_of_cell? w _ hx259_1)).trans hx259_1
                replace hx259_2 := (HB.out.cell (World.block_lt_of_cell? w _ hx259_2)).trans hx259_2
                replace hx259_3 := (HB.out.cell (World.block_lt_of_cell? w _ hx259_3)).trans hx259_3
                replace hx259_4 := (HB.out.cell (World.block_lt_of_cell? w _ hx259_4)).trans hx259_4
                replace hx259_5 := (HB.out.cell (World.block_lt_of_cell? w _ hx259_5)).trans hx259_5
                replace hx259_6 := (HB.out.cell (World.block_lt_of_cell? w _ hx259_6)).trans hx259_6
                replace hx259_7 := (HB.out.cell (World.block_lt_of_cell? w _ hx259_7)).trans hx259_7
                replace hx259_8 := (HB.out.cell (World.block_lt_of_cell? w _ hx259_8)).trans hx259_8
                have HR259_2 := Aside0.mk hi259_2
                have HC259_2 := Aside0.mk hl259_2
                clear hi259_2 hl259_2
                have HR259_8 := Aside0.mk hi259_8
                have HC259_8 := Aside0.mk hl259_8
                clear hi259_8 hl259_8
                replace p259 := eq_true p259
                replace q259 := eq_true q259
                refine start_ (n := 10) (S := fun w' => w'.cell? (ad258.add ((x5_1).toNat * 9)) = some (.string ((rd_T45 l0 x5_1).f0)) ∧ w'.cell? ⟨(ad258.add ((x5_1).toNat * 9)).block, (ad258.add ((x5_1).toNat * 9)).off + 1, none⟩ = some (.bool ((rd_T45 l0 x5_1).f1)) ∧ w'.cell? ⟨(ad258.add ((x5_1).toNat * 9)).block, (ad258.add ((x5_1).toNat * 9)).off + 2, none⟩ = some (.slice A258_2 ((rd_T45 l0 x5_1).f2).length c258_2) ∧ w'.cell? ⟨(ad258.add ((x5_1).toNat * 9)).block, (ad258.add ((x5_1).toNat * 9)).off + 3, none⟩ = some (.int .i64 ((rd_T45 l0 x5_1).f3)) ∧ w'.cell? ⟨(ad258.add ((x5_1).toNat * 9)).block, (ad258.add ((x5_1).toNat * 9)).off + 4, none⟩ = some (.int .i64 ((rd_T45 l0 x5_1).f4.f0)) ∧ w'.cell? ⟨(ad258.add ((x5_1).toNat * 9)).block, (ad258.add ((x5_1).toNat * 9)).off + 5, none⟩ = some (.int .i64 ((rd_T45 l0 x5_1).f4.f1)) ∧ w'.cell? ⟨(ad258.add ((x5_1).toNat * 9)).block, (ad258.add ((x5_1).toNat * 9)).off + 6, none⟩ = some (.string ((rd_T45 l0 x5_1).f4.f2)) ∧ w'.cell? ⟨(ad258.add ((x5_1).toNat * 9)).block, (ad258.add ((x5_1).toNat * 9)).off + 7, none⟩ = some (.string ((rd_T45 l0 x5_1).f4.f3)) ∧ w'.cell? ⟨(ad258.add ((x5_1).toNat * 9)).block, (ad258.add ((x5_1).toNat * 9)).off + 8, none⟩ = some (.slice A258_8 ((rd_T45 l0 x5_1).f4.f4).length c258_8) ∧ w'.cell? (ad259.add ((x5_1).toNat * 9)) = some (.string ((rd_T45 l1 x5_1).f0)) ∧ w'.cell? ⟨(ad259.add ((x5_1).toNat * 9)).block, (ad259.add ((x5_1).toNat * 9)).off + 1, none⟩ = some (.bool ((rd_T45 l1 x5_1).f1)) ∧ w'.cell? ⟨(ad259.add ((x5_1).toNat * 9)).block, (ad259.add ((x5_1).toNat * 9)).off + 2, none⟩ = some (.slice A259_2 ((rd_T45 l1 x5_1).f2).length c259_2) ∧ w'.cell? ⟨(ad259.add ((x5_1).toNat * 9)).block, (ad259.add ((x5_1).toNat * 9)).off + 3, none⟩ = some (.int .i64 ((rd_T45 l1 x5_1).f3)) ∧ w'.cell? ⟨(ad259.add ((x5_1).toNat * 9)).block, (ad259.add ((x5_1).toNat * 9)).off + 4, none⟩ = some (.int .i64 ((rd_T45 l1 x5_1).f4.f0)) ∧ w'.cell? ⟨(ad259.add ((x5_1).toNat * 9)).block, (ad259.add ((x5_1).toNat * 9)).off + 5, none⟩ = some (.int .i64 ((rd_T45 l1 x5_1).f4.f1)) ∧ w'.cell? ⟨(ad259.add ((x5_1).toNat * 9)).block, (ad259.add ((x5_1).toNat * 9)).off + 6, none⟩ = some (.string ((rd_T45 l1 x5_1).f4.f2)) ∧ w'.cell? ⟨(ad259.add ((x5_1).toNat * 9)).block, (ad259.add ((x5_1).toNat * 9)).off + 7, none⟩ = some (.string ((rd_T45 l1 x5_1).f4.f3)) ∧ w'.cell? ⟨(ad259.add ((x5_1).toNat * 9)).block, (ad259.add ((x5_1).toNat * 9)).off + 8, none⟩ = some (.slice A259_8 ((rd_T45 l1 x5_1).f4.f4).length c259_8)) (ds := []) #[false, false, false, false, false, false, false, false, false, false] (by kernel_rfl) rfl rfl ⟨((HB.out.cell (World.block_lt_of_cell? w _ hw258_0)).trans hw258_0), ((HB.out.cell (World.block_lt_of_cell? w _ hw258_1)).trans hw258_1), ((HB.out.cell (World.block_lt_of_cell? w _ hw258_2)).trans hw258_2), ((HB.out.cell (World.block_lt_of_cell? w _ hw258_3)).trans hw258_3), ((HB.out.cell (World.block_lt_of_cell? w _ hw258_4)).trans hw258_4), ((HB.out.cell (World.block_lt_of_cell? w _ hw258_5)).trans hw258_5), ((HB.out.cell (World.block_lt_of_cell? w _ hw258_6)).trans hw258_6), ((HB.out.cell (World.block_lt_of_cell? w _ hw258_7)).trans hw258_7), ((HB.out.cell (World.block_lt_of_cell? w _ hw258_8)).trans hw258_8), ((HB.out.cell (World.block_lt_of_cell? w _ hw259_0)).trans hw259_0), ((HB.out.cell (World.block_lt_of_cell? w _ hw259_1)).trans hw259_1), ((HB.out.cell (World.block_lt_of_cell? w _ hw259_2)).trans hw259_2), ((HB.out.cell (World.block_lt_of_cell? w _ hw259_3)).trans hw259_3), ((HB.out.cell (World.block_lt_of_cell? w _ hw259_4)).trans hw259_4), ((HB.out.cell (World.block_lt_of_cell? w _ hw259_5)).trans hw259_5), ((HB.out.cell (World.block_lt_of_cell? w _ hw259_6)).trans hw259_6), ((HB.out.cell (World.block_lt_of_cell? w _ hw259_7)).trans hw259_7), ((HB.out.cell (World.block_lt_of_cell? w _ hw259_8)).trans hw259_8)⟩ (fun hHeld => ?_); refine with_tabW laws_eqTreeFunS.tab6 laws_eqTreeFunS.bits6 (fun HT_ HW_ => ?_)
                generalize wr.drew = w9 at HB HR258_2 HR258_8 HR259_2 HR259_8 hx258_0 hx258_1 hx258_2 hx258_3 hx258_4 hx258_5 hx258_6 hx258_7 hx258_8 hx259_0 hx259_1 hx259_2 hx259_3 hx259_4 hx259_5 hx259_6 hx259_7 hx259_8 hHeld ⊢
                refine pure_ (i := 0) (N := some 17) (v := ?_) (a' := ?_) #[true, false, false, false, false, false, false, false, false, false] rfl rfl (any_of HT_.out (by kernel_rfl)) (fun _ _ _ h => h) (Or.inl ⟨by rfl, ?_⟩) ?_ ?_
                rotate_left
                · intro w'
                  go_simp
                  with_reducible rfl
                rotate_left
                · simp only [Act.put, List.setIfInBounds_toArray, List.set_cons_zero, List.set_cons_succ, i64_w, i32_w]
                  rfl
                refine pure_ (i := 1) (N := some 18) (v := ?_) (a' := ?_) #[true, true, false, false, false, false, false, false, false, false] rfl rfl (any_of HT_.out (by kernel_rfl)) (fun _ _ _ h => h) (Or.inl ⟨by rfl, ?_⟩) ?_ ?_
                rotate_left
                · intro w'
                  go_simp
                  with_reducible rfl
                rotate_left
                · simp only [Act.put, List.setIfInBounds_toArray, List.set_cons_zero, List.set_cons_succ, i64_w, i32_w]
                  rfl
                refine pure_ (i := 2) (N := some 19) (v := ?_) (a' := ?_) #[true, true, true, false, false, false, false, false, false, false] rfl rfl (any_of HT_.out (by kernel_rfl)) (fun _ _ _ h => h) (Or.inl ⟨by rfl, ?_⟩) ?_ ?_
                rotate_left
                · intro w'
                  go_simp
                  with_reducible rfl
                rotate_left
                · simp only [Act.put, List.setIfInBounds_toArray, List.set_cons_zero, List.set_cons_succ, i64_w, i32_w]
                  rfl
                refine pure_ (i := 4) (N := some 21) (v := ?_) (a' := ?_) #[true, true, true, false, true, false, false, false, false, false] rfl rfl (any_of HT_.out (by kernel_rfl)) (fun _ _ _ h => h) (Or.inl ⟨by rfl, ?_⟩) ?_ ?_
                rotate_left
                · intro w'
                  go_simp
                  with_reducible rfl
                rotate_left
                · simp only [Act.put, List.setIfInBounds_toArray, List.set_cons_zero, List.set_cons_succ, i64_w, i32_w]
                  rfl
                refine pure_ (i := 5) (N := some 22) (v := ?_) (a' := ?_) #[true, true, true, false, true, true, false, false, false, false] rfl rfl (any_of HT_.out (by kernel_rfl)) (fun _ _ _ h => h) (Or.inl ⟨by rfl, ?_⟩) ?_ ?_
                rotate_left
                · intro w'
                  go_simp
                  with_reducible rfl
                rotate_left
                · simp only [Act.put, List.setIfInBounds_toArray, List.set_cons_zero, List.set_cons_succ, i64_w, i32_w]
                  rfl
                refine pure_ (i := 6) (N := some 23) (v := ?_) (a' := ?_) #[true, true, true, false, true, true, true, false, false, false] rfl rfl (any_of HT_.out (by kernel_rfl)) (fun _ _ _ h => h) (Or.inl ⟨by rfl, ?_⟩) ?_ ?_
                rotate_left
                · intro w'
                  go_simp
                  with_reducible rfl
                rotate_left
                · simp only [Act.put, List.setIfInBounds_toArray, List.set_cons_zero, List.set_cons_succ, i64_w, i32_w]
                  rfl
                refine take_ (i := 3) (N := some 20) (v := ?_) (a' := ?_) #[true, true, true, true, true, true, true, false, false, false] rfl rfl (take_ofW HT_.out HW_.out (by kernel_rfl)) (fun _ _ _ h => h) (Or.inl ⟨by rfl, ?_⟩) hHeld ?_ ?_
                rotate_left
                · rintro w' ⟨s0, s1, s2, s3, s4, s5, s6, s7, s8, s9, s10, s11, s12, s13, s14, s15, s16, s17⟩
                  go_simp
                  with_reducible rfl
                rotate_left
                · simp only [Act.put, List.setIfInBounds_toArray, List.set_cons_zero, List.set_cons_succ, i64_w, i32_w]
                  rfl
                refine take_ (i := 7) (N := some 24) (v := ?_) (a' := ?_) #[true, true, true, true, true, true, true, true, false, false] rfl rfl (take_ofW HT_.out HW_.out (by kernel_rfl)) (fun _ _ _ h => h) (Or.inl ⟨by rfl, ?_⟩) hHeld ?_ ?_
                rotate_left
                · rintro w' ⟨s0, s1, s2, s3, s4, s5, s6, s7, s8, s9, s10, s11, s12, s13, s14, s15, s16, s17⟩
                  go_simp
                  with_reducible rfl
                rotate_left
                · simp only [Act.put, List.setIfInBounds_toArray, List.set_cons_zero, List.set_cons_succ, i64_w, i32_w]
                  rfl
                refine one_ (i := 8) (N := some 25) #[true, true, true, true, true, true, true, true, true, false] rfl rfl (one_of HT_.out (by kernel_rfl)) (by decide) (fun K hK => ?_)
                refine goes_ Try.func112 (by kernel_rfl) rfl #[.agg #[.string ((rd_T45 l0 x5_1).f0), .bool ((rd_T45 l0 x5_1).f1), .slice A258_2 ((rd_T45 l0 x5_1).f2).length c258_2, .int .i64 ((rd_T45 l0 x5_1).f3), .int .i64 ((rd_T45 l0 x5_1).f4.f0), .int .i64 ((rd_T45 l0 x5_1).f4.f1), .string ((rd_T45 l0 x5_1).f4.f2), .string ((rd_T45 l0 x5_1).f4.f3), .slice A258_8 ((rd_T45 l0 x5_1).f4.f4).length c258_8], .agg #[.string ((rd_T45 l1 x5_1).f0), .bool ((rd_T45 l1 x5_1).f1), .slice A259_2 ((rd_T45 l1 x5_1).f2).length c259_2, .int .i64 ((rd_T45 l1 x5_1).f3), .int .i64 ((rd_T45 l1 x5_1).f4.f0), .int .i64 ((rd_T45 l1 x5_1).f4.f1), .string ((rd_T45 l1 x5_1).f4.f2), .string ((rd_T45 l1 x5_1).f4.f3), .slice A259_8 ((rd_T45 l1 x5_1).f4.f4).length c259_8]] (by rfl) rfl rfl (by (try simp only [List.map_toArray, List.map_cons, List.map_nil]); first | done | rfl | (simp only [List.length_drop, List.length_take]; rfl)) ?_
                with_reducible refine (laws_eqTreeFun.calls k1 ((rd_T45 l0 x5_1).f0) ((rd_T45 l0 x5_1).f1) _ _ ((rd_T45 l0 x5_1).f2) ((rd_T45 l0 x5_1).f3) ((rd_T45 l0 x5_1).f4.f0) ((rd_T45 l0 x5_1).f4.f1) ((rd_T45 l0 x5_1).f4.f2) ((rd_T45 l0 x5_1).f4.f3) _ _ ((rd_T45 l0 x5_1).f4.f4) ((rd_T45 l1 x5_1).f0) ((rd_T45 l1 x5_1).f1) _ _ ((rd_T45 l1 x5_1).f2) ((rd_T45 l1 x5_1).f3) ((rd_T45 l1 x5_1).f4.f0) ((rd_T45 l1 x5_1).f4.f1) ((rd_T45 l1 x5_1).f4.f2) ((rd_T45 l1 x5_1).f4.f3) _ _ ((rd_T45 l1 x5_1).f4.f4) true _ ?side1 ?side2 ?side3 ?side4 ?side5 ?side6 ?side7 ?side8 A7.out).mono ?_
                (case side1 => exact Cb HR258_2 HB)
                (case side2 => exact HC258_2.out)
                (case side3 => exact Cb HR258_8 HB)
                (case side4 => exact HC258_8.out)
                (case side5 => exact Cb HR259_2 HB)
                (case side6 => exact HC259_2.out)
                (case side7 => exact Cb HR259_8 HB)
                (case side8 => exact HC259_8.out)
                rintro e w10 ⟨rfl, hb⟩
                refine ⟨_, rfl, ?_⟩
                replace HB := Bs HB hb
                (try clear hb)
                (try clear hb2)
                (try clear hk)
                (try clear hi)
                refine hK.out _ _ ⟨((HB.out.cell (World.block_lt_of_cell? w _ hw258_0)).trans hw258_0), ((HB.out.cell (World.block_lt_of_cell? w _ hw258_1)).trans hw258_1), ((HB.out.cell (World.block_lt_of_cell? w _ hw258_2)).trans hw258_2), ((HB.out.cell (World.block_lt_of_cell? w _ hw258_3)).trans hw258_3), ((HB.out.cell (World.block_lt_of_cell? w _ hw258_4)).trans hw258_4), ((HB.out.cell (World.block_lt_of_cell? w _ hw258_5)).trans hw258_5), ((HB.out.cell (World.block_lt_of_cell? w _ hw258_6)).trans hw258_6), ((HB.out.cell (World.block_lt_of_cell? w _ hw258_7)).trans hw258_7), ((HB.out.cell (World.block_lt_of_cell? w _ hw258_8)).trans hw258_8), ((HB.out.cell (World.block_lt_of_cell? w _ hw259_0)).trans hw259_0), ((HB.out.cell (World.block_lt_of_cell? w _ hw259_1)).trans hw259_1), ((HB.out.cell (World.block_lt_of_cell? w _ hw259_2)).trans hw259_2), ((HB.out.cell (World.block_lt_of_cell? w _ hw259_3)).trans hw259_3), ((HB.out.cell (World.block_lt_of_cell? w _ hw259_4)).trans hw259_4), ((HB.out.cell (World.block_lt_of_cell? w _ hw259_5)).trans hw259_5), ((HB.out.cell (World.block_lt_of_cell? w _ hw259_6)).trans hw259_6), ((HB.out.cell (World.block_lt_of_cell? w _ hw259_7)).trans hw259_7), ((HB.out.cell (World.block_lt_of_cell? w _ hw259_8)).trans hw259_8)⟩ (fun hHeld => ?_)
                clear hK K
                refine norm_ (a' := ?_) ?_ ?_
                rotate_left
                · show Act.put _ (some 25) _ = _
                  simp only [Act.put, List.setIfInBounds_toArray, List.set_cons_zero, List.set_cons_succ, i64_w, i32_w]
                  rfl
                refine pure_ (i := 9) (N := some 26) (v := ?_) (a' := ?_) #[true, true, true, true, true, true, true, true, true, true] rfl rfl (any_of HT_.out (by kernel_rfl)) (fun _ _ _ h => h) (Or.inl ⟨by rfl, ?_⟩) ?_ ?_
                rotate_left
                · intro w'
                  go_simp
                  with_reducible rfl
                rotate_left
                · simp only [Act.put, List.setIfInBounds_toArray, List.set_cons_zero, List.set_cons_succ, i64_w, i32_w]
                  rfl
                refine done_ (done_of HT_.out (by kernel_rfl)) ?_
                try go_wp2
                go_roundg k1
                case measure => have := HK1.out; omega
                case rel => exact ⟨(wrap64 (x5_1 + 1)), (by first | rfl | (simp; done) | (simp [*]; done)), H', ⟨by have := HK1.out; omega⟩, ⟨Bp HB⟩⟩
              · replace c8 := Bool.eq_false_iff.mpr c8
                subst c8
                have H1 : (some false) = some r := by rw [if_neg (show ¬ (false = true) by decide)] at H; exact H
                clear H
                have H := H1
                clear H1
                obtain rfl := Option.some.inj H
                try go_wp2
                replace HB := Aside0.mk (below_drew1 HB.out)
                have p258 : 0 ≤ (x5_1 : Int) := of_decide_eq_true (by first | (with_reducible assumption) | assumption)
                have q258 : x5_1 < (l0.length : Int) := of_decide_eq_true (by first | (with_reducible assumption) | assumption)
                obtain ⟨ad258, A258_2, c258_2, A258_8, c258_8, e258, hx258_0, hx258_1, hx258_2, hx258_3, hx258_4, hx258_5, hx258_6, hx258_7, hx258_8, hl258_2, hi258_2, hl258_8, hi258_8⟩ := at_T45 HR0.out x5_1 p258 q258
                have hw258_8 := hx258_8
                have hw258_7 := hx258_7
                have hw258_6 := hx258_6
                have hw258_5 := hx258_5
                have hw258_4 := hx258_4
                have hw258_3 := hx258_3
                have hw258_2 := hx258_2
                have hw258_1 := hx258_1
                have hw258_0 := hx258_0
                cases e258
                replace hx258_0 := (HB.out.cell (World.block_lt_of_cell? w _ hx258_0)).trans hx258_0
                replace hx258_1 := (HB.out.cell (World.block_lt_of_cell? w _ hx258_1)).trans hx258_1
                replace hx258_2 := (HB.out.cell (World.block_lt_of_cell? w _ hx258_2)).trans hx258_2
                replace hx258_3 := (HB.out.cell (World.block_lt_of_cell? w _ hx258_3)).trans hx258_3
                replace hx258_4 := (HB.out.cell (World.block_lt_of_cell? w _ hx258_4)).trans hx258_4
                replace hx258_5 := (HB.out.cell (World.block_lt_of_cell? w _ hx258_5)).trans hx258_5
                replace hx258_6 := (HB.out.cell (World.block_lt_of_cell? w _ hx258_6)).trans hx258_6
                replace hx258_7 := (HB.out.cell (World.block_lt_of_cell? w _ hx258_7)).trans hx258_7
                replace hx258_8 := (HB.out.cell (World.block_lt_of_cell? w _ hx258_8)).trans hx258_8
                have HR258_2 := Aside0.mk hi258_2
                have HC258_2 := Aside0.mk hl258_2
                clear hi258_2 hl258_2
                have HR258_8 := Aside0.mk hi258_8
                have HC258_8 := Aside0.mk hl258_8
                clear hi258_8 hl258_8
                replace p258 := eq_true p258
                replace q258 := eq_true q258
                have p259 : 0 ≤ (x5_1 : Int) := of_decide_eq_true (by first | (with_reducible assumption) | assumption)
                have q259 : x5_1 < (l1.length : Int) := of_decide_eq_true (by first | (with_reducible assumption) | assumption)
                obtain ⟨ad259, A259_2, c259_2, A259_8, c259_8, e259, hx259_0, hx259_1, hx259_2, hx259_3, hx259_4, hx259_5, hx259_6, hx259_7, hx259_8, hl259_2, hi259_2, hl259_8, hi259_8⟩ := at_T45 HR1.out x5_1 p259 q259
                have hw259_8 := hx259_8
                have hw259_7 := hx259_7
                have hw259_6 := hx259_6
                have hw259_5 := hx259_5
                have hw259_4 := hx259_4
                have hw259_3 := hx259_3
                have hw259_2 := hx259_2
                have hw259_1 := hx259_1
                have hw259_0 := hx259_0
                cases e259
                replace hx259_0 := (HB.out.cell (World.block_lt_of_cell? w _ hx259_0)).trans hx259_0
                replace hx259_1 := (HB.out.cell (World.block_lt_of_cell? w _ hx259_1)).trans hx259_1
                replace hx259_2 := (HB.out.cell (World.block_lt_of_cell? w _ hx259_2)).trans hx259_2
                replace hx259_3 := (HB.out.cell (World.block_lt_of_cell? w _ hx259_3)).trans hx259_3
                replace hx259_4 := (HB.out.cell (World.block_lt_of_cell? w _ hx259_4)).trans hx259_4
                replace hx259_5 := (HB.out.cell (World.block_lt_of_cell? w _ hx259_5)).trans hx259_5
                replace hx259_6 := (HB.out.cell (World.block_lt_of_cell? w _ hx259_6)).trans hx259_6
                replace hx259_7 := (HB.out.cell (World.block_lt_of_cell? w _ hx259_7)).trans hx259_7
                replace hx259_8 := (HB.out.cell (World.block_lt_of_cell? w _ hx259_8)).trans hx259_8
                have HR259_2 := Aside0.mk hi259_2
                have HC259_2 := Aside0.mk hl259_2
                clear hi259_2 hl259_2
                have HR259_8 := Aside0.mk hi259_8
                have HC259_8 := Aside0.mk hl259_8
                clear hi259_8 hl259_8
                replace p259 := eq_true p259
                replace q259 := eq_true q259
                refine start_ (n := 10) (S := fun w' => w'.cell? (ad258.add ((x5_1).toNat * 9)) = some (.string ((rd_T45 l0 x5_1).f0)) ∧ w'.cell? ⟨(ad258.add ((x5_1).toNat * 9)).block, (ad258.add ((x5_1).toNat * 9)).off + 1, none⟩ = some (.bool ((rd_T45 l0 x5_1).f1)) ∧ w'.cell? ⟨(ad258.add ((x5_1).toNat * 9)).block, (ad258.add ((x5_1).toNat * 9)).off + 2, none⟩ = some (.slice A258_2 ((rd_T45 l0 x5_1).f2).length c258_2) ∧ w'.cell? ⟨(ad258.add ((x5_1).toNat * 9)).block, (ad258.add ((x5_1).toNat * 9)).off + 3, none⟩ = some (.int .i64 ((rd_T45 l0 x5_1).f3)) ∧ w'.cell? ⟨(ad258.add ((x5_1).toNat * 9)).block, (ad258.add ((x5_1).toNat * 9)).off + 4, none⟩ = some (.int .i64 ((rd_T45 l0 x5_1).f4.f0)) ∧ w'.cell? ⟨(ad258.add ((x5_1).toNat * 9)).block, (ad258.add ((x5_1).toNat * 9)).off + 5, none⟩ = some (.int .i64 ((rd_T45 l0 x5_1).f4.f1)) ∧ w'.cell? ⟨(ad258.add ((x5_1).toNat * 9)).block, (ad258.add ((x5_1).toNat * 9)).off + 6, none⟩ = some (.string ((rd_T45 l0 x5_1).f4.f2)) ∧ w'.cell? ⟨(ad258.add ((x5_1).toNat * 9)).block, (ad258.add ((x5_1).toNat * 9)).off + 7, none⟩ = some (.string ((rd_T45 l0 x5_1).f4.f3)) ∧ w'.cell? ⟨(ad258.add ((x5_1).toNat * 9)).block, (ad258.add ((x5_1).toNat * 9)).off + 8, none⟩ = some (.slice A258_8 ((rd_T45 l0 x5_1).f4.f4).length c258_8) ∧ w'.cell? (ad259.add ((x5_1).toNat * 9)) = some (.string ((rd_T45 l1 x5_1).f0)) ∧ w'.cell? ⟨(ad259.add ((x5_1).toNat * 9)).block, (ad259.add ((x5_1).toNat * 9)).off + 1, none⟩ = some (.bool ((rd_T45 l1 x5_1).f1)) ∧ w'.cell? ⟨(ad259.add ((x5_1).toNat * 9)).block, (ad259.add ((x5_1).toNat * 9)).off + 2, none⟩ = some (.slice A259_2 ((rd_T45 l1 x5_1).f2).length c259_2) ∧ w'.cell? ⟨(ad259.add ((x5_1).toNat * 9)).block, (ad259.add ((x5_1).toNat * 9)).off + 3, none⟩ = some (.int .i64 ((rd_T45 l1 x5_1).f3)) ∧ w'.cell? ⟨(ad259.add ((x5_1).toNat * 9)).block, (ad259.add ((x5_1).toNat * 9)).off + 4, none⟩ = some (.int .i64 ((rd_T45 l1 x5_1).f4.f0)) ∧ w'.cell? ⟨(ad259.add ((x5_1).toNat * 9)).block, (ad259.add ((x5_1).toNat * 9)).off + 5, none⟩ = some (.int .i64 ((rd_T45 l1 x5_1).f4.f1)) ∧ w'.cell? ⟨(ad259.add ((x5_1).toNat * 9)).block, (ad259.add ((x5_1).toNat * 9)).off + 6, none⟩ = some (.string ((rd_T45 l1 x5_1).f4.f2)) ∧ w'.cell? ⟨(ad259.add ((x5_1).toNat * 9)).block, (ad259.add ((x5_1).toNat * 9)).off + 7, none⟩ = some (.string ((rd_T45 l1 x5_1).f4.f3)) ∧ w'.cell? ⟨(ad259.add ((x5_1).toNat * 9)).block, (ad259.add ((x5_1).toNat * 9)).off + 8, none⟩ = some (.slice A259_8 ((rd_T45 l1 x5_1).f4.f4).length c259_8)) (ds := []) #[false, false, false, false, false, false, false, false, false, false] (by kernel_rfl) rfl rfl ⟨((HB.out.cell (World.block_lt_of_cell? w _ hw258_0)).trans hw258_0), ((HB.out.cell (World.block_lt_of_cell? w _ hw258_1)).trans hw258_1), ((HB.out.cell (World.block_lt_of_cell? w _ hw258_2)).trans hw258_2), ((HB.out.cell (World.block_lt_of_cell? w _ hw258_3)).trans hw258_3), ((HB.out.cell (World.block_lt_of_cell? w _ hw258_4)).trans hw258_4), ((HB.out.cell (World.block_lt_of_cell? w _ hw258_5)).trans hw258_5), ((HB.out.cell (World.block_lt_of_cell? w _ hw258_6)).trans hw258_6), ((HB.out.cell (World.block_lt_of_cell? w _ hw258_7)).trans hw258_7), ((HB.out.cell (World.block_lt_of_cell? w _ hw258_8)).trans hw258_8), ((HB.out.cell (World.block_lt_of_cell? w _ hw259_0)).trans hw259_0), ((HB.out.cell (World.block_lt_of_cell? w _ hw259_1)).trans hw259_1), ((HB.out.cell (World.block_lt_of_cell? w _ hw259_2)).trans hw259_2), ((HB.out.cell (World.block_lt_of_cell? w _ hw259_3)).trans hw259_3), ((HB.out.cell (World.block_lt_of_cell? w _ hw259_4)).trans hw259_4), ((HB.out.cell (World.block_lt_of_cell? w _ hw259_5)).trans hw259_5), ((HB.out.cell (World.block_lt_of_cell? w _ hw259_6)).trans hw259_6), ((HB.out.cell (World.block_lt_of_cell? w _ hw259_7)).trans hw259_7), ((HB.out.cell (World.block_lt_of_cell? w _ hw259_8)).trans hw259_8)⟩ (fun hHeld => ?_); refine with_tabW laws_eqTreeFunS.tab6 laws_eqTreeFunS.bits6 (fun HT_ HW_ => ?_)
                generalize wr.drew = w11 at HB HR258_2 HR258_8 HR259_2 HR259_8 hx258_0 hx258_1 hx258_2 hx258_3 hx258_4 hx258_5 hx258_6 hx258_7 hx258_8 hx259_0 hx259_1 hx259_2 hx259_3 hx259_4 hx259_5 hx259_6 hx259_7 hx259_8 hHeld ⊢
                refine pure_ (i := 0) (N := some 17) (v := ?_) (a' := ?_) #[true, false, false, false, false, false, false, false, false, false] rfl rfl (any_of HT_.out (by kernel_rfl)) (fun _ _ _ h => h) (Or.inl ⟨by rfl, ?_⟩) ?_ ?_
                rotate_left
                · intro w'
                  go_simp
                  with_reducible rfl
                rotate_left
                · simp only [Act.put, List.setIfInBounds_toArray, List.set_cons_zero, List.set_cons_succ, i64_w, i32_w]
                  rfl
                refine pure_ (i := 1) (N := some 18) (v := ?_) (a' := ?_) #[true, true, false, false, false, false, false, false, false, false] rfl rfl (any_of HT_.out (by kernel_rfl)) (fun _ _ _ h => h) (Or.inl ⟨by rfl, ?_⟩) ?_ ?_
                rotate_left
                · intro w'
                  go_simp
                  with_reducible rfl
                rotate_left
                · simp only [Act.put, List.setIfInBounds_toArray, List.set_cons_zero, List.set_cons_succ, i64_w, i32_w]
                  rfl
                refine pure_ (i := 2) (N := some 19) (v := ?_) (a' := ?_) #[true, true, true, false, false, false, false, false, false, false] rfl rfl (any_of HT_.out (by kernel_rfl)) (fun _ _ _ h => h) (Or.inl ⟨by rfl, ?_⟩) ?_ ?_
                rotate_left
                · intro w'
                  go_simp
                  with_reducible rfl
                rotate_left
                · simp only [Act.put, List.setIfInBounds_toArray, List.set_cons_zero, List.set_cons_succ, i64_w, i32_w]
                  rfl
                refine pure_ (i := 4) (N := some 21) (v := ?_) (a' := ?_) #[true, true, true, false, true, false, false, false, false, false] rfl rfl (any_of HT_.out (by kernel_rfl)) (fun _ _ _ h => h) (Or.inl ⟨by rfl, ?_⟩) ?_ ?_
                rotate_left
                · intro w'
                  go_simp
                  with_reducible rfl
                rotate_left
                · simp only [Act.put, List.setIfInBounds_toArray, List.set_cons_zero, List.set_cons_succ, i64_w, i32_w]
                  rfl
                refine pure_ (i := 5) (N := some 22) (v := ?_) (a' := ?_) #[true, true, true, false, true, true, false, false, false, false] rfl rfl (any_of HT_.out (by kernel_rfl)) (fun _ _ _ h => h) (Or.inl ⟨by rfl, ?_⟩) ?_ ?_
                rotate_left
                · intro w'
                  go_simp
                  with_reducible rfl
                rotate_left
                · simp only [Act.put, List.setIfInBounds_toArray, List.set_cons_zero, List.set_cons_succ, i64_w, i32_w]
                  rfl
                refine pure_ (i := 6) (N := some 23) (v := ?_) (a' := ?_) #[true, true, true, false, true, true, true, false, false, false] rfl rfl (any_of HT_.out (by kernel_rfl)) (fun _ _ _ h => h) (Or.inl ⟨by rfl, ?_⟩) ?_ ?_
                rotate_left
                · intro w'
                  go_simp
                  with_reducible rfl
                rotate_left
                · simp only [Act.put, List.setIfInBounds_toArray, List.set_cons_zero, List.set_cons_succ, i64_w, i32_w]
                  rfl
                refine take_ (i := 3) (N := some 20) (v := ?_) (a' := ?_) #[true, true, true, true, true, true, true, false, false, false] rfl rfl (take_ofW HT_.out HW_.out (by kernel_rfl)) (fun _ _ _ h => h) (Or.inl ⟨by rfl, ?_⟩) hHeld ?_ ?_
                rotate_left
                · rintro w' ⟨s0, s1, s2, s3, s4, s5, s6, s7, s8, s9, s10, s11, s12, s13, s14, s15, s16, s17⟩
                  go_simp
                  with_reducible rfl
                rotate_left
                · simp only [Act.put, List.setIfInBounds_toArray, List.set_cons_zero, List.set_cons_succ, i64_w, i32_w]
                  rfl
                refine take_ (i := 7) (N := some 24) (v := ?_) (a' := ?_) #[true, true, true, true, true, true, true, true, false, false] rfl rfl (take_ofW HT_.out HW_.out (by kernel_rfl)) (fun _ _ _ h => h) (Or.inl ⟨by rfl, ?_⟩) hHeld ?_ ?_
                rotate_left
                · rintro w' ⟨s0, s1, s2, s3, s4, s5, s6, s7, s8, s9, s10, s11, s12, s13, s14, s15, s16, s17⟩
                  go_simp
                  with_reducible rfl
                rotate_left
                · simp only [Act.put, List.setIfInBounds_toArray, List.set_cons_zero, List.set_cons_succ, i64_w, i32_w]
                  rfl
                refine one_ (i := 8) (N := some 25) #[true, true, true, true, true, true, true, true, true, false] rfl rfl (one_of HT_.out (by kernel_rfl)) (by decide) (fun K hK => ?_)
                refine goes_ Try.func112 (by kernel_rfl) rfl #[.agg #[.string ((rd_T45 l0 x5_1).f0), .bool ((rd_T45 l0 x5_1).f1), .slice A258_2 ((rd_T45 l0 x5_1).f2).length c258_2, .int .i64 ((rd_T45 l0 x5_1).f3), .int .i64 ((rd_T45 l0 x5_1).f4.f0), .int .i64 ((rd_T45 l0 x5_1).f4.f1), .string ((rd_T45 l0 x5_1).f4.f2), .string ((rd_T45 l0 x5_1).f4.f3), .slice A258_8 ((rd_T45 l0 x5_1).f4.f4).length c258_8], .agg #[.string ((rd_T45 l1 x5_1).f0), .bool ((rd_T45 l1 x5_1).f1), .slice A259_2 ((rd_T45 l1 x5_1).f2).length c259_2, .int .i64 ((rd_T45 l1 x5_1).f3), .int .i64 ((rd_T45 l1 x5_1).f4.f0), .int .i64 ((rd_T45 l1 x5_1).f4.f1), .string ((rd_T45 l1 x5_1).f4.f2), .string ((rd_T45 l1 x5_1).f4.f3), .slice A259_8 ((rd_T45 l1 x5_1).f4.f4).length c259_8]] (by rfl) rfl rfl (by (try simp only [List.map_toArray, List.map_cons, List.map_nil]); first | done | rfl | (simp only [List.length_drop, List.length_take]; rfl)) ?_
                with_reducible refine (laws_eqTreeFun.calls k1 ((rd_T45 l0 x5_1).f0) ((rd_T45 l0 x5_1).f1) _ _ ((rd_T45 l0 x5_1).f2) ((rd_T45 l0 x5_1).f3) ((rd_T45 l0 x5_1).f4.f0) ((rd_T45 l0 x5_1).f4.f1) ((rd_T45 l0 x5_1).f4.f2) ((rd_T45 l0 x5_1).f4.f3) _ _ ((rd_T45 l0 x5_1).f4.f4) ((rd_T45 l1 x5_1).f0) ((rd_T45 l1 x5_1).f1) _ _ ((rd_T45 l1 x5_1).f2) ((rd_T45 l1 x5_1).f3) ((rd_T45 l1 x5_1).f4.f0) ((rd_T45 l1 x5_1).f4.f1) ((rd_T45 l1 x5_1).f4.f2) ((rd_T45 l1 x5_1).f4.f3) _ _ ((rd_T45 l1 x5_1).f4.f4) false _ ?side1 ?side2 ?side3 ?side4 ?side5 ?side6 ?side7 ?side8 A7.out).mono ?_
                (case side1 => exact Cb HR258_2 HB)
                (case side2 => exact HC258_2.out)
                (case side3 => exact Cb HR258_8 HB)
                (case side4 => exact HC258_8.out)
                (case side5 => exact Cb HR259_2 HB)
                (case side6 => exact HC259_2.out)
                (case side7 => exact Cb HR259_8 HB)
                (case side8 => exact HC259_8.out)
                rintro e w12 ⟨rfl, hb⟩
                refine ⟨_, rfl, ?_⟩
                replace HB := Bs HB hb
                (try clear hb)
                (try clear hb2)
                (try clear hk)
                (try clear hi)
                refine hK.out _ _ ⟨((HB.out.cell (World.block_lt_of_cell? w _ hw258_0)).trans hw258_0), ((HB.out.cell (World.block_lt_of_cell? w _ hw258_1)).trans hw258_1), ((HB.out.cell (World.block_lt_of_cell? w _ hw258_2)).trans hw258_2), ((HB.out.cell (World.block_lt_of_cell? w _ hw258_3)).trans hw258_3), ((HB.out.cell (World.block_lt_of_cell? w _ hw258_4)).trans hw258_4), ((HB.out.cell (World.block_lt_of_cell? w _ hw258_5)).trans hw258_5), ((HB.out.cell (World.block_lt_of_cell? w _ hw258_6)).trans hw258_6), ((HB.out.cell (World.block_lt_of_cell? w _ hw258_7)).trans hw258_7), ((HB.out.cell (World.block_lt_of_cell? w _ hw258_8)).trans hw258_8), ((HB.out.cell (World.block_lt_of_cell? w _ hw259_0)).trans hw259_0), ((HB.out.cell (World.block_lt_of_cell? w _ hw259_1)).trans hw259_1), ((HB.out.cell (World.block_lt_of_cell? w _ hw259_2)).trans hw259_2), ((HB.out.cell (World.block_lt_of_cell? w _ hw259_3)).trans hw259_3), ((HB.out.cell (World.block_lt_of_cell? w _ hw259_4)).trans hw259_4), ((HB.out.cell (World.block_lt_of_cell? w _ hw259_5)).trans hw259_5), ((HB.out.cell (World.block_lt_of_cell? w _ hw259_6)).trans hw259_6), ((HB.out.cell (World.block_lt_of_cell? w _ hw259_7)).trans hw259_7), ((HB.out.cell (World.block_lt_of_cell? w _ hw259_8)).trans hw259_8)⟩ (fun hHeld => ?_)
                clear hK K
                refine norm_ (a' := ?_) ?_ ?_
                rotate_left
                · show Act.put _ (some 25) _ = _
                  simp only [Act.put, List.setIfInBounds_toArray, List.set_cons_zero, List.set_cons_succ, i64_w, i32_w]
                  rfl
                refine pure_ (i := 9) (N := some 26) (v := ?_) (a' := ?_) #[true, true, true, true, true, true, true, true, true, true] rfl rfl (any_of HT_.out (by kernel_rfl)) (fun _ _ _ h => h) (Or.inl ⟨by rfl, ?_⟩) ?_ ?_
                rotate_left
                · intro w'
                  go_simp
                  with_reducible rfl
                rotate_left
                · simp only [Act.put, List.setIfInBounds_toArray, List.set_cons_zero, List.set_cons_succ, i64_w, i32_w]
                  rfl
                refine done_ (done_of HT_.out (by kernel_rfl)) ?_
                try go_wp2
                go_ret
                exact ⟨by first | rfl | (simp [errW_none, errW_some] <;> rfl) | (simp [*, errW_none, errW_some] <;> rfl), Bp HB⟩
            · rw [if_neg c6] at H
              exact absurd H (by simp)
          · rw [if_neg c5] at H
            exact absurd H (by simp)
        · rw [if_neg c4] at H
          have c4b0 : decide (x5_1 < (l0.length : Int)) = false := decide_eq_false c4
          clear c4
          obtain rfl := Option.some.inj H
          go_wp2
          go_ret
          exact ⟨by first | rfl | (simp [errW_none, errW_some] <;> rfl) | (simp [*, errW_none, errW_some] <;> rfl), Bp HB⟩
  · rw [if_neg c3] at H
    have c3b0 : ((l0.length : Int) == (l1.length : Int)) = false := beq_eq_false_iff_ne.mpr c3
    have c3b1 : ((l0.length : Int) != (l1.length : Int)) = true := bne_iff_ne.mpr c3
    have c3b2 : (l0.length == l1.length) = false := by first | simpa using c3 | (simp at c3 ⊢; omega)
    obtain rfl := Option.some.inj H
    go_enter Try.func60, Try.ntmps60
    go_wp2
    go_ret
    exact ⟨by first | rfl | (simp [errW_none, errW_some] <;> rfl) | (simp [*, errW_none, errW_some] <;> rfl), Bp HB⟩

/-! ### laws_eqTreeMod: function 16 -/
def laws_eqTreeMod.f (k : Nat) (l0_0 : List ByteArray) (l0_1 : List (S45)) (l0_2 : List (S43)) (l1_0 : List ByteArray) (l1_1 : List (S45)) (l1_2 : List (S43)) : Option (Bool) := (laws_eqStringS.f k l0_0 l1_0).bind fun t263 => (if t263 = true then ((laws_eqTreeFunS.f k l0_1 l1_1).bind fun t264 => (if t264 = true then ((laws_eqTreeExprS.f k l0_2 l1_2).bind fun t265 => (if t265 = true then (some true) else (some false))) else (some false))) else (some false))
theorem laws_eqTreeMod.mono : ∀ a0 a1 a2 a3 a4 a5 k, LeO (laws_eqTreeMod.f k a0 a1 a2 a3 a4 a5) (laws_eqTreeMod.f (k + 1) a0 a1 a2 a3 a4 a5) := by
  intro a0 a1 a2 a3 a4 a5 k
  unfold laws_eqTreeMod.f
  repeat' first
      | (with_reducible exact laws_eqStringS.mono _ _ _)
      | (with_reducible exact laws_eqTreeExprS.mono _ _ _)
      | (with_reducible exact laws_eqTreeFunS.mono _ _ _)
      | (with_reducible exact LeO.refl _)
      | (with_reducible exact LeO.none _)
      | (with_reducible refine LeO.ite ?_ ?_)
      | (with_reducible refine LeO.bind ?_ (fun _ => ?_))
      | exact laws_eqStringS.mono _ _ _
      | exact laws_eqTreeExprS.mono _ _ _
      | exact laws_eqTreeFunS.mono _ _ _
      | exact LeO.none _
      | refine LeO.ite ?_ ?_
      | refine LeO.bind ?_ (fun _ => ?_)
set_option maxHeartbeats 8000000 in
set_option maxRecDepth 100000 in
theorem laws_eqTreeMod.calls (k : Nat) (A0_0 : Option Addr) (c0_0 : Nat) (l0_0 : List ByteArray) (A0_1 : Option Addr) (c0_1 : Nat) (l0_1 : List (S45)) (A0_2 : Option Addr) (c0_2 : Nat) (l0_2 : List (S43)) (A1_0 : Option Addr) (c1_0 : Nat) (l1_0 : List ByteArray) (A1_1 : Option Addr) (c1_1 : Nat) (l1_1 : List (S45)) (A1_2 : Option Addr) (c1_2 : Nat) (l1_2 : List (S43)) (r : Bool) (w : World) (hr0_0 : Kd.C Kd.string w A0_0 l0_0.length l0_0) (hc0_0 : l0_0.length ≤ c0_0) (hr0_1 : Kd.C k45 w A0_1 l0_1.length l0_1) (hc0_1 : l0_1.length ≤ c0_1) (hr0_2 : Kd.C k43 w A0_2 l0_2.length l0_2) (hc0_2 : l0_2.length ≤ c0_2) (hr1_0 : Kd.C Kd.string w A1_0 l1_0.length l1_0) (hc1_0 : l1_0.length ≤ c1_0) (hr1_1 : Kd.C k45 w A1_1 l1_1.length l1_1) (hc1_1 : l1_1.length ≤ c1_1) (hr1_2 : Kd.C k43 w A1_2 l1_2.length l1_2) (hc1_2 : l1_2.length ≤ c1_2) (h : laws_eqTreeMod.f k l0_0 l0_1 l0_2 l1_0 l1_1 l1_2 = some r) :
    Calls Try.prog 16 #[.agg #[.slice A0_0 l0_0.length c0_0, .slice A0_1 l0_1.length c0_1, .slice A0_2 l0_2.length c0_2], .agg #[.slice A1_0 l1_0.length c1_0, .slice A1_1 l1_1.length c1_1, .slice A1_2 l1_2.length c1_2]] w fun e w' => e = .returned (.bool r) ∧ Below w.heap.size w w' := by
  have hu32 := Try.underlying32
  have HR0_0 := Aside0.mk hr0_0
  have HC0_0 := Aside0.mk hc0_0
  clear hr0_0 hc0_0
  have HR0_1 := Aside0.mk hr0_1
  have HC0_1 := Aside0.mk hc0_1
  clear hr0_1 hc0_1
  have HR0_2 := Aside0.mk hr0_2
  have HC0_2 := Aside0.mk hc0_2
  clear hr0_2 hc0_2
  have HR1_0 := Aside0.mk hr1_0
  have HC1_0 := Aside0.mk hc1_0
  clear hr1_0 hc1_0
  have HR1_1 := Aside0.mk hr1_1
  have HC1_1 := Aside0.mk hc1_1
  clear hr1_1 hc1_1
  have HR1_2 := Aside0.mk hr1_2
  have HC1_2 := Aside0.mk hc1_2
  clear hr1_2 hc1_2
  have HB := Aside0.mk (Below.refl w.heap.size w)
  have H : ((laws_eqStringS.f k l0_0 l1_0).bind fun t263 => (if t263 = true then ((laws_eqTreeFunS.f k l0_1 l1_1).bind fun t264 => (if t264 = true then ((laws_eqTreeExprS.f k l0_2 l1_2).bind fun t265 => (if t265 = true then (some true) else (some false))) else (some false))) else (some false))) = some r := h
  clear h
  replace H := Option.bind_eq_some_iff.mp H
  obtain ⟨t263, A30, H⟩ := H
  replace H : (if t263 = true then ((laws_eqTreeFunS.f k l0_1 l1_1).bind fun t264 => (if t264 = true then ((laws_eqTreeExprS.f k l0_2 l1_2).bind fun t265 => (if t265 = true then (some true) else (some false))) else (some false))) else (some false)) = some r := H
  have A3 := Aside0.mk A30
  clear A30
  by_cases c4 : t263 = true
  · subst c4
    have H1 : ((laws_eqTreeFunS.f k l0_1 l1_1).bind fun t264 => (if t264 = true then ((laws_eqTreeExprS.f k l0_2 l1_2).bind fun t265 => (if t265 = true then (some true) else (some false))) else (some false))) = some r := by rw [if_pos rfl] at H; exact H
    clear H
    have H := H1
    clear H1
    replace H := Option.bind_eq_some_iff.mp H
    obtain ⟨t264, A50, H⟩ := H
    replace H : (if t264 = true then ((laws_eqTreeExprS.f k l0_2 l1_2).bind fun t265 => (if t265 = true then (some true) else (some false))) else (some false)) = some r := H
    have A5 := Aside0.mk A50
    clear A50
    by_cases c6 : t264 = true
    · subst c6
      have H1 : ((laws_eqTreeExprS.f k l0_2 l1_2).bind fun t265 => (if t265 = true then (some true) else (some false))) = some r := by rw [if_pos rfl] at H; exact H
      clear H
      have H := H1
      clear H1
      replace H := Option.bind_eq_some_iff.mp H
      obtain ⟨t265, A70, H⟩ := H
      replace H : (if t265 = true then (some true) else (some false)) = some r := H
      have A7 := Aside0.mk A70
      clear A70
      by_cases c8 : t265 = true
      · subst c8
        have H1 : (some true) = some r := by rw [if_pos rfl] at H; exact H
        clear H
        have H := H1
        clear H1
        obtain rfl := Option.some.inj H
        go_enter Try.func16, Try.ntmps16
        go_wp2_with (first | ((with_reducible refine gate_dst (N := 2) rfl ?_); refine box_event ?hg (N := 2) ?hd (cs := #[.slice A0_0 l0_0.length c0_0, .slice A0_1 l0_1.length c0_1, .slice A0_2 l0_2.length c0_2]) (t := 32) ?hr ?_; (case hd => rfl); (case hg => rfl); (case hr => first | (go_simp; done) | (go_simp; rfl)); intro gb261 hg w9 hbox hb; have BK261 := Aside0.mk (hbox); have GW261 := Aside0.mk ((by rw [hg]; exact (below_size (Bp HB)) : w.heap.size ≤ gb261)); have GE261 := Aside0.mk ((by rw [hg]; exact (below_size (Bp HB)) : w.heap.size ≤ gb261)); replace HB := Bs HB hb; clear hb hbox hg) | ((with_reducible refine gate_dst (N := 3) rfl ?_); refine box_event ?hg (N := 3) ?hd (cs := #[.slice A1_0 l1_0.length c1_0, .slice A1_1 l1_1.length c1_1, .slice A1_2 l1_2.length c1_2]) (t := 32) ?hr ?_; (case hd => rfl); (case hg => rfl); (case hr => first | (go_simp; done) | (go_simp; rfl)); intro gb262 hg w10 hbox hb; have BK262 := Aside0.mk (hbox); have GW262 := Aside0.mk ((by rw [hg]; exact (below_size (Bp HB)) : w.heap.size ≤ gb262)); have GE262 := Aside0.mk ((by rw [hg]; exact (below_size (Bp HB)) : w.heap.size ≤ gb262)); replace HB := Bs HB hb; have NB261_262 := Aside0.mk ((by rw [hg]; exact Nat.ne_of_lt (blk_lt (Kp BK261)) : gb261 ≠ gb262)); have NB262_261 := Aside0.mk ((by rw [hg]; exact Nat.ne_of_gt (blk_lt (Kp BK261)) : gb262 ≠ gb261)); replace BK261 := Kb BK261 hb; clear hb hbox hg; have hnb11 := NB261_262.out; have hnc11 := NB262_261.out; obtain ⟨hcz12_0, hcz12_1, hcz12_2⟩ := bc3 (W := w10) BK261.out; obtain ⟨hfz12_0, hfz12_1, hfz12_2⟩ := bf3 BK261.out; obtain ⟨hcz13_0, hcz13_1, hcz13_2⟩ := bc3 (W := w10) BK262.out; obtain ⟨hfz13_0, hfz13_1, hfz13_2⟩ := bf3 BK262.out) | ((with_reducible refine gate_callee (f := 59) rfl ?_); refine goesL_ (some 9) rfl rfl Try.func59 (by kernel_rfl) rfl #[.slice A0_0 l0_0.length c0_0, .slice A1_0 l1_0.length c1_0] rfl (by (try simp only [List.map_toArray, List.map_cons, List.map_nil]); first | done | rfl | (simp only [List.length_drop, List.length_take]; rfl)) ?_; (with_reducible refine (laws_eqStringS.calls k _ _ l0_0 _ _ l1_0 true _ ?side1 ?side2 ?side3 ?side4 A3.out).mono ?_); (case side1 => exact Cb HR0_0 HB); (case side2 => exact HC0_0.out); (case side3 => exact Cb HR1_0 HB); (case side4 => exact HC1_0.out); rintro e w' ⟨rfl, ⟨nd, rfl⟩⟩; refine ⟨_, rfl, ?_⟩) | ((with_reducible refine gate_callee (f := 60) rfl ?_); refine goesL_ (some 15) rfl rfl Try.func60 (by kernel_rfl) rfl #[.slice A0_1 l0_1.length c0_1, .slice A1_1 l1_1.length c1_1] rfl (by (try simp only [List.map_toArray, List.map_cons, List.map_nil]); first | done | rfl | (simp only [List.length_drop, List.length_take]; rfl)) ?_; (with_reducible refine (laws_eqTreeFunS.calls k _ _ l0_1 _ _ l1_1 true _ ?side1 ?side2 ?side3 ?side4 A5.out).mono ?_); (case side1 => repeat (first | exact (Kd.C_below HR0_1.out (Bp HB)) | (with_reducible refine Kd.C_alloc ?_ _) | (with_reducible refine Kd.C_drewN ?_ _) | (with_reducible refine Kd.C_drew ?_))); (case side2 => exact HC0_1.out); (case side3 => repeat (first | exact (Kd.C_below HR1_1.out (Bp HB)) | (with_reducible refine Kd.C_alloc ?_ _) | (with_reducible refine Kd.C_drewN ?_ _) | (with_reducible refine Kd.C_drew ?_))); (case side4 => exact HC1_1.out); rintro e w14 ⟨rfl, hb⟩; refine ⟨_, rfl, ?_⟩; replace BK261 := Kb BK261 hb; replace BK262 := Kb BK262 hb; replace HB := Bs HB hb; (try clear hb); (try clear hb2); (try clear hk); (try clear hi); obtain ⟨hcz15_0, hcz15_1, hcz15_2⟩ := bc3 (W := w14) BK261.out; obtain ⟨hfz15_0, hfz15_1, hfz15_2⟩ := bf3 BK261.out; obtain ⟨hcz16_0, hcz16_1, hcz16_2⟩ := bc3 (W := w14) BK262.out; obtain ⟨hfz16_0, hfz16_1, hfz16_2⟩ := bf3 BK262.out) | ((with_reducible refine gate_callee (f := 61) rfl ?_); refine goesL_ (some 21) rfl rfl Try.func61 (by kernel_rfl) rfl #[.slice A0_2 l0_2.length c0_2, .slice A1_2 l1_2.length c1_2] rfl (by (try simp only [List.map_toArray, List.map_cons, List.map_nil]); first | done | rfl | (simp only [List.length_drop, List.length_take]; rfl)) ?_; (with_reducible refine (laws_eqTreeExprS.calls k _ _ l0_2 _ _ l1_2 true _ ?side1 ?side2 ?side3 ?side4 A7.out).mono ?_); (case side1 => exact Cb HR0_2 HB); (case side2 => exact HC0_2.out); (case side3 => exact Cb HR1_2 HB); (case side4 => exact HC1_2.out); rintro e w17 ⟨rfl, hb⟩; refine ⟨_, rfl, ?_⟩; replace BK261 := Kb BK261 hb; replace BK262 := Kb BK262 hb; replace HB := Bs HB hb; (try clear hb); (try clear hb2); (try clear hk); (try clear hi)))
        go_ret
        exact ⟨by first | rfl | (simp [errW_none, errW_some] <;> rfl) | (simp [*, errW_none, errW_some] <;> rfl), Bp HB⟩
      · replace c8 := Bool.eq_false_iff.mpr c8
        subst c8
        have H1 : (some false) = some r := by rw [if_neg (show ¬ (false = true) by decide)] at H; exact H
        clear H
        have H := H1
        clear H1
        obtain rfl := Option.some.inj H
        go_enter Try.func16, Try.ntmps16
        go_wp2_with (first | ((with_reducible refine gate_dst (N := 2) rfl ?_); refine box_event ?hg (N := 2) ?hd (cs := #[.slice A0_0 l0_0.length c0_0, .slice A0_1 l0_1.length c0_1, .slice A0_2 l0_2.length c0_2]) (t := 32) ?hr ?_; (case hd => rfl); (case hg => rfl); (case hr => first | (go_simp; done) | (go_simp; rfl)); intro gb261 hg w18 hbox hb; have BK261 := Aside0.mk (hbox); have GW261 := Aside0.mk ((by rw [hg]; exact (below_size (Bp HB)) : w.heap.size ≤ gb261)); have GE261 := Aside0.mk ((by rw [hg]; exact (below_size (Bp HB)) : w.heap.size ≤ gb261)); replace HB := Bs HB hb; clear hb hbox hg) | ((with_reducible refine gate_dst (N := 3) rfl ?_); refine box_event ?hg (N := 3) ?hd (cs := #[.slice A1_0 l1_0.length c1_0, .slice A1_1 l1_1.length c1_1, .slice A1_2 l1_2.length c1_2]) (t := 32) ?hr ?_; (case hd => rfl); (case hg => rfl); (case hr => first | (go_simp; done) | (go_simp; rfl)); intro gb262 hg w19 hbox hb; have BK262 := Aside0.mk (hbox); have GW262 := Aside0.mk ((by rw [hg]; exact (below_size (Bp HB)) : w.heap.size ≤ gb262)); have GE262 := Aside0.mk ((by rw [hg]; exact (below_size (Bp HB)) : w.heap.size ≤ gb262)); replace HB := Bs HB hb; have NB261_262 := Aside0.mk ((by rw [hg]; exact Nat.ne_of_lt (blk_lt (Kp BK261)) : gb261 ≠ gb262)); have NB262_261 := Aside0.mk ((by rw [hg]; exact Nat.ne_of_gt (blk_lt (Kp BK261)) : gb262 ≠ gb261)); replace BK261 := Kb BK261 hb; clear hb hbox hg; have hnb20 := NB261_262.out; have hnc20 := NB262_261.out; obtain ⟨hcz21_0, hcz21_1, hcz21_2⟩ := bc3 (W := w19) BK261.out; obtain ⟨hfz21_0, hfz21_1, hfz21_2⟩ := bf3 BK261.out; obtain ⟨hcz22_0, hcz22_1, hcz22_2⟩ := bc3 (W := w19) BK262.out; obtain ⟨hfz22_0, hfz22_1, hfz22_2⟩ := bf3 BK262.out) | ((with_reducible refine gate_callee (f := 59) rfl ?_); refine goesL_ (some 9) rfl rfl Try.func59 (by kernel_rfl) rfl #[.slice A0_0 l0_0.length c0_0, .slice A1_0 l1_0.length c1_0] rfl (by (try simp only [List.map_toArray, List.map_cons, List.map_nil]); first | done | rfl | (simp only [List.length_drop, List.length_take]; rfl)) ?_; (with_reducible refine (laws_eqStringS.calls k _ _ l0_0 _ _ l1_0 true _ ?side1 ?side2 ?side3 ?side4 A3.out).mono ?_); (case side1 => exact Cb HR0_0 HB); (case side2 => exact HC0_0.out); (case side3 => exact Cb HR1_0 HB); (case side4 => exact HC1_0.out); rintro e w' ⟨rfl, ⟨nd, rfl⟩⟩; refine ⟨_, rfl, ?_⟩) | ((with_reducible refine gate_callee (f := 60) rfl ?_); refine goesL_ (some 15) rfl rfl Try.func60 (by kernel_rfl) rfl #[.slice A0_1 l0_1.length c0_1, .slice A1_1 l1_1.length c1_1] rfl (by (try simp only [List.map_toArray, List.map_cons, List.map_nil]); first | done | rfl | (simp only [List.length_drop, List.length_take]; rfl)) ?_; (with_reducible refine (laws_eqTreeFunS.calls k _ _ l0_1 _ _ l1_1 true _ ?side1 ?side2 ?side3 ?side4 A5.out).mono ?_); (case side1 => repeat (first | exact (Kd.C_below HR0_1.out (Bp HB)) | (with_reducible refine Kd.C_alloc ?_ _) | (with_reducible refine Kd.C_drewN ?_ _) | (with_reducible refine Kd.C_drew ?_))); (case side2 => exact HC0_1.out); (case side3 => repeat (first | exact (Kd.C_below HR1_1.out (Bp HB)) | (with_reducible refine Kd.C_alloc ?_ _) | (with_reducible refine Kd.C_drewN ?_ _) | (with_reducible refine Kd.C_drew ?_))); (case side4 => exact HC1_1.out); rintro e w23 ⟨rfl, hb⟩; refine ⟨_, rfl, ?_⟩; replace BK261 := Kb BK261 hb; replace BK262 := Kb BK262 hb; replace HB := Bs HB hb; (try clear hb); (try clear hb2); (try clear hk); (try clear hi); obtain ⟨hcz24_0, hcz24_1, hcz24_2⟩ := bc3 (W := w23) BK261.out; obtain ⟨hfz24_0, hfz24_1, hfz24_2⟩ := bf3 BK261.out; obtain ⟨hcz25_0, hcz25_1, hcz25_2⟩ := bc3 (W := w23) BK262.out; obtain ⟨hfz25_0, hfz25_1, hfz25_2⟩ := bf3 BK262.out) | ((with_reducible refine gate_callee (f := 61) rfl ?_); refine goesL_ (some 21) rfl rfl Try.func61 (by kernel_rfl) rfl #[.slice A0_2 l0_2.length c0_2, .slice A1_2 l1_2.length c1_2] rfl (by (try simp only [List.map_toArray, List.map_cons, List.map_nil]); first | done | rfl | (simp only [List.length_drop, List.length_take]; rfl)) ?_; (with_reducible refine (laws_eqTreeExprS.calls k _ _ l0_2 _ _ l1_2 false _ ?side1 ?side2 ?side3 ?side4 A7.out).mono ?_); (case side1 => exact Cb HR0_2 HB); (case side2 => exact HC0_2.out); (case side3 => exact Cb HR1_2 HB); (case side4 => exact HC1_2.out); rintro e w26 ⟨rfl, hb⟩; refine ⟨_, rfl, ?_⟩; replace BK261 := Kb BK261 hb; replace BK262 := Kb BK262 hb; replace HB := Bs HB hb; (try clear hb); (try clear hb2); (try clear hk); (try clear hi)))
        go_ret
        exact ⟨by first | rfl | (simp [errW_none, errW_some] <;> rfl) | (simp [*, errW_none, errW_some] <;> rfl), Bp HB⟩
    · replace c6 := Bool.eq_false_iff.mpr c6
      subst c6
      have H1 : (some false) = some r := by rw [if_neg (show ¬ (false = true) by decide)] at H; exact H
      clear H
      have H := H1
      clear H1
      obtain rfl := Option.some.inj H
      go_enter Try.func16, Try.ntmps16
      go_wp2_with (first | ((with_reducible refine gate_dst (N := 2) rfl ?_); refine box_event ?hg (N := 2) ?hd (cs := #[.slice A0_0 l0_0.length c0_0, .slice A0_1 l0_1.length c0_1, .slice A0_2 l0_2.length c0_2]) (t := 32) ?hr ?_; (case hd => rfl); (case hg => rfl); (case hr => first | (go_simp; done) | (go_simp; rfl)); intro gb261 hg w27 hbox hb; have BK261 := Aside0.mk (hbox); have GW261 := Aside0.mk ((by rw [hg]; exact (below_size (Bp HB)) : w.heap.size ≤ gb261)); have GE261 := Aside0.mk ((by rw [hg]; exact (below_size (Bp HB)) : w.heap.size ≤ gb261)); replace HB := Bs HB hb; clear hb hbox hg) | ((with_reducible refine gate_dst (N := 3) rfl ?_); refine box_event ?hg (N := 3) ?hd (cs := #[.slice A1_0 l1_0.length c1_0, .slice A1_1 l1_1.length c1_1, .slice A1_2 l1_2.length c1_2]) (t := 32) ?hr ?_; (case hd => rfl); (case hg => rfl); (case hr => first | (go_simp; done) | (go_simp; rfl)); intro gb262 hg w28 hbox hb; have BK262 := Aside0.mk (hbox); have GW262 := Aside0.mk ((by rw [hg]; exact (below_size (Bp HB)) : w.heap.size ≤ gb262)); have GE262 := Aside0.mk ((by rw [hg]; exact (below_size (Bp HB)) : w.heap.size ≤ gb262)); replace HB := Bs HB hb; have NB261_262 := Aside0.mk ((by rw [hg]; exact Nat.ne_of_lt (blk_lt (Kp BK261)) : gb261 ≠ gb262)); have NB262_261 := Aside0.mk ((by rw [hg]; exact Nat.ne_of_gt (blk_lt (Kp BK261)) : gb262 ≠ gb261)); replace BK261 := Kb BK261 hb; clear hb hbox hg; have hnb29 := NB261_262.out; have hnc29 := NB262_261.out; obtain ⟨hcz30_0, hcz30_1, hcz30_2⟩ := bc3 (W := w28) BK261.out; obtain ⟨hfz30_0, hfz30_1, hfz30_2⟩ := bf3 BK261.out; obtain ⟨hcz31_0, hcz31_1, hcz31_2⟩ := bc3 (W := w28) BK262.out; obtain ⟨hfz31_0, hfz31_1, hfz31_2⟩ := bf3 BK262.out) | ((with_reducible refine gate_callee (f := 59) rfl ?_); refine goesL_ (some 9) rfl rfl Try.func59 (by kernel_rfl) rfl #[.slice A0_0 l0_0.length c0_0, .slice A1_0 l1_0.length c1_0] rfl (by (try simp only [List.map_toArray, List.map_cons, List.map_nil]); first | done | rfl | (simp only [List.length_drop, List.length_take]; rfl)) ?_; (with_reducible refine (laws_eqStringS.calls k _ _ l0_0 _ _ l1_0 true _ ?side1 ?side2 ?side3 ?side4 A3.out).mono ?_); (case side1 => exact Cb HR0_0 HB); (case side2 => exact HC0_0.out); (case side3 => exact Cb HR1_0 HB); (case side4 => exact HC1_0.out); rintro e w' ⟨rfl, ⟨nd, rfl⟩⟩; refine ⟨_, rfl, ?_⟩) | ((with_reducible refine gate_callee (f := 60) rfl ?_); refine goesL_ (some 15) rfl rfl Try.func60 (by kernel_rfl) rfl #[.slice A0_1 l0_1.length c0_1, .slice A1_1 l1_1.length c1_1] rfl (by (try simp only [List.map_toArray, List.map_cons, List.map_nil]); first | done | rfl | (simp only [List.length_drop, List.length_take]; rfl)) ?_; (with_reducible refine (laws_eqTreeFunS.calls k _ _ l0_1 _ _ l1_1 false _ ?side1 ?side2 ?side3 ?side4 A5.out).mono ?_); (case side1 => repeat (first | exact (Kd.C_below HR0_1.out (Bp HB)) | (with_reducible refine Kd.C_alloc ?_ _) | (with_reducible refine Kd.C_drewN ?_ _) | (with_reducible refine Kd.C_drew ?_))); (case side2 => exact HC0_1.out); (case side3 => repeat (first | exact (Kd.C_below HR1_1.out (Bp HB)) | (with_reducible refine Kd.C_alloc ?_ _) | (with_reducible refine Kd.C_drewN ?_ _) | (with_reducible refine Kd.C_drew ?_))); (case side4 => exact HC1_1.out); rintro e w32 ⟨rfl, hb⟩; refine ⟨_, rfl, ?_⟩; replace BK261 := Kb BK261 hb; replace BK262 := Kb BK262 hb; replace HB := Bs HB hb; (try clear hb); (try clear hb2); (try clear hk); (try clear hi)))
      go_ret
      exact ⟨by first | rfl | (simp [errW_none, errW_some] <;> rfl) | (simp [*, errW_none, errW_some] <;> rfl), Bp HB⟩
  · replace c4 := Bool.eq_false_iff.mpr c4
    subst c4
    have H1 : (some false) = some r := by rw [if_neg (show ¬ (false = true) by decide)] at H; exact H
    clear H
    have H := H1
    clear H1
    obtain rfl := Option.some.inj H
    go_enter Try.func16, Try.ntmps16
    go_wp2_with (first | ((with_reducible refine gate_dst (N := 2) rfl ?_); refine box_event ?hg (N := 2) ?hd (cs := #[.slice A0_0 l0_0.length c0_0, .slice A0_1 l0_1.length c0_1, .slice A0_2 l0_2.length c0_2]) (t := 32) ?hr ?_; (case hd => rfl); (case hg => rfl); (case hr => first | (go_simp; done) | (go_simp; rfl)); intro gb261 hg w33 hbox hb; have BK261 := Aside0.mk (hbox); have GW261 := Aside0.mk ((by rw [hg]; exact (below_size (Bp HB)) : w.heap.size ≤ gb261)); have GE261 := Aside0.mk ((by rw [hg]; exact (below_size (Bp HB)) : w.heap.size ≤ gb261)); replace HB := Bs HB hb; clear hb hbox hg) | ((with_reducible refine gate_dst (N := 3) rfl ?_); refine box_event ?hg (N := 3) ?hd (cs := #[.slice A1_0 l1_0.length c1_0, .slice A1_1 l1_1.length c1_1, .slice A1_2 l1_2.length c1_2]) (t := 32) ?hr ?_; (case hd => rfl); (case hg => rfl); (case hr => first | (go_simp; done) | (go_simp; rfl)); intro gb262 hg w34 hbox hb; have BK262 := Aside0.mk (hbox); have GW262 := Aside0.mk ((by rw [hg]; exact (below_size (Bp HB)) : w.heap.size ≤ gb262)); have GE262 := Aside0.mk ((by rw [hg]; exact (below_size (Bp HB)) : w.heap.size ≤ gb262)); replace HB := Bs HB hb; have NB261_262 := Aside0.mk ((by rw [hg]; exact Nat.ne_of_lt (blk_lt (Kp BK261)) : gb261 ≠ gb262)); have NB262_261 := Aside0.mk ((by rw [hg]; exact Nat.ne_of_gt (blk_lt (Kp BK261)) : gb262 ≠ gb261)); replace BK261 := Kb BK261 hb; clear hb hbox hg; have hnb35 := NB261_262.out; have hnc35 := NB262_261.out; obtain ⟨hcz36_0, hcz36_1, hcz36_2⟩ := bc3 (W := w34) BK261.out; obtain ⟨hfz36_0, hfz36_1, hfz36_2⟩ := bf3 BK261.out; obtain ⟨hcz37_0, hcz37_1, hcz37_2⟩ := bc3 (W := w34) BK262.out; obtain ⟨hfz37_0, hfz37_1, hfz37_2⟩ := bf3 BK262.out) | ((with_reducible refine gate_callee (f := 59) rfl ?_); refine goesL_ (some 9) rfl rfl Try.func59 (by kernel_rfl) rfl #[.slice A0_0 l0_0.length c0_0, .slice A1_0 l1_0.length c1_0] rfl (by (try simp only [List.map_toArray, List.map_cons, List.map_nil]); first | done | rfl | (simp only [List.length_drop, List.length_take]; rfl)) ?_; (with_reducible refine (laws_eqStringS.calls k _ _ l0_0 _ _ l1_0 false _ ?side1 ?side2 ?side3 ?side4 A3.out).mono ?_); (case side1 => exact Cb HR0_0 HB); (case side2 => exact HC0_0.out); (case side3 => exact Cb HR1_0 HB); (case side4 => exact HC1_0.out); rintro e w' ⟨rfl, ⟨nd, rfl⟩⟩; refine ⟨_, rfl, ?_⟩))
    go_ret
    exact ⟨by first | rfl | (simp [errW_none, errW_some] <;> rfl) | (simp [*, errW_none, errW_some] <;> rfl), Bp HB⟩

end Go.Proofs.Ythcinellhbmcoaa.Q
