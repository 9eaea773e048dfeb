-- written by xprint.py, a program of this session, out of the translation: Lean checks it
import Derived.Test.YthcinellhbmcoaaQTreeSamex0
import Derived.Test.YthcinellhbmcoaaQTreeSamex7
namespace Go.Proofs.Ythcinellhbmcoaa.Q
open Go.RowKit Go.Proofs.YthcinellhbmcoaaW.PrintWords Go.Proofs.YthcinellhbmcoaaW.PrintLast Go.Proofs.YthcinellhbmcoaaW.PrintMore
attribute [local go_sem] max2_int min2_int max_two min_two max_three min_three max_four min_four   -- for this text's walks alone
set_option linter.unusedVariables false
set_option linter.unusedSimpArgs false

/-! ### slices_EqualFunc_impl_TreeFun__impl_sameFun: function 55 -/
def slices_EqualFunc_impl_TreeFun__impl_sameFun.l0 : Nat → List (S45) → List (S45) → Int → Int → Option (Bool)
  | 0, _, _, _, _ => none
  | k + 1, x1, x15, x16, x17 => if x17 < x16 then (if 0 ≤ x17 then (if x17 < (x15.length : Int) then (if x17 < (x1.length : Int) then ((impl_sameFun.f k ((rd_T45 x15 x17).f0) ((rd_T45 x15 x17).f1) ((rd_T45 x15 x17).f2) ((rd_T45 x15 x17).f3) ((rd_T45 x15 x17).f4.f0) ((rd_T45 x15 x17).f4.f1) ((rd_T45 x15 x17).f4.f2) ((rd_T45 x15 x17).f4.f3) ((rd_T45 x15 x17).f4.f4) ((rd_T45 x1 x17).f0) ((rd_T45 x1 x17).f1) ((rd_T45 x1 x17).f2) ((rd_T45 x1 x17).f3) ((rd_T45 x1 x17).f4.f0) ((rd_T45 x1 x17).f4.f1) ((rd_T45 x1 x17).f4.f2) ((rd_T45 x1 x17).f4.f3) ((rd_T45 x1 x17).f4.f4)).bind fun t235 => (if t235 = true then (slices_EqualFunc_impl_TreeFun__impl_sameFun.l0 k x1 x15 x16 (wrap64 (x17 + 1))) else (some false))) else (none)) else (none)) else (none)) else (some true)
def slices_EqualFunc_impl_TreeFun__impl_sameFun.f (k : Nat) (l0 : List (S45)) (l1 : List (S45))  : Option (Bool) := if (l0.length : Int) = (l1.length : Int) then (slices_EqualFunc_impl_TreeFun__impl_sameFun.l0 k l1 l0 (l0.length : Int) 0) else (some false)
theorem slices_EqualFunc_impl_TreeFun__impl_sameFun.mono_l : ∀ k, (∀ y0 y1 y2 y3, LeO (slices_EqualFunc_impl_TreeFun__impl_sameFun.l0 k y0 y1 y2 y3) (slices_EqualFunc_impl_TreeFun__impl_sameFun.l0 (k + 1) y0 y1 y2 y3))
  | 0 => fun _ _ _ _ r h => by simp [slices_EqualFunc_impl_TreeFun__impl_sameFun.l0] at h
  | k + 1 => by
    have ih0 := slices_EqualFunc_impl_TreeFun__impl_sameFun.mono_l k
    · intro y0 y1 y2 y3
      unfold slices_EqualFunc_impl_TreeFun__impl_sameFun.l0
      repeat' first
      | (with_reducible exact ih0 _ _ _ _)
      | (with_reducible exact impl_sameFun.mono _ _ _ _ _ _ _ _ _ _ _ _ _ _ _ _ _ _ _)
      | (with_reducible exact LeO.refl _)
      | (with_reducible exact LeO.none _)
      | (with_reducible refine LeO.ite ?_ ?_)
      | (with_reducible refine LeO.bind ?_ (fun _ => ?_))
      | exact ih0 _ _ _ _
      | exact impl_sameFun.mono _ _ _ _ _ _ _ _ _ _ _ _ _ _ _ _ _ _ _
      | exact LeO.none _
      | refine LeO.ite ?_ ?_
      | refine LeO.bind ?_ (fun _ => ?_)
theorem slices_EqualFunc_impl_TreeFun__impl_sameFun.mono : ∀ a0 a1 k, LeO (slices_EqualFunc_impl_TreeFun__impl_sameFun.f k a0 a1) (slices_EqualFunc_impl_TreeFun__impl_sameFun.f (k + 1) a0 a1) := by
  intro a0 a1 k
  have ih0 := slices_EqualFunc_impl_TreeFun__impl_sameFun.mono_l k
  unfold slices_EqualFunc_impl_TreeFun__impl_sameFun.f
  repeat' first
      | (with_reducible exact ih0 _ _ _ _)
      | (with_reducible exact impl_sameFun.mono _ _ _ _ _ _ _ _ _ _ _ _ _ _ _ _ _ _ _)
      | (with_reducible exact LeO.refl _)
      | (with_reducible exact LeO.none _)
      | (with_reducible refine LeO.ite ?_ ?_)
      | (with_reducible refine LeO.bind ?_ (fun _ => ?_))
      | exact ih0 _ _ _ _
      | exact impl_sameFun.mono _ _ _ _ _ _ _ _ _ _ _ _ _ _ _ _ _ _ _
      | exact LeO.none _
      | refine LeO.ite ?_ ?_
      | refine LeO.bind ?_ (fun _ => ?_)
set_option maxHeartbeats 8000000 in
set_option maxRecDepth 100000 in
theorem slices_EqualFunc_impl_TreeFun__impl_sameFun.calls (k : Nat) (A0 : Option Addr) (c0 : Nat) (l0 : List (S45)) (A1 : Option Addr) (c1 : Nat) (l1 : List (S45))  (r : Bool) (w : World) (hr0 : Kd.C k45 w A0 l0.length l0) (hc0 : l0.length ≤ c0) (hr1 : Kd.C k45 w A1 l1.length l1) (hc1 : l1.length ≤ c1) (h : slices_EqualFunc_impl_TreeFun__impl_sameFun.f k l0 l1 = some r) :
    Calls Try.prog 55 #[.slice A0 l0.length c0, .slice A1 l1.length c1, (.func (.func 56) #[] #[])] w fun e w' => e = .returned (.bool r) ∧ Below w.heap.size w w' := by
  have hu45 := Try.underlying45
  have HR0 := Aside0.mk hr0
  have HC0 := Aside0.mk hc0
  clear hr0 hc0
  have HR1 := Aside0.mk hr1
  have HC1 := Aside0.mk hc1
  clear hr1 hc1
  have HB := Aside0.mk (Below.refl w.heap.size w)
  have H : (if (l0.length : Int) = (l1.length : Int) then (slices_EqualFunc_impl_TreeFun__impl_sameFun.l0 k l1 l0 (l0.length : Int) 0) else (some false)) = some r := h
  clear h
  by_cases c4 : (l0.length : Int) = (l1.length : Int)
  · rw [if_pos c4] at H
    have c4b0 : ((l0.length : Int) == (l1.length : Int)) = true := beq_iff_eq.mpr c4
    have c4b1 : ((l0.length : Int) != (l1.length : Int)) = false := bne_eq_false_iff_eq.mpr c4
    have c4b2 : (l0.length == l1.length) = true := by first | simpa using c4 | (simp at c4 ⊢; omega)
    clear c4
    have H' := Aside0.mk H
    clear H
    go_enter Try.func55, Try.ntmps55
    go_wp2
    go_loopg [17] k (fun kq v17 w' => ∃ (x17_1 : Int), v17 = .int .i64 x17_1 ∧ Aside0 (slices_EqualFunc_impl_TreeFun__impl_sameFun.l0 kq l1 l0 (l0.length : Int) x17_1 = some r) ∧ Aside0 (kq ≤ k) ∧ Aside0 (Below w.heap.size w w'))
    case atStart => exact ⟨(0), (by first | rfl | (simp; done) | (simp [*]; done)), H', ⟨Nat.le_refl _⟩, ⟨Bp HB⟩⟩
    case round =>
      clear H'
      try clear c1
      try clear p2
      try clear c4
      try clear c4b0
      try clear c4b1
      try clear c4b2
      obtain ⟨x17_1, rfl, HA, HK1, HB⟩ := hrel
      cases gk with
      | zero => exact absurd HA.out (by simp [slices_EqualFunc_impl_TreeFun__impl_sameFun.l0])
      | succ k1 =>
        have H := HA.out
        clear HA
        simp only [slices_EqualFunc_impl_TreeFun__impl_sameFun.l0] at H
        by_cases c5 : x17_1 < (l0.length : Int)
        · rw [if_pos c5] at H
          have c5b0 : decide (x17_1 < (l0.length : Int)) = true := decide_eq_true c5
          clear c5
          by_cases c6 : 0 ≤ x17_1
          · rw [if_pos c6] at H
            have c6b0 : decide (0 ≤ x17_1) = true := decide_eq_true c6
            clear c6
            by_cases c7 : x17_1 < (l0.length : Int)
            · rw [if_pos c7] at H
              have c7b0 : decide (x17_1 < (l0.length : Int)) = true := decide_eq_true c7
              clear c7
              by_cases c8 : x17_1 < (l1.length : Int)
              · rw [if_pos c8] at H
                have c8b0 : decide (x17_1 < (l1.length : Int)) = true := decide_eq_true c8
                clear c8
                replace H := Option.bind_eq_some_iff.mp H
                obtain ⟨t235, A90, H⟩ := H
                replace H : (if t235 = true then (slices_EqualFunc_impl_TreeFun__impl_sameFun.l0 k1 l1 l0 (l0.length : Int) (wrap64 (x17_1 + 1))) else (some false)) = some r := H
                have A9 := Aside0.mk A90
                clear A90
                by_cases c10 : t235 = true
                · subst c10
                  have H1 : (slices_EqualFunc_impl_TreeFun__impl_sameFun.l0 k1 l1 l0 (l0.length : Int) (wrap64 (x17_1 + 1))) = some r := by rw [if_pos rfl] at H; exact H
                  clear H
                  have H := H1
                  clear H1
                  have H' := Aside0.mk H
                  clear H
                  have p231 : 0 ≤ (x17_1 : Int) := of_decide_eq_true (by first | (with_reducible assumption) | assumption)
                  have q231 : x17_1 < (l0.length : Int) := of_decide_eq_true (by first | (with_reducible assumption) | assumption)
                  obtain ⟨ad231, A231_2, c231_2, A231_8, c231_8, e231, hx231_0, hx231_1, hx231_2, hx231_3, hx231_4, hx231_5, hx231_6, hx231_7, hx231_8, hl231_2, hi231_2, hl231_8, hi231_8⟩ := at_T45 HR0.out x17_1 p231 q231
                  cases e231
                  replace hx231_0 := (HB.out.cell (World.block_lt_of_cell? w _ hx231_0)).trans hx231_0
                  replace hx231_1 := (HB.out.cell (World.block_lt_of_cell? w _ hx231_1)).trans hx231_1
                  replace hx231_2 := (HB.out.cell (World.block_lt_of_cell? w _ hx231_2)).trans hx231_2
                  replace hx231_3 := (HB.out.cell (World.block_lt_of_cell? w _ hx231_3)).trans hx231_3
                  replace hx231_4 := (HB.out.cell (World.block_lt_of_cell? w _ hx231_4)).trans hx231_4
                  replace hx231_5 := (HB.out.cell (World.block_lt_of_cell? w _ hx231_5)).trans hx231_5
                  replace hx231_6 := (HB.out.cell (World.block_lt_of_cell? w _ hx231_6)).trans hx231_6
                  replace hx231_7 := (HB.out.cell (World.block_lt_of_cell? w _ hx231_7)).trans hx231_7
                  replace hx231_8 := (HB.out.cell (World.block_lt_of_cell? w _ hx231_8)).trans hx231_8
                  have HR231_2 := Aside0.mk hi231_2
                  have HC231_2 := Aside0.mk hl231_2
                  clear hi231_2 hl231_2
                  have HR231_8 := Aside0.mk hi231_8
                  have HC231_8 := Aside0.mk hl231_8
                  clear hi231_8 hl231_8
                  replace p231 := eq_true p231
                  replace q231 := eq_true q231
                  go_wp2_with (first | ((with_reducible refine gate_dst (N := 8) rfl ?_); refine box_event ?hg (N := 8) ?hd (cs := #[.string (⟨#[]⟩ : ByteArray), .bool false, .slice none 0 0, .int .i64 0, .int .i64 0, .int .i64 0, .string (⟨#[]⟩ : ByteArray), .string (⟨#[]⟩ : ByteArray), .slice none 0 0]) (t := 45) ?hr ?_; (case hd => rfl); (case hg => rfl); (case hr => first | (go_simp; done) | (go_simp; rfl)); intro gb232 hg w11 hbox hb; have BK232 := Aside0.mk (hbox); have GW232 := Aside0.mk ((by rw [hg]; exact (below_size (Bp HB)) : w.heap.size ≤ gb232)); have GE232 := Aside0.mk ((by rw [hg]; exact (below_size (Bp HB)) : w.heap.size ≤ gb232)); replace HB := Bs HB hb; clear hb hbox hg; obtain ⟨hcz12_0, hcz12_1, hcz12_2, hcz12_3, hcz12_4, hcz12_5, hcz12_6, hcz12_7, hcz12_8⟩ := bc9 (W := w11) BK232.out; obtain ⟨hfz12_0, hfz12_1, hfz12_2, hfz12_3, hfz12_4, hfz12_5, hfz12_6, hfz12_7, hfz12_8⟩ := bf9 BK232.out; have p233 : 0 ≤ (x17_1 : Int) := of_decide_eq_true (by first | (with_reducible assumption) | assumption); have q233 : x17_1 < (l1.length : Int) := of_decide_eq_true (by first | (with_reducible assumption) | assumption); obtain ⟨ad233, A233_2, c233_2, A233_8, c233_8, e233, hx233_0, hx233_1, hx233_2, hx233_3, hx233_4, hx233_5, hx233_6, hx233_7, hx233_8, hl233_2, hi233_2, hl233_8, hi233_8⟩ := at_T45 HR1.out x17_1 p233 q233; cases e233; have hn233_0 : ad233.block ≠ gb232 := Nat.ne_of_lt (Nat.lt_of_lt_of_le (by have := World.block_lt_of_cell? _ _ hx233_0; first | rwa [add_block] at this | exact this) GW232.out); have hn233_1 : ad233.block ≠ gb232 := Nat.ne_of_lt (Nat.lt_of_lt_of_le (by have := World.block_lt_of_cell? _ _ hx233_0; first | rwa [add_block] at this | exact this) GW232.out); have hn233_2 : ad233.block ≠ gb232 := Nat.ne_of_lt (Nat.lt_of_lt_of_le (by have := World.block_lt_of_cell? _ _ hx233_0; first | rwa [add_block] at this | exact this) GW232.out); have hn233_3 : ad233.block ≠ gb232 := Nat.ne_of_lt (Nat.lt_of_lt_of_le (by have := World.block_lt_of_cell? _ _ hx233_0; first | rwa [add_block] at this | exact this) GW232.out); have hn233_4 : ad233.block ≠ gb232 := Nat.ne_of_lt (Nat.lt_of_lt_of_le (by have := World.block_lt_of_cell? _ _ hx233_0; first | rwa [add_block] at this | exact this) GW232.out); have hn233_5 : ad233.block ≠ gb232 := Nat.ne_of_lt (Nat.lt_of_lt_of_le (by have := World.block_lt_of_cell? _ _ hx233_0; first | rwa [add_block] at this | exact this) GW232.out); have hn233_6 : ad233.block ≠ gb232 := Nat.ne_of_lt (Nat.lt_of_lt_of_le (by have := World.block_lt_of_cell? _ _ hx233_0; first | rwa [add_block] at this | exact this) GW232.out); have hn233_7 : ad233.block ≠ gb232 := Nat.ne_of_lt (Nat.lt_of_lt_of_le (by have := World.block_lt_of_cell? _ _ hx233_0; first | rwa [add_block] at this | exact this) GW232.out); have hn233_8 : ad233.block ≠ gb232 := Nat.ne_of_lt (Nat.lt_of_lt_of_le (by have := World.block_lt_of_cell? _ _ hx233_0; first | rwa [add_block] at this | exact this) GW232.out); replace hx233_0 := (HB.out.cell (World.block_lt_of_cell? w _ hx233_0)).trans hx233_0; replace hx233_1 := (HB.out.cell (World.block_lt_of_cell? w _ hx233_1)).trans hx233_1; replace hx233_2 := (HB.out.cell (World.block_lt_of_cell? w _ hx233_2)).trans hx233_2; replace hx233_3 := (HB.out.cell (World.block_lt_of_cell? w _ hx233_3)).trans hx233_3; replace hx233_4 := (HB.out.cell (World.block_lt_of_cell? w _ hx233_4)).trans hx233_4; replace hx233_5 := (HB.out.cell (World.block_lt_of_cell? w _ hx233_5)).trans hx233_5; replace hx233_6 := (HB.out.cell (World.block_lt_of_cell? w _ hx233_6)).trans hx233_6; replace hx233_7 := (HB.out.cell (World.block_lt_of_cell? w _ hx233_7)).trans hx233_7; replace hx233_8 := (HB.out.cell (World.block_lt_of_cell? w _ hx233_8)).trans hx233_8; have HR233_2 := Aside0.mk hi233_2; have HC233_2 := Aside0.mk hl233_2; clear hi233_2 hl233_2; have HR233_8 := Aside0.mk hi233_8; have HC233_8 := Aside0.mk hl233_8; clear hi233_8 hl233_8; replace hx233_0 := (cell_far (p := ⟨gb232, 0, none⟩) (by first | (rw [add_block]; exact hn233_0) | (show (Addr.add _ _).block ≠ _; rw [add_block]; exact hn233_0) | exact hn233_0) (.string ((rd_T45 l0 x17_1).f0))).trans hx233_0; replace hx233_1 := (cell_far (p := ⟨gb232, 0, none⟩) (by first | (rw [add_block]; exact hn233_0) | (show (Addr.add _ _).block ≠ _; rw [add_block]; exact hn233_0) | exact hn233_0) (.string ((rd_T45 l0 x17_1).f0))).trans hx233_1; replace hx233_2 := (cell_far (p := ⟨gb232, 0, none⟩) (by first | (rw [add_block]; exact hn233_0) | (show (Addr.add _ _).block ≠ _; rw [add_block]; exact hn233_0) | exact hn233_0) (.string ((rd_T45 l0 x17_1).f0))).trans hx233_2; replace hx233_3 := (cell_far (p := ⟨gb232, 0, none⟩) (by first | (rw [add_block]; exact hn233_0) | (show (Addr.add _ _).block ≠ _; rw [add_block]; exact hn233_0) | exact hn233_0) (.string ((rd_T45 l0 x17_1).f0))).trans hx233_3; replace hx233_4 := (cell_far (p := ⟨gb232, 0, none⟩) (by first | (rw [add_block]; exact hn233_0) | (show (Addr.add _ _).block ≠ _; rw [add_block]; exact hn233_0) | exact hn233_0) (.string ((rd_T45 l0 x17_1).f0))).trans hx233_4; replace hx233_5 := (cell_far (p := ⟨gb232, 0, none⟩) (by first | (rw [add_block]; exact hn233_0) | (show (Addr.add _ _).block ≠ _; rw [add_block]; exact hn233_0) | exact hn233_0) (.string ((rd_T45 l0 x17_1).f0))).trans hx233_5; replace hx233_6 := (cell_far (p := ⟨gb232, 0, none⟩) (by first | (rw [add_block]; exact hn233_0) | (show (Addr.add _ _).block ≠ _; rw [add_block]; exact hn233_0) | exact hn233_0) (.string ((rd_T45 l0 x17_1).f0))).trans hx233_6; replace hx233_7 := (cell_far (p := ⟨gb232, 0, none⟩) (by first | (rw [add_block]; exact hn233_0) | (show (Addr.add _ _).block ≠ _; rw [add_block]; exact hn233_0) | exact hn233_0) (.string ((rd_T45 l0 x17_1).f0))).trans hx233_7; replace hx233_8 := (cell_far (p := ⟨gb232, 0, none⟩) (by first | (rw [add_block]; exact hn233_0) | (show (Addr.add _ _).block ≠ _; rw [add_block]; exact hn233_0) | exact hn233_0) (.string ((rd_T45 l0 x17_1).f0))).trans hx233_8; replace hx233_0 := (cell_far (p := ⟨gb232, 1, none⟩) (by first | (rw [add_block]; exact hn233_1) | (show (Addr.add _ _).block ≠ _; rw [add_block]; exact hn233_1) | exact hn233_1) (.bool ((rd_T45 l0 x17_1).f1))).trans hx233_0; replace hx233_1 := (cell_far (p := ⟨gb232, 1, none⟩) (by first | (rw [add_block]; exact hn233_1) | (show (Addr.add _ _).block ≠ _; rw [add_block]; exact hn233_1) | exact hn233_1) (.bool ((rd_T45 l0 x17_1).f1))).trans hx233_1; replace hx233_2 := (cell_far (p := ⟨gb232, 1, none⟩) (by first | (rw [add_block]; exact hn233_1) | (show (Addr.add _ _).block ≠ _; rw [add_block]; exact hn233_1) | exact hn233_1) (.bool ((rd_T45 l0 x17_1).f1))).trans hx233_2; replace hx233_3 := (cell_far (p := ⟨gb232, 1, none⟩) (by first | (rw [add_block]; exact hn233_1) | (show (Addr.add _ _).block ≠ _; rw [add_block]; exact hn233_1) | exact hn233_1) (.bool ((rd_T45 l0 x17_1).f1))).trans hx233_3; replace hx233_4 := (cell_far (p := ⟨gb232, 1, none⟩) (by first | (rw [add_block]; exact hn233_1) | (show (Addr.add _ _).block ≠ _; rw [add_block]; exact hn233_1) | exact hn233_1) (.bool ((rd_T45 l0 x17_1).f1))).trans hx233_4; replace hx233_5 := (cell_far (p := ⟨gb232, 1, none⟩) (by first | (rw [add_block]; exact hn233_1) | (show (Addr.add _ _).block ≠ _; rw [add_block]; exact hn233_1) | exact hn233_1) (.bool ((rd_T45 l0 x17_1).f1))).trans hx233_5; replace hx233_6 := (cell_far (p := ⟨gb232, 1, none⟩) (by first | (rw [add_block]; exact hn233_1) | (show (Addr.add _ _).block ≠ _; rw [add_block]; exact hn233_1) | exact hn233_1) (.bool ((rd_T45 l0 x17_1).f1))).trans hx233_6; replace hx233_7 := (cell_far (p := ⟨gb232, 1, none⟩) (by first | (rw [add_block]; exact hn233_1) | (show (Addr.add _ _).block ≠ _; rw [add_block]; exact hn233_1) | exact hn233_1) (.bool ((rd_T45 l0 x17_1).f1))).trans hx233_7; replace hx233_8 := (cell_far (p := ⟨gb232, 1, none⟩) (by first | (rw [add_block]; exact hn233_1) | (show (Addr.add _ _).block ≠ _; rw [add_block]; exact hn233_1) | exact hn233_1) (.bool ((rd_T45 l0 x17_1).f1))).trans hx233_8; replace hx233_0 := (cell_far (p := ⟨gb232, 2, none⟩) (by first | (rw [add_block]; exact hn233_2) | (show (Addr.add _ _).block ≠ _; rw [add_block]; exact hn233_2) | exact hn233_2) (.slice A231_2 ((rd_T45 l0 x17_1).f2).length c231_2)).trans hx233_0; replace hx233_1 := (cell_far (p := ⟨gb232, 2, none⟩) (by first | (rw [add_block]; exact hn233_2) | (show (Addr.add _ _).block ≠ _; rw [add_block]; exact hn233_2) | exact hn233_2) (.slice A231_2 ((rd_T45 l0 x17_1).f2).length c231_2)).trans hx233_1; replace hx233_2 := (cell_far (p := ⟨gb232, 2, none⟩) (by first | (rw [add_block]; exact hn233_2) | (show (Addr.add _ _).block ≠ _; rw [add_block]; exact hn233_2) | exact hn233_2) (.slice A231_2 ((rd_T45 l0 x17_1).f2).length c231_2)).trans hx233_2; replace hx233_3 := (cell_far (p := ⟨gb232, 2, none⟩) (by first | (rw [add_block]; exact hn233_2) | (show (Addr.add _ _).block ≠ _; rw [add_block]; exact hn233_2) | exact hn233_2) (.slice A231_2 ((rd_T45 l0 x17_1).f2).length c231_2)).trans hx233_3; replace hx233_4 := (cell_far (p := ⟨gb232, 2, none⟩) (by first | (rw [add_block]; exact hn233_2) | (show (Addr.add _ _).block ≠ _; rw [add_block]; exact hn233_2) | exact hn233_2) (.slice A231_2 ((rd_T45 l0 x17_1).f2).length c231_2)).trans hx233_4; replace hx233_5 := (cell_far (p := ⟨gb232, 2, none⟩) (by first | (rw [add_block]; exact hn233_2) | (show (Addr.add _ _).block ≠ _; rw [add_block]; exact hn233_2) | exact hn233_2) (.slice A231_2 ((rd_T45 l0 x17_1).f2).length c231_2)).trans hx233_5; replace hx233_6 := (cell_far (p := ⟨gb232, 2, none⟩) (by first | (rw [add_block]; exact hn233_2) | (show (Addr.add _ _).block ≠ _; rw [add_block]; exact hn233_2) | exact hn233_2) (.slice A231_2 ((rd_T45 l0 x17_1).f2).length c231_2)).trans hx233_6; replace hx233_7 := (cell_far (p := ⟨gb232, 2, none⟩) (by first | (rw [add_block]; exact hn233_2) | (show (Addr.add _ _).block ≠ _; rw [add_block]; exact hn233_2) | exact hn233_2) (.slice A231_2 ((rd_T45 l0 x17_1).f2).length c231_2)).trans hx233_7; replace hx233_8 := (cell_far (p := ⟨gb232, 2, none⟩) (by first | (rw [add_block]; exact hn233_2) | (show (Addr.add _ _).block ≠ _; rw [add_block]; exact hn233_2) | exact hn233_2) (.slice A231_2 ((rd_T45 l0 x17_1).f2).length c231_2)).trans hx233_8; replace hx233_0 := (cell_far (p := ⟨gb232, 3, none⟩) (by first | (rw [add_block]; exact hn233_3) | (show (Addr.add _ _).block ≠ _; rw [add_block]; exact hn233_3) | exact hn233_3) (.int .i64 ((rd_T45 l0 x17_1).f3))).trans hx233_0; replace hx233_1 := (cell_far (p := ⟨gb232, 3, none⟩) (by first | (rw [add_block]; exact hn233_3) | (show (Addr.add _ _).block ≠ _; rw [add_block]; exact hn233_3) | exact hn233_3) (.int .i64 ((rd_T45 l0 x17_1).f3))).trans hx233_1; replace hx233_2 := (cell_far (p := ⟨gb232, 3, none⟩) (by first | (rw [add_block]; exact hn233_3) | (show (Addr.add _ _).block ≠ _; rw [add_block]; exact hn233_3) | exact hn233_3) (.int .i64 ((rd_T45 l0 x17_1).f3))).trans hx233_2; replace hx233_3 := (cell_far (p := ⟨gb232, 3, none⟩) (by first | (rw [add_block]; exact hn233_3) | (show (Addr.add _ _).block ≠ _; rw [add_block]; exact hn233_3) | exact hn233_3) (.int .i64 ((rd_T45 l0 x17_1).f3))).trans hx233_3; replace hx233_4 := (cell_far (p := ⟨gb232, 3, none⟩) (by first | (rw [add_block]; exact hn233_3) | (show (Addr.add _ _).block ≠ _; rw [add_block]; exact hn233_3) | exact hn233_3) (.int .i64 ((rd_T45 l0 x17_1).f3))).trans hx233_4; replace hx233_5 := (cell_far (p := ⟨gb232, 3, none⟩) (by first | (rw [add_block]; exact hn233_3) | (show (Addr.add _ _).block ≠ _; rw [add_block]; exact hn233_3) | exact hn233_3) (.int .i64 ((rd_T45 l0 x17_1).f3))).trans hx233_5; replace hx233_6 := (cell_far (p := ⟨gb232, 3, none⟩) (by first | (rw [add_block]; exact hn233_3) | (show (Addr.add _ _).block ≠ _; rw [add_block]; exact hn233_3) | exact hn233_3) (.int .i64 ((rd_T45 l0 x17_1).f3))).trans hx233_6; replace hx233_7 := (cell_far (p := ⟨gb232, 3, none⟩) (by first | (rw [add_block]; exact hn233_3) | (show (Addr.add _ _).block ≠ _; rw [add_block]; exact hn233_3) | exact hn233_3) (.int .i64 ((rd_T45 l0 x17_1).f3))).trans hx233_7; replace hx233_8 := (cell_far (p := ⟨gb232, 3, none⟩) (by first | (rw [add_block]; exact hn233_3) | (show (Addr.add _ _).block ≠ _; rw [add_block]; exact hn233_3) | exact hn233_3) (.int .i64 ((rd_T45 l0 x17_1).f3))).trans hx233_8; replace hx233_0 := (cell_far (p := ⟨gb232, 4, none⟩) (by first | (rw [add_block]; exact hn233_4) | (show (Addr.add _ _).block ≠ _; rw [add_block]; exact hn233_4) | exact hn233_4) (.int .i64 ((rd_T45 l0 x17_1).f4.f0))).trans hx233_0; replace hx233_1 := (cell_far (p := ⟨gb232, 4, none⟩) (by first | (rw [add_block]; exact hn233_4) | (show (Addr.add _ _).block ≠ _; rw [add_block]; exact hn233_4) | exact hn233_4) (.int .i64 ((rd_T45 l0 x17_1).f4.f0))).trans hx233_1; replace hx233_2 := (cell_far (p := ⟨gb232, 4, none⟩) (by first | (rw [add_block]; exact hn233_4) | (show (Addr.add _ _).block ≠ _; rw [add_block]; exact hn233_4) | exact hn233_4) (.int .i64 ((rd_T45 l0 x17_1).f4.f0))).trans hx233_2; replace hx233_3 := (cell_far (p := ⟨gb232, 4, none⟩) (by first | (rw [add_block]; exact hn233_4) | (show (Addr.add _ _).block ≠ _; rw [add_block]; exact hn233_4) | exact hn233_4) (.int .i64 ((rd_T45 l0 x17_1).f4.f0))).trans hx233_3; replace hx233_4 := (cell_far (p := ⟨gb232, 4, none⟩) (by first | (rw [add_block]; exact hn233_4) | (show (Addr.add _ _).block ≠ _; rw [add_block]; exact hn233_4) | exact hn233_4) (.int .i64 ((rd_T45 l0 x17_1).f4.f0))).trans hx233_4; replace hx233_5 := (cell_far (p := ⟨gb232, 4, none⟩) (by first | (rw [add_block]; exact hn233_4) | (show (Addr.add _ _).block ≠ _; rw [add_block]; exact hn233_4) | exact hn233_4) (.int .i64 ((rd_T45 l0 x17_1).f4.f0))).trans hx233_5; replace hx233_6 := (cell_far (p := ⟨gb232, 4, none⟩) (by first | (rw [add_block]; exact hn233_4) | (show (Addr.add _ _).block ≠ _; rw [add_block]; exact hn233_4) | exact hn233_4) (.int .i64 ((rd_T45 l0 x17_1).f4.f0))).trans hx233_6; replace hx233_7 := (cell_far (p := ⟨gb232, 4, none⟩) (by first | (rw [add_block]; exact hn233_4) | (show (Addr.add _ _).block ≠ _; rw [add_block]; exact hn233_4) | exact hn233_4) (.int .i64 ((rd_T45 l0 x17_1).f4.f0))).trans hx233_7; replace hx233_8 := (cell_far (p := ⟨gb232, 4, none⟩) (by first | (rw [add_block]; exact hn233_4) | (show (Addr.add _ _).block ≠ _; rw [add_block]; exact hn233_4) | exact hn233_4) (.int .i64 ((rd_T45 l0 x17_1).f4.f0))).trans hx233_8; replace hx233_0 := (cell_far (p := ⟨gb232, 5, none⟩) (by first | (rw [add_block]; exact hn233_5) | (show (Addr.add _ _).block ≠ _; rw [add_block]; exact hn233_5) | exact hn233_5) (.int .i64 ((rd_T45 l0 x17_1).f4.f1))).trans hx233_0; replace hx233_1 := (cell_far (p := ⟨gb232, 5, none⟩) (by first | (rw [add_block]; exact hn233_5) | (show (Addr.add _ _).block ≠ _; rw [add_block]; exact hn233_5) | exact hn233_5) (.int .i64 ((rd_T45 l0 x17_1).f4.f1))).trans hx233_1; replace hx233_2 := (cell_far (p := ⟨gb232, 5, none⟩) (by first | (rw [add_block]; exact hn233_5) | (show (Addr.add _ _).block ≠ _; rw [add_block]; exact hn233_5) | exact hn233_5) (.int .i64 ((rd_T45 l0 x17_1).f4.f1))).trans hx233_2; replace hx233_3 := (cell_far (p := ⟨gb232, 5, none⟩) (by first | (rw [add_block]; exact hn233_5) | (show (Addr.add _ _).block ≠ _; rw [add_block]; exact hn233_5) | exact hn233_5) (.int .i64 ((rd_T45 l0 x17_1).f4.f1))).trans hx233_3; replace hx233_4 := (cell_far (p := ⟨gb232, 5, none⟩) (by first | (rw [add_block]; exact hn233_5) | (show (Addr.add _ _).block ≠ _; rw [add_block]; exact hn233_5) | exact hn233_5) (.int .i64 ((rd_T45 l0 x17_1).f4.f1))).trans hx233_4; replace hx233_5 := (cell_far (p := ⟨gb232, 5, none⟩) (by first | (rw [add_block]; exact hn233_5) | (show (Addr.add _ _).block ≠ _; rw [add_block]; exact hn233_5) | exact hn233_5) (.int .i64 ((rd_T45 l0 x17_1).f4.f1))).trans hx233_5; replace hx233_6 := (cell_far (p := ⟨gb232, 5, none⟩) (by first | (rw [add_block]; exact hn233_5) | (show (Addr.add _ _).block ≠ _; rw [add_block]; exact hn233_5) | exact hn233_5) (.int .i64 ((rd_T45 l0 x17_1).f4.f1))).trans hx233_6; replace hx233_7 := (cell_far (p := ⟨gb232, 5, none⟩) (by first | (rw [add_block]; exact hn233_5) | (show (Addr.add _ _).block ≠ _; rw [add_block]; exact hn233_5) | exact hn233_5) (.int .i64 ((rd_T45 l0 x17_1).f4.f1))).trans hx233_7; replace hx233_8 := (cell_far (p := ⟨gb232, 5, none⟩) (by first | (rw [add_block]; exact hn233_5) | (show (Addr.add _ _).block ≠ _; rw [add_block]; exact hn233_5) | exact hn233_5) (.int .i64 ((rd_T45 l0 x17_1).f4.f1))).trans hx233_8; replace hx233_0 := (cell_far (p := ⟨gb232, 6, none⟩) (by first | (rw [add_block]; exact hn233_6) | (show (Addr.add _ _).block ≠ _; rw [add_block]; exact hn233_6) | exact hn233_6) (.string ((rd_T45 l0 x17_1).f4.f2))).trans hx233_0; replace hx233_1 := (cell_far (p := ⟨gb232, 6, none⟩) (by first | (rw [add_block]; exact hn233_6) | (show (Addr.add _ _).block ≠ _; rw [add_block]; exact hn233_6) | exact hn233_6) (.string ((rd_T45 l0 x17_1).f4.f2))).trans hx233_1; replace hx233_2 := (cell_far (p := ⟨gb232, 6, none⟩) (by first | (rw [add_block]; exact hn233_6) | (show (Addr.add _ _).block ≠ _; rw [add_block]; exact hn233_6) | exact hn233_6) (.string ((rd_T45 l0 x17_1).f4.f2))).trans hx233_2; replace hx233_3 := (cell_far (p := ⟨gb232, 6, none⟩) (by first | (rw [add_block]; exact hn233_6) | (show (Addr.add _ _).block ≠ _; rw [add_block]; exact hn233_6) | exact hn233_6) (.string ((rd_T45 l0 x17_1).f4.f2))).trans hx233_3; replace hx233_4 := (cell_far (p := ⟨gb232, 6, none⟩) (by first | (rw [add_block]; exact hn233_6) | (show (Addr.add _ _).block ≠ _; rw [add_block]; exact hn233_6) | exact hn233_6) (.string ((rd_T45 l0 x17_1).f4.f2))).trans hx233_4; replace hx233_5 := (cell_far (p := ⟨gb232, 6, none⟩) (by first | (rw [add_block]; exact hn233_6) | (show (Addr.add _ _).block ≠ _; rw [add_block]; exact hn233_6) | exact hn233_6) (.string ((rd_T45 l0 x17_1).f4.f2))).trans hx233_5; replace hx233_6 := (cell_far (p := ⟨gb232, 6, none⟩) (by first | (rw [add_block]; exact hn233_6) | (show (Addr.add _ _).block ≠ _; rw [add_block]; exact hn233_6) | exact hn233_6) (.string ((rd_T45 l0 x17_1).f4.f2))).trans hx233_6; replace hx233_7 := (cell_far (p := ⟨gb232, 6, none⟩) (by first | (rw [add_block]; exact hn233_6) | (show (Addr.add _ _).block ≠ _; rw [add_block]; exact hn233_6) | exact hn233_6) (.string ((rd_T45 l0 x17_1).f4.f2))).trans hx233_7; replace hx233_8 := (cell_far (p := ⟨gb232, 6, none⟩) (by first | (rw [add_block]; exact hn233_6) | (show (Addr.add _ _).block ≠ _; rw [add_block]; exact hn233_6) | exact hn233_6) (.string ((rd_T45 l0 x17_1).f4.f2))).trans hx233_8; replace hx233_0 := (cell_far (p := ⟨gb232, 7, none⟩) (by first | (rw [add_block]; exact hn233_7) | (show (Addr.add _ _).block ≠ _; rw [add_block]; exact hn233_7) | exact hn233_7) (.string ((rd_T45 l0 x17_1).f4.f3))).trans hx233_0; replace hx233_1 := (cell_far (p := ⟨gb232, 7, none⟩) (by first | (rw [add_block]; exact hn233_7) | (show (Addr.add _ _).block ≠ _; rw [add_block]; exact hn233_7) | exact hn233_7) (.string ((rd_T45 l0 x17_1).f4.f3))).trans hx233_1; replace hx233_2 := (cell_far (p := ⟨gb232, 7, none⟩) (by first | (rw [add_block]; exact hn233_7) | (show (Addr.add _ _).block ≠ _; rw [add_block]; exact hn233_7) | exact hn233_7) (.string ((rd_T45 l0 x17_1).f4.f3))).trans hx233_2; replace hx233_3 := (cell_far (p := ⟨gb232, 7, none⟩) (by first | (rw [add_block]; exact hn233_7) | (show (Addr.add _ _).block ≠ _; rw [add_block]; exact hn233_7) | exact hn233_7) (.string ((rd_T45 l0 x17_1).f4.f3))).trans hx233_3; replace hx233_4 := (cell_far (p := ⟨gb232, 7, none⟩) (by first | (rw [add_block]; exact hn233_7) | (show (Addr.add _ _).block ≠ _; rw [add_block]; exact hn233_7) | exact hn233_7) (.string ((rd_T45 l0 x17_1).f4.f3))).trans hx233_4; replace hx233_5 := (cell_far (p := ⟨gb232, 7, none⟩) (by first | (rw [add_block]; exact hn233_7) | (show (Addr.add _ _).block ≠ _; rw [add_block]; exact hn233_7) | exact hn233_7) (.string ((rd_T45 l0 x17_1).f4.f3))).trans hx233_5; replace hx233_6 := (cell_far (p := ⟨gb232, 7, none⟩) (by first | (rw [add_block]; exact hn233_7) | (show (Addr.add _ _).block ≠ _; rw [add_block]; exact hn233_7) | exact hn233_7) (.string ((rd_T45 l0 x17_1).f4.f3))).trans hx233_6; replace hx233_7 := (cell_far (p := ⟨gb232, 7, none⟩) (by first | (rw [add_block]; exact hn233_7) | (show (Addr.add _ _).block ≠ _; rw [add_block]; exact hn233_7) | exact hn233_7) (.string ((rd_T45 l0 x17_1).f4.f3))).trans hx233_7; replace hx233_8 := (cell_far (p := ⟨gb232, 7, none⟩) (by first | (rw [add_block]; exact hn233_7) | (show (Addr.add _ _).block ≠ _; rw [add_block]; exact hn233_7) | exact hn233_7) (.string ((rd_T45 l0 x17_1).f4.f3))).trans hx233_8; replace hx233_0 := (cell_far (p := ⟨gb232, 8, none⟩) (by first | (rw [add_block]; exact hn233_8) | (show (Addr.add _ _).block ≠ _; rw [add_block]; exact hn233_8) | exact hn233_8) (.slice A231_8 ((rd_T45 l0 x17_1).f4.f4).length c231_8)).trans hx233_0; replace hx233_1 := (cell_far (p := ⟨gb232, 8, none⟩) (by first | (rw [add_block]; exact hn233_8) | (show (Addr.add _ _).block ≠ _; rw [add_block]; exact hn233_8) | exact hn233_8) (.slice A231_8 ((rd_T45 l0 x17_1).f4.f4).length c231_8)).trans hx233_1; replace hx233_2 := (cell_far (p := ⟨gb232, 8, none⟩) (by first | (rw [add_block]; exact hn233_8) | (show (Addr.add _ _).block ≠ _; rw [add_block]; exact hn233_8) | exact hn233_8) (.slice A231_8 ((rd_T45 l0 x17_1).f4.f4).length c231_8)).trans hx233_2; replace hx233_3 := (cell_far (p := ⟨gb232, 8, none⟩) (by first | (rw [add_block]; exact hn233_8) | (show (Addr.add _ _).block ≠ _; rw [add_block]; exact hn233_8) | exact hn233_8) (.slice A231_8 ((rd_T45 l0 x17_1).f4.f4).length c231_8)).trans hx233_3; replace hx233_4 := (cell_far (p := ⟨gb232, 8, none⟩) (by first | (rw [add_block]; exact hn233_8) | (show (Addr.add _ _).block ≠ _; rw [add_block]; exact hn233_8) | exact hn233_8) (.slice A231_8 ((rd_T45 l0 x17_1).f4.f4).length c231_8)).trans hx233_4; replace hx233_5 := (cell_far (p := ⟨gb232, 8, none⟩) (by first | (rw [add_block]; exact hn233_8) | (show (Addr.add _ _).block ≠ _; rw [add_block]; exact hn233_8) | exact hn233_8) (.slice A231_8 ((rd_T45 l0 x17_1).f4.f4).length c231_8)).trans hx233_5; replace hx233_6 := (cell_far (p := ⟨gb232, 8, none⟩) (by first | (rw [add_block]; exact hn233_8) | (show (Addr.add _ _).block ≠ _; rw [add_block]; exact hn233_8) | exact hn233_8) (.slice A231_8 ((rd_T45 l0 x17_1).f4.f4).length c231_8)).trans hx233_6; replace hx233_7 := (cell_far (p := ⟨gb232, 8, none⟩) (by first | (rw [add_block]; exact hn233_8) | (show (Addr.add _ _).block ≠ _; rw [add_block]; exact hn233_8) | exact hn233_8) (.slice A231_8 ((rd_T45 l0 x17_1).f4.f4).length c231_8)).trans hx233_7; replace hx233_8 := (cell_far (p := ⟨gb232, 8, none⟩) (by first | (rw [add_block]; exact hn233_8) | (show (Addr.add _ _).block ≠ _; rw [add_block]; exact hn233_8) | exact hn233_8) (.slice A231_8 ((rd_T45 l0 x17_1).f4.f4).length c231_8)).trans hx233_8; clear hn233_0; clear hn233_1; clear hn233_2; clear hn233_3; clear hn233_4; clear hn233_5; clear hn233_6; clear hn233_7; clear hn233_8; replace p233 := eq_true p233; replace q233 := eq_true q233) | ((with_reducible refine gate_dst (N := 9) rfl ?_); refine box_event ?hg (N := 9) ?hd (cs := #[.string (⟨#[]⟩ : ByteArray), .bool false, .slice none 0 0, .int .i64 0, .int .i64 0, .int .i64 0, .string (⟨#[]⟩ : ByteArray), .string (⟨#[]⟩ : ByteArray), .slice none 0 0]) (t := 45) ?hr ?_; (case hd => rfl); (case hg => rfl); (case hr => first | (go_simp; done) | (go_simp; rfl)); intro gb234 hg w13 hbox hb; have BK234 := Aside0.mk (hbox); have GW234 := Aside0.mk ((by rw [hg]; exact (below_size (Bp HB)) : w.heap.size ≤ gb234)); have GE234 := Aside0.mk ((by rw [hg]; exact (below_size (Bp HB)) : w.heap.size ≤ gb234)); replace HB := Bs HB hb; have NB232_234 := Aside0.mk ((by rw [hg]; exact Nat.ne_of_lt (blk_lt (g := gb232) (o := .cells #[.string ((rd_T45 l0 x17_1).f0), .bool ((rd_T45 l0 x17_1).f1), .slice A231_2 ((rd_T45 l0 x17_1).f2).length c231_2, .int .i64 ((rd_T45 l0 x17_1).f3), .int .i64 ((rd_T45 l0 x17_1).f4.f0), .int .i64 ((rd_T45 l0 x17_1).f4.f1), .string ((rd_T45 l0 x17_1).f4.f2), .string ((rd_T45 l0 x17_1).f4.f3), .slice A231_8 ((rd_T45 l0 x17_1).f4.f4).length c231_8] 45 (0, 0)) (by (with_reducible repeat (first | refine blk_drewN ?_ _ | refine blk_drew ?_ | refine blk_alloc ?_ _)); refine blk_put (cs := #[.string ((rd_T45 l0 x17_1).f0), .bool ((rd_T45 l0 x17_1).f1), .slice A231_2 ((rd_T45 l0 x17_1).f2).length c231_2, .int .i64 ((rd_T45 l0 x17_1).f3), .int .i64 ((rd_T45 l0 x17_1).f4.f0), .int .i64 ((rd_T45 l0 x17_1).f4.f1), .string ((rd_T45 l0 x17_1).f4.f2), .string ((rd_T45 l0 x17_1).f4.f3), .slice none 0 0]) ?_ 8 _ rfl; (with_reducible repeat (first | refine blk_drewN ?_ _ | refine blk_drew ?_ | refine blk_alloc ?_ _)); refine blk_put (cs := #[.string ((rd_T45 l0 x17_1).f0), .bool ((rd_T45 l0 x17_1).f1), .slice A231_2 ((rd_T45 l0 x17_1).f2).length c231_2, .int .i64 ((rd_T45 l0 x17_1).f3), .int .i64 ((rd_T45 l0 x17_1).f4.f0), .int .i64 ((rd_T45 l0 x17_1).f4.f1), .string ((rd_T45 l0 x17_1).f4.f2), .string (⟨#[]⟩ : ByteArray), .slice none 0 0]) ?_ 7 _ rfl; (with_reducible repeat (first | refine blk_drewN ?_ _ | refine blk_drew ?_ | refine blk_alloc ?_ _)); refine blk_put (cs := #[.string ((rd_T45 l0 x17_1).f0), .bool ((rd_T45 l0 x17_1).f1), .slice A231_2 ((rd_T45 l0 x17_1).f2).length c231_2, .int .i64 ((rd_T45 l0 x17_1).f3), .int .i64 ((rd_T45 l0 x17_1).f4.f0), .int .i64 ((rd_T45 l0 x17_1).f4.f1), .string (⟨#[]⟩ : ByteArray), .string (⟨#[]⟩ : ByteArray), .slice none 0 0]) ?_ 6 _ rfl; (with_reducible repeat (first | refine blk_drewN ?_ _ | refine blk_drew ?_ | refine blk_alloc ?_ _)); refine blk_put (cs := #[.string ((rd_T45 l0 x17_1).f0), .bool ((rd_T45 l0 x17_1).f1), .slice A231_2 ((rd_T45 l0 x17_1).f2).length c231_2, .int .i64 ((rd_T45 l0 x17_1).f3), .int .i64 ((rd_T45 l0 x17_1).f4.f0), .int .i64 0, .string (⟨#[]⟩ : ByteArray), .string (⟨#[]⟩ : ByteArray), .slice none 0 0]) ?_ 5 _ rfl; (with_reducible repeat (first | refine blk_drewN ?_ _ | refine blk_drew ?_ | refine blk_alloc ?_ _)); refine blk_put (cs := #[.string ((rd_T45 l0 x17_1).f0), .bool ((rd_T45 l0 x17_1).f1), .slice A231_2 ((rd_T45 l0 x17_1).f2).length c231_2, .int .i64 ((rd_T45 l0 x17_1).f3), .int .i64 0, .int .i64 0, .string (⟨#[]⟩ : ByteArray), .string (⟨#[]⟩ : ByteArray), .slice none 0 0]) ?_ 4 _ rfl; (with_reducible repeat (first | refine blk_drewN ?_ _ | refine blk_drew ?_ | refine blk_alloc ?_ _)); refine blk_put (cs := #[.string ((rd_T45 l0 x17_1).f0), .bool ((rd_T45 l0 x17_1).f1), .slice A231_2 ((rd_T45 l0 x17_1).f2).length c231_2, .int .i64 0, .int .i64 0, .int .i64 0, .string (⟨#[]⟩ : ByteArray), .string (⟨#[]⟩ : ByteArray), .slice none 0 0]) ?_ 3 _ rfl; (with_reducible repeat (first | refine blk_drewN ?_ _ | refine blk_drew ?_ | refine blk_alloc ?_ _)); refine blk_put (cs := #[.string ((rd_T45 l0 x17_1).f0), .bool ((rd_T45 l0 x17_1).f1), .slice none 0 0, .int .i64 0, .int .i64 0, .int .i64 0, .string (⟨#[]⟩ : ByteArray), .string (⟨#[]⟩ : ByteArray), .slice none 0 0]) ?_ 2 _ rfl; (with_reducible repeat (first | refine blk_drewN ?_ _ | refine blk_drew ?_ | refine blk_alloc ?_ _)); refine blk_put (cs := #[.string ((rd_T45 l0 x17_1).f0), .bool false, .slice none 0 0, .int .i64 0, .int .i64 0, .int .i64 0, .string (⟨#[]⟩ : ByteArray), .string (⟨#[]⟩ : ByteArray), .slice none 0 0]) ?_ 1 _ rfl; (with_reducible repeat (first | refine blk_drewN ?_ _ | refine blk_drew ?_ | refine blk_alloc ?_ _)); refine blk_put (cs := #[.string (⟨#[]⟩ : ByteArray), .bool false, .slice none 0 0, .int .i64 0, .int .i64 0, .int .i64 0, .string (⟨#[]⟩ : ByteArray), .string (⟨#[]⟩ : ByteArray), .slice none 0 0]) ?_ 0 _ rfl; (with_reducible repeat (first | refine blk_drewN ?_ _ | refine blk_drew ?_ | refine blk_alloc ?_ _)); exact BK232.out)) : gb232 ≠ gb234)); have NB234_232 := Aside0.mk ((by rw [hg]; exact Nat.ne_of_gt (blk_lt (g := gb232) (o := .cells #[.string ((rd_T45 l0 x17_1).f0), .bool ((rd_T45 l0 x17_1).f1), .slice A231_2 ((rd_T45 l0 x17_1).f2).length c231_2, .int .i64 ((rd_T45 l0 x17_1).f3), .int .i64 ((rd_T45 l0 x17_1).f4.f0), .int .i64 ((rd_T45 l0 x17_1).f4.f1), .string ((rd_T45 l0 x17_1).f4.f2), .string ((rd_T45 l0 x17_1).f4.f3), .slice A231_8 ((rd_T45 l0 x17_1).f4.f4).length c231_8] 45 (0, 0)) (by (with_reducible repeat (first | refine blk_drewN ?_ _ | refine blk_drew ?_ | refine blk_alloc ?_ _)); refine blk_put (cs := #[.string ((rd_T45 l0 x17_1).f0), .bool ((rd_T45 l0 x17_1).f1), .slice A231_2 ((rd_T45 l0 x17_1).f2).length c231_2, .int .i64 ((rd_T45 l0 x17_1).f3), .int .i64 ((rd_T45 l0 x17_1).f4.f0), .int .i64 ((rd_T45 l0 x17_1).f4.f1), .string ((rd_T45 l0 x17_1).f4.f2), .string ((rd_T45 l0 x17_1).f4.f3), .slice none 0 0]) ?_ 8 _ rfl; (with_reducible repeat (first | refine blk_drewN ?_ _ | refine blk_drew ?_ | refine blk_alloc ?_ _)); refine blk_put (cs := #[.string ((rd_T45 l0 x17_1).f0), .bool ((rd_T45 l0 x17_1).f1), .slice A231_2 ((rd_T45 l0 x17_1).f2).length c231_2, .int .i64 ((rd_T45 l0 x17_1).f3), .int .i64 ((rd_T45 l0 x17_1).f4.f0), .int .i64 ((rd_T45 l0 x17_1).f4.f1), .string ((rd_T45 l0 x17_1).f4.f2), .string (⟨#[]⟩ : ByteArray), .slice none 0 0]) ?_ 7 _ rfl; (with_reducible repeat (first | refine blk_drewN ?_ _ | refine blk_drew ?_ | refine blk_alloc ?_ _)); refine blk_put (cs := #[.string ((rd_T45 l0 x17_1).f0), .bool ((rd_T45 l0 x17_1).f1), .slice A231_2 ((rd_T45 l0 x17_1).f2).length c231_2, .int .i64 ((rd_T45 l0 x17_1).f3), .int .i64 ((rd_T45 l0 x17_1).f4.f0), .int .i64 ((rd_T45 l0 x17_1).f4.f1), .string (⟨#[]⟩ : ByteArray), .string (⟨#[]⟩ : ByteArray), .slice none 0 0]) ?_ 6 _ rfl; (with_reducible repeat (first | refine blk_drewN ?_ _ | refine blk_drew ?_ | refine blk_alloc ?_ _)); refine blk_put (cs := #[.string ((rd_T45 l0 x17_1).f0), .bool ((rd_T45 l0 x17_1).f1), .slice A231_2 ((rd_T45 l0 x17_1).f2).length c231_2, .int .i64 ((rd_T45 l0 x17_1).f3), .int .i64 ((rd_T45 l0 x17_1).f4.f0), .int .i64 0, .string (⟨#[]⟩ : ByteArray), .string (⟨#[]⟩ : ByteArray), .slice none 0 0]) ?_ 5 _ rfl; (with_reducible repeat (first | refine blk_drewN ?_ _ | refine blk_drew ?_ | refine blk_alloc ?_ _)); refine blk_put (cs := #[.string ((rd_T45 l0 x17_1).f0), .bool ((rd_T45 l0 x17_1).f1), .slice A231_2 ((rd_T45 l0 x17_1).f2).length c231_2, .int .i64 ((rd_T45 l0 x17_1).f3), .int .i64 0, .int .i64 0, .string (⟨#[]⟩ : ByteArray), .string (⟨#[]⟩ : ByteArray), .slice none 0 0]) ?_ 4 _ rfl; (with_reducible repeat (first | refine blk_drewN ?_ _ | refine blk_drew ?_ | refine blk_alloc ?_ _)); refine blk_put (cs := #[.string ((rd_T45 l0 x17_1).f0), .bool ((rd_T45 l0 x17_1).f1), .slice A231_2 ((rd_T45 l0 x17_1).f2).length c231_2, .int .i64 0, .int .i64 0, .int .i64 0, .string (⟨#[]⟩ : ByteArray), .string (⟨#[]⟩ : ByteArray), .slice none 0 0]) ?_ 3 _ rfl; (with_reducible repeat (first | refine blk_drewN ?_ _ | refine blk_drew ?_ | refine blk_alloc ?_ _)); refine blk_put (cs := #[.string ((rd_T45 l0 x17_1).f0), .bool ((rd_T45 l0 x17_1).f1), .slice none 0 0, .int .i64 0, .int .i64 0, .int .i64 0, .string (⟨#[]⟩ : ByteArray), .string (⟨#[]⟩ : ByteArray), .slice none 0 0]) ?_ 2 _ rfl; (with_reducible repeat (first | refine blk_drewN ?_ _ | refine blk_drew ?_ | refine blk_alloc ?_ _)); refine blk_put (cs := #[.string ((rd_T45 l0 x17_1).f0), .bool false, .slice none 0 0, .int .i64 0, .int .i64 0, .int .i64 0, .string (⟨#[]⟩ : ByteArray), .string (⟨#[]⟩ : ByteArray), .slice none 0 0]) ?_ 1 _ rfl; (with_reducible repeat (first | refine blk_drewN ?_ _ | refine blk_drew ?_ | refine blk_alloc ?_ _)); refine blk_put (cs := #[.string (⟨#[]⟩ : ByteArray), .bool false, .slice none 0 0, .int .i64 0, .int .i64 0, .int .i64 0, .string (⟨#[]⟩ : ByteArray), .string (⟨#[]⟩ : ByteArray), .slice none 0 0]) ?_ 0 _ rfl; (with_reducible repeat (first | refine blk_drewN ?_ _ | refine blk_drew ?_ | refine blk_alloc ?_ _)); exact BK232.out)) : gb234 ≠ gb232)); replace BK232 := Aside0.mk (blk_below (g := gb232) (o := .cells #[.string ((rd_T45 l0 x17_1).f0), .bool ((rd_T45 l0 x17_1).f1), .slice A231_2 ((rd_T45 l0 x17_1).f2).length c231_2, .int .i64 ((rd_T45 l0 x17_1).f3), .int .i64 ((rd_T45 l0 x17_1).f4.f0), .int .i64 ((rd_T45 l0 x17_1).f4.f1), .string ((rd_T45 l0 x17_1).f4.f2), .string ((rd_T45 l0 x17_1).f4.f3), .slice A231_8 ((rd_T45 l0 x17_1).f4.f4).length c231_8] 45 (0, 0)) (by (with_reducible repeat (first | refine blk_drewN ?_ _ | refine blk_drew ?_ | refine blk_alloc ?_ _)); refine blk_put (cs := #[.string ((rd_T45 l0 x17_1).f0), .bool ((rd_T45 l0 x17_1).f1), .slice A231_2 ((rd_T45 l0 x17_1).f2).length c231_2, .int .i64 ((rd_T45 l0 x17_1).f3), .int .i64 ((rd_T45 l0 x17_1).f4.f0), .int .i64 ((rd_T45 l0 x17_1).f4.f1), .string ((rd_T45 l0 x17_1).f4.f2), .string ((rd_T45 l0 x17_1).f4.f3), .slice none 0 0]) ?_ 8 _ rfl; (with_reducible repeat (first | refine blk_drewN ?_ _ | refine blk_drew ?_ | refine blk_alloc ?_ _)); refine blk_put (cs := #[.string ((rd_T45 l0 x17_1).f0), .bool ((rd_T45 l0 x17_1).f1), .slice A231_2 ((rd_T45 l0 x17_1).f2).length c231_2, .int .i64 ((rd_T45 l0 x17_1).f3), .int .i64 ((rd_T45 l0 x17_1).f4.f0), .int .i64 ((rd_T45 l0 x17_1).f4.f1), .string ((rd_T45 l0 x17_1).f4.f2), .string (⟨#[]⟩ : ByteArray), .slice none 0 0]) ?_ 7 _ rfl; (with_reducible repeat (first | refine blk_drewN ?_ _ | refine blk_drew ?_ | refine blk_alloc ?_ _)); refine blk_put (cs := #[.string ((rd_T45 l0 x17_1).f0), .bool ((rd_T45 l0 x17_1).f1), .slice A231_2 ((rd_T45 l0 x17_1).f2).length c231_2, .int .i64 ((rd_T45 l0 x17_1).f3), .int .i64 ((rd_T45 l0 x17_1).f4.f0), .int .i64 ((rd_T45 l0 x17_1).f4.f1), .string (⟨#[]⟩ : ByteArray), .string (⟨#[]⟩ : ByteArray), .slice none 0 0]) ?_ 6 _ rfl; (with_reducible repeat (first | refine blk_drewN ?_ _ | refine blk_drew ?_ | refine blk_alloc ?_ _)); refine blk_put (cs := #[.string ((rd_T45 l0 x17_1).f0), .bool ((rd_T45 l0 x17_1).f1), .slice A231_2 ((rd_T45 l0 x17_1).f2).length c231_2, .int .i64 ((rd_T45 l0 x17_1).f3), .int .i64 ((rd_T45 l0 x17_1).f4.f0), .int .i64 0, .string (⟨#[]⟩ : ByteArray), .string (⟨#[]⟩ : ByteArray), .slice none 0 0]) ?_ 5 _ rfl; (with_reducible repeat (first | refine blk_drewN ?_ _ | refine blk_drew ?_ | refine blk_alloc ?_ _)); refine blk_put (cs := #[.string ((rd_T45 l0 x17_1).f0), .bool ((rd_T45 l0 x17_1).f1), .slice A231_2 ((rd_T45 l0 x17_1).f2).length c231_2, .int .i64 ((rd_T45 l0 x17_1).f3), .int .i64 0, .int .i64 0, .string (⟨#[]⟩ : ByteArray), .string (⟨#[]⟩ : ByteArray), .slice none 0 0]) ?_ 4 _ rfl; (with_reducible repeat (first | refine blk_drewN ?_ _ | refine blk_drew ?_ | refine blk_alloc ?_ _)); refine blk_put (cs := #[.string ((rd_T45 l0 x17_1).f0), .bool ((rd_T45 l0 x17_1).f1), .slice A231_2 ((rd_T45 l0 x17_1).f2).length c231_2, .int .i64 0, .int .i64 0, .int .i64 0, .string (⟨#[]⟩ : ByteArray), .string (⟨#[]⟩ : ByteArray), .slice none 0 0]) ?_ 3 _ rfl; (with_reducible repeat (first | refine blk_drewN ?_ _ | refine blk_drew ?_ | refine blk_alloc ?_ _)); refine blk_put (cs := #[.string ((rd_T45 l0 x17_1).f0), .bool ((rd_T45 l0 x17_1).f1), .slice none 0 0, .int .i64 0, .int .i64 0, .int .i64 0, .string (⟨#[]⟩ : ByteArray), .string (⟨#[]⟩ : ByteArray), .slice none 0 0]) ?_ 2 _ rfl; (with_reducible repeat (first | refine blk_drewN ?_ _ | refine blk_drew ?_ | refine blk_alloc ?_ _)); refine blk_put (cs := #[.string ((rd_T45 l0 x17_1).f0), .bool false, .slice none 0 0, .int .i64 0, .int .i64 0, .int .i64 0, .string (⟨#[]⟩ : ByteArray), .string (⟨#[]⟩ : ByteArray), .slice none 0 0]) ?_ 1 _ rfl; (with_reducible repeat (first | refine blk_drewN ?_ _ | refine blk_drew ?_ | refine blk_alloc ?_ _)); refine blk_put (cs := #[.string (⟨#[]⟩ : ByteArray), .bool false, .slice none 0 0, .int .i64 0, .int .i64 0, .int .i64 0, .string (⟨#[]⟩ : ByteArray), .string (⟨#[]⟩ : ByteArray), .slice none 0 0]) ?_ 0 _ rfl; (with_reducible repeat (first | refine blk_drewN ?_ _ | refine blk_drew ?_ | refine blk_alloc ?_ _)); exact BK232.out) hb); clear hb hbox hg; have hnb14 := NB234_232.out; have hnc14 := NB232_234.out; obtain ⟨hcz15_0, hcz15_1, hcz15_2, hcz15_3, hcz15_4, hcz15_5, hcz15_6, hcz15_7, hcz15_8⟩ := bc9 (W := w13) BK234.out; obtain ⟨hfz15_0, hfz15_1, hfz15_2, hfz15_3, hfz15_4, hfz15_5, hfz15_6, hfz15_7, hfz15_8⟩ := bf9 BK234.out; obtain ⟨hcz16_0, hcz16_1, hcz16_2, hcz16_3, hcz16_4, hcz16_5, hcz16_6, hcz16_7, hcz16_8⟩ := bc9 (W := w13) BK232.out; obtain ⟨hfz16_0, hfz16_1, hfz16_2, hfz16_3, hfz16_4, hfz16_5, hfz16_6, hfz16_7, hfz16_8⟩ := bf9 BK232.out) | (go_at_call 56; (with_reducible refine (impl_sameFun.calls k1 ((rd_T45 l0 x17_1).f0) ((rd_T45 l0 x17_1).f1) _ _ ((rd_T45 l0 x17_1).f2) ((rd_T45 l0 x17_1).f3) ((rd_T45 l0 x17_1).f4.f0) ((rd_T45 l0 x17_1).f4.f1) ((rd_T45 l0 x17_1).f4.f2) ((rd_T45 l0 x17_1).f4.f3) _ _ ((rd_T45 l0 x17_1).f4.f4) ((rd_T45 l1 x17_1).f0) ((rd_T45 l1 x17_1).f1) _ _ ((rd_T45 l1 x17_1).f2) ((rd_T45 l1 x17_1).f3) ((rd_T45 l1 x17_1).f4.f0) ((rd_T45 l1 x17_1).f4.f1) ((rd_T45 l1 x17_1).f4.f2) ((rd_T45 l1 x17_1).f4.f3) _ _ ((rd_T45 l1 x17_1).f4.f4) true _ ?side1 ?side2 ?side3 ?side4 ?side5 ?side6 ?side7 ?side8 A9.out).mono ?_); (case side1 => exact Kd.C_below HR231_2.out (Bp HB)); (case side2 => exact HC231_2.out); (case side3 => exact Kd.C_below HR231_8.out (Bp HB)); (case side4 => exact HC231_8.out); (case side5 => exact Kd.C_below HR233_2.out (Bp HB)); (case side6 => exact HC233_2.out); (case side7 => exact Kd.C_below HR233_8.out (Bp HB)); (case side8 => exact HC233_8.out); rintro e w17 ⟨rfl, hb⟩; replace BK232 := Aside0.mk (blk_below (Kf BK232) hb); replace BK234 := Aside0.mk (blk_below (g := gb234) (o := .cells #[.string ((rd_T45 l1 x17_1).f0), .bool ((rd_T45 l1 x17_1).f1), .slice A233_2 ((rd_T45 l1 x17_1).f2).length c233_2, .int .i64 ((rd_T45 l1 x17_1).f3), .int .i64 ((rd_T45 l1 x17_1).f4.f0), .int .i64 ((rd_T45 l1 x17_1).f4.f1), .string ((rd_T45 l1 x17_1).f4.f2), .string ((rd_T45 l1 x17_1).f4.f3), .slice A233_8 ((rd_T45 l1 x17_1).f4.f4).length c233_8] 45 (0, 0)) (by (with_reducible repeat (first | refine blk_drewN ?_ _ | refine blk_drew ?_ | refine blk_alloc ?_ _)); refine blk_put (cs := #[.string ((rd_T45 l1 x17_1).f0), .bool ((rd_T45 l1 x17_1).f1), .slice A233_2 ((rd_T45 l1 x17_1).f2).length c233_2, .int .i64 ((rd_T45 l1 x17_1).f3), .int .i64 ((rd_T45 l1 x17_1).f4.f0), .int .i64 ((rd_T45 l1 x17_1).f4.f1), .string ((rd_T45 l1 x17_1).f4.f2), .string ((rd_T45 l1 x17_1).f4.f3), .slice none 0 0]) ?_ 8 _ rfl; (with_reducible repeat (first | refine blk_drewN ?_ _ | refine blk_drew ?_ | refine blk_alloc ?_ _)); refine blk_put (cs := #[.string ((rd_T45 l1 x17_1).f0), .bool ((rd_T45 l1 x17_1).f1), .slice A233_2 ((rd_T45 l1 x17_1).f2).length c233_2, .int .i64 ((rd_T45 l1 x17_1).f3), .int .i64 ((rd_T45 l1 x17_1).f4.f0), .int .i64 ((rd_T45 l1 x17_1).f4.f1), .string ((rd_T45 l1 x17_1).f4.f2), .string (⟨#[]⟩ : ByteArray), .slice none 0 0]) ?_ 7 _ rfl; (with_reducible repeat (first | refine blk_drewN ?_ _ | refine blk_drew ?_ | refine blk_alloc ?_ _)); refine blk_put (cs := #[.string ((rd_T45 l1 x17_1).f0), .bool ((rd_T45 l1 x17_1).f1), .slice A233_2 ((rd_T45 l1 x17_1).f2).length c233_2, .int .i64 ((rd_T45 l1 x17_1).f3), .int .i64 ((rd_T45 l1 x17_1).f4.f0), .int .i64 ((rd_T45 l1 x17_1).f4.f1), .string (⟨#[]⟩ : ByteArray), .string (⟨#[]⟩ : ByteArray), .slice none 0 0]) ?_ 6 _ rfl; (with_reducible repeat (first | refine blk_drewN ?_ _ | refine blk_drew ?_ | refine blk_alloc ?_ _)); refine blk_put (cs := #[.string ((rd_T45 l1 x17_1).f0), .bool ((rd_T45 l1 x17_1).f1), .slice A233_2 ((rd_T45 l1 x17_1).f2).length c233_2, .int .i64 ((rd_T45 l1 x17_1).f3), .int .i64 ((rd_T45 l1 x17_1).f4.f0), .int .i64 0, .string (⟨#[]⟩ : ByteArray), .string (⟨#[]⟩ : ByteArray), .slice none 0 0]) ?_ 5 _ rfl; (with_reducible repeat (first | refine blk_drewN ?_ _ | refine blk_drew ?_ | refine blk_alloc ?_ _)); refine blk_put (cs := #[.string ((rd_T45 l1 x17_1).f0), .bool ((rd_T45 l1 x17_1).f1), .slice A233_2 ((rd_T45 l1 x17_1).f2).length c233_2, .int .i64 ((rd_T45 l1 x17_1).f3), .int .i64 0, .int .i64 0, .string (⟨#[]⟩ : ByteArray), .string (⟨#[]⟩ : ByteArray), .slice none 0 0]) ?_ 4 _ rfl; (with_reducible repeat (first | refine blk_drewN ?_ _ | refine blk_drew ?_ | refine blk_alloc ?_ _)); refine blk_put (cs := #[.string ((rd_T45 l1 x17_1).f0), .bool ((rd_T45 l1 x17_1).f1), .slice A233_2 ((rd_T45 l1 x17_1).f2).length c233_2, .int .i64 0, .int .i64 0, .int .i64 0, .string (⟨#[]⟩ : ByteArray), .string (⟨#[]⟩ : ByteArray), .slice none 0 0]) ?_ 3 _ rfl; (with_reducible repeat (first | refine blk_drewN ?_ _ | refine blk_drew ?_ | refine blk_alloc ?_ _)); refine blk_put (cs := #[.string ((rd_T45 l1 x17_1).f0), .bool ((rd_T45 l1 x17_1).f1), .slice none 0 0, .int .i64 0, .int .i64 0, .int .i64 0, .string (⟨#[]⟩ : ByteArray), .string (⟨#[]⟩ : ByteArray), .slice none 0 0]) ?_ 2 _ rfl; (with_reducible repeat (first | refine blk_drewN ?_ _ | refine blk_drew ?_ | refine blk_alloc ?_ _)); refine blk_put (cs := #[.string ((rd_T45 l1 x17_1).f0), .bool false, .slice none 0 0, .int .i64 0, .int .i64 0, .int .i64 0, .string (⟨#[]⟩ : ByteArray), .string (⟨#[]⟩ : ByteArray), .slice none 0 0]) ?_ 1 _ rfl; (with_reducible repeat (first | refine blk_drewN ?_ _ | refine blk_drew ?_ | refine blk_alloc ?_ _)); refine blk_put (cs := #[.string (⟨#[]⟩ : ByteArray), .bool false, .slice none 0 0, .int .i64 0, .int .i64 0, .int .i64 0, .string (⟨#[]⟩ : ByteArray), .string (⟨#[]⟩ : ByteArray), .slice none 0 0]) ?_ 0 _ rfl; (with_reducible repeat (first | refine blk_drewN ?_ _ | refine blk_drew ?_ | refine blk_alloc ?_ _)); exact BK234.out) hb); replace HB := Bs HB hb; (try clear hb); (try clear hb2); (try clear hk); (try clear hi)))
                  go_roundg k1
                  case measure => have := HK1.out; omega
                  case rel => exact ⟨(wrap64 (x17_1 + 1)), (by first | rfl | (simp; done) | (simp [*]; done)), H', ⟨by have := HK1.out; omega⟩, ⟨Bp HB⟩⟩
                · replace c10 := Bool.eq_false_iff.mpr c10
                  subst c10
                  have H1 : (some false) = some r := by rw [if_neg (show ¬ (false = true) by decide)] at H; exact H
                  clear H
                  have H := H1
                  clear H1
                  obtain rfl := Option.some.inj H
                  have p231 : 0 ≤ (x17_1 : Int) := of_decide_eq_true (by first | (with_reducible assumption) | assumption)
                  have q231 : x17_1 < (l0.length : Int) := of_decide_eq_true (by first | (with_reducible assumption) | assumption)
                  obtain ⟨ad231, A231_2, c231_2, A231_8, c231_8, e231, hx231_0, hx231_1, hx231_2, hx231_3, hx231_4, hx231_5, hx231_6, hx231_7, hx231_8, hl231_2, hi231_2, hl231_8, hi231_8⟩ := at_T45 HR0.out x17_1 p231 q231
                  cases e231
                  replace hx231_0 := (HB.out.cell (World.block_lt_of_cell? w _ hx231_0)).trans hx231_0
                  replace hx231_1 := (HB.out.cell (World.block_lt_of_cell? w _ hx231_1)).trans hx231_1
                  replace hx231_2 := (HB.out.cell (World.block_lt_of_cell? w _ hx231_2)).trans hx231_2
                  replace hx231_3 := (HB.out.cell (World.block_lt_of_cell? w _ hx231_3)).trans hx231_3
                  replace hx231_4 := (HB.out.cell (World.block_lt_of_cell? w _ hx231_4)).trans hx231_4
                  replace hx231_5 := (HB.out.cell (World.block_lt_of_cell? w _ hx231_5)).trans hx231_5
                  replace hx231_6 := (HB.out.cell (World.block_lt_of_cell? w _ hx231_6)).trans hx231_6
                  replace hx231_7 := (HB.out.cell (World.block_lt_of_cell? w _ hx231_7)).trans hx231_7
                  replace hx231_8 := (HB.out.cell (World.block_lt_of_cell? w _ hx231_8)).trans hx231_8
                  have HR231_2 := Aside0.mk hi231_2
                  have HC231_2 := Aside0.mk hl231_2
                  clear hi231_2 hl231_2
                  have HR231_8 := Aside0.mk hi231_8
                  have HC231_8 := Aside0.mk hl231_8
                  clear hi231_8 hl231_8
                  replace p231 := eq_true p231
                  replace q231 := eq_true q231
                  go_wp2_with (first | ((with_reducible refine gate_dst (N := 8) rfl ?_); refine box_event ?hg (N := 8) ?hd (cs := #[.string (⟨#[]⟩ : ByteArray), .bool false, .slice none 0 0, .int .i64 0, .int .i64 0, .int .i64 0, .string (⟨#[]⟩ : ByteArray), .string (⟨#[]⟩ : ByteArray), .slice none 0 0]) (t := 45) ?hr ?_; (case hd => rfl); (case hg => rfl); (case hr => first | (go_simp; done) | (go_simp; rfl)); intro gb232 hg w18 hbox hb; have BK232 := Aside0.mk (hbox); have GW232 := Aside0.mk ((by rw [hg]; exact (below_size (Bp HB)) : w.heap.size ≤ gb232)); have GE232 := Aside0.mk ((by rw [hg]; exact (below_size (Bp HB)) : w.heap.size ≤ gb232)); replace HB := Bs HB hb; clear hb hbox hg; obtain ⟨hcz19_0, hcz19_1, hcz19_2, hcz19_3, hcz19_4, hcz19_5, hcz19_6, hcz19_7, hcz19_8⟩ := bc9 (W := w18) BK232.out; obtain ⟨hfz19_0, hfz19_1, hfz19_2, hfz19_3, hfz19_4, hfz19_5, hfz19_6, hfz19_7, hfz19_8⟩ := bf9 BK232.out; have p233 : 0 ≤ (x17_1 : Int) := of_decide_eq_true (by first | (with_reducible assumption) | assumption); have q233 : x17_1 < (l1.length : Int) := of_decide_eq_true (by first | (with_reducible assumption) | assumption); obtain ⟨ad233, A233_2, c233_2, A233_8, c233_8, e233, hx233_0, hx233_1, hx233_2, hx233_3, hx233_4, hx233_5, hx233_6, hx233_7, hx233_8, hl233_2, hi233_2, hl233_8, hi233_8⟩ := at_T45 HR1.out x17_1 p233 q233; cases e233; have hn233_0 : ad233.block ≠ gb232 := Nat.ne_of_lt (Nat.lt_of_lt_of_le (by have := World.block_lt_of_cell? _ _ hx233_0; first | rwa [add_block] at this | exact this) GW232.out); have hn233_1 : ad233.block ≠ gb232 := Nat.ne_of_lt (Nat.lt_of_lt_of_le (by have := World.block_lt_of_cell? _ _ hx233_0; first | rwa [add_block] at this | exact this) GW232.out); have hn233_2 : ad233.block ≠ gb232 := Nat.ne_of_lt (Nat.lt_of_lt_of_le (by have := World.block_lt_of_cell? _ _ hx233_0; first | rwa [add_block] at this | exact this) GW232.out); have hn233_3 : ad233.block ≠ gb232 := Nat.ne_of_lt (Nat.lt_of_lt_of_le (by have := World.block_lt_of_cell? _ _ hx233_0; first | rwa [add_block] at this | exact this) GW232.out); have hn233_4 : ad233.block ≠ gb232 := Nat.ne_of_lt (Nat.lt_of_lt_of_le (by have := World.block_lt_of_cell? _ _ hx233_0; first | rwa [add_block] at this | exact this) GW232.out); have hn233_5 : ad233.block ≠ gb232 := Nat.ne_of_lt (Nat.lt_of_lt_of_le (by have := World.block_lt_of_cell? _ _ hx233_0; first | rwa [add_block] at this | exact this) GW232.out); have hn233_6 : ad233.block ≠ gb232 := Nat.ne_of_lt (Nat.lt_of_lt_of_le (by have := World.block_lt_of_cell? _ _ hx233_0; first | rwa [add_block] at this | exact this) GW232.out); have hn233_7 : ad233.block ≠ gb232 := Nat.ne_of_lt (Nat.lt_of_lt_of_le (by have := World.block_lt_of_cell? _ _ hx233_0; first | rwa [add_block] at this | exact this) GW232.out); have hn233_8 : ad233.block ≠ gb232 := Nat.ne_of_lt (Nat.lt_of_lt_of_le (by have := World.block_lt_of_cell? _ _ hx233_0; first | rwa [add_block] at this | exact this) GW232.out); replace hx233_0 := (HB.out.cell (World.block_lt_of_cell? w _ hx233_0)).trans hx233_0; replace hx233_1 := (HB.out.cell (World.block_lt_of_cell? w _ hx233_1)).trans hx233_1; replace hx233_2 := (HB.out.cell (World.block_lt_of_cell? w _ hx233_2)).trans hx233_2; replace hx233_3 := (HB.out.cell (World.block_lt_of_cell? w _ hx233_3)).trans hx233_3; replace hx233_4 := (HB.out.cell (World.block_lt_of_cell? w _ hx233_4)).trans hx233_4; replace hx233_5 := (HB.out.cell (World.block_lt_of_cell? w _ hx233_5)).trans hx233_5; replace hx233_6 := (HB.out.cell (World.block_lt_of_cell? w _ hx233_6)).trans hx233_6; replace hx233_7 := (HB.out.cell (World.block_lt_of_cell? w _ hx233_7)).trans hx233_7; replace hx233_8 := (HB.out.cell (World.block_lt_of_cell? w _ hx233_8)).trans hx233_8; have HR233_2 := Aside0.mk hi233_2; have HC233_2 := Aside0.mk hl233_2; clear hi233_2 hl233_2; have HR233_8 := Aside0.mk hi233_8; have HC233_8 := Aside0.mk hl233_8; clear hi233_8 hl233_8; replace hx233_0 := (cell_far (p := ⟨gb232, 0, none⟩) (by first | (rw [add_block]; exact hn233_0) | (show (Addr.add _ _).block ≠ _; rw [add_block]; exact hn233_0) | exact hn233_0) (.string ((rd_T45 l0 x17_1).f0))).trans hx233_0; replace hx233_1 := (cell_far (p := ⟨gb232, 0, none⟩) (by first | (rw [add_block]; exact hn233_0) | (show (Addr.add _ _).block ≠ _; rw [add_block]; exact hn233_0) | exact hn233_0) (.string ((rd_T45 l0 x17_1).f0))).trans hx233_1; replace hx233_2 := (cell_far (p := ⟨gb232, 0, none⟩) (by first | (rw [add_block]; exact hn233_0) | (show (Addr.add _ _).block ≠ _; rw [add_block]; exact hn233_0) | exact hn233_0) (.string ((rd_T45 l0 x17_1).f0))).trans hx233_2; replace hx233_3 := (cell_far (p := ⟨gb232, 0, none⟩) (by first | (rw [add_block]; exact hn233_0) | (show (Addr.add _ _).block ≠ _; rw [add_block]; exact hn233_0) | exact hn233_0) (.string ((rd_T45 l0 x17_1).f0))).trans hx233_3; replace hx233_4 := (cell_far (p := ⟨gb232, 0, none⟩) (by first | (rw [add_block]; exact hn233_0) | (show (Addr.add _ _).block ≠ _; rw [add_block]; exact hn233_0) | exact hn233_0) (.string ((rd_T45 l0 x17_1).f0))).trans hx233_4; replace hx233_5 := (cell_far (p := ⟨gb232, 0, none⟩) (by first | (rw [add_block]; exact hn233_0) | (show (Addr.add _ _).block ≠ _; rw [add_block]; exact hn233_0) | exact hn233_0) (.string ((rd_T45 l0 x17_1).f0))).trans hx233_5; replace hx233_6 := (cell_far (p := ⟨gb232, 0, none⟩) (by first | (rw [add_block]; exact hn233_0) | (show (Addr.add _ _).block ≠ _; rw [add_block]; exact hn233_0) | exact hn233_0) (.string ((rd_T45 l0 x17_1).f0))).trans hx233_6; replace hx233_7 := (cell_far (p := ⟨gb232, 0, none⟩) (by first | (rw [add_block]; exact hn233_0) | (show (Addr.add _ _).block ≠ _; rw [add_block]; exact hn233_0) | exact hn233_0) (.string ((rd_T45 l0 x17_1).f0))).trans hx233_7; replace hx233_8 := (cell_far (p := ⟨gb232, 0, none⟩) (by first | (rw [add_block]; exact hn233_0) | (show (Addr.add _ _).block ≠ _; rw [add_block]; exact hn233_0) | exact hn233_0) (.string ((rd_T45 l0 x17_1).f0))).trans hx233_8; replace hx233_0 := (cell_far (p := ⟨gb232, 1, none⟩) (by first | (rw [add_block]; exact hn233_1) | (show (Addr.add _ _).block ≠ _; rw [add_block]; exact hn233_1) | exact hn233_1) (.bool ((rd_T45 l0 x17_1).f1))).trans hx233_0; replace hx233_1 := (cell_far (p := ⟨gb232, 1, none⟩) (by first | (rw [add_block]; exact hn233_1) | (show (Addr.add _ _).block ≠ _; rw [add_block]; exact hn233_1) | exact hn233_1) (.bool ((rd_T45 l0 x17_1).f1))).trans hx233_1; replace hx233_2 := (cell_far (p := ⟨gb232, 1, none⟩) (by first | (rw [add_block]; exact hn233_1) | (show (Addr.add _ _).block ≠ _; rw [add_block]; exact hn233_1) | exact hn233_1) (.bool ((rd_T45 l0 x17_1).f1))).trans hx233_2; replace hx233_3 := (cell_far (p := ⟨gb232, 1, none⟩) (by first | (rw [add_block]; exact hn233_1) | (show (Addr.add _ _).block ≠ _; rw [add_block]; exact hn233_1) | exact hn233_1) (.bool ((rd_T45 l0 x17_1).f1))).trans hx233_3; replace hx233_4 := (cell_far (p := ⟨gb232, 1, none⟩) (by first | (rw [add_block]; exact hn233_1) | (show (Addr.add _ _).block ≠ _; rw [add_block]; exact hn233_1) | exact hn233_1) (.bool ((rd_T45 l0 x17_1).f1))).trans hx233_4; replace hx233_5 := (cell_far (p := ⟨gb232, 1, none⟩) (by first | (rw [add_block]; exact hn233_1) | (show (Addr.add _ _).block ≠ _; rw [add_block]; exact hn233_1) | exact hn233_1) (.bool ((rd_T45 l0 x17_1).f1))).trans hx233_5; replace hx233_6 := (cell_far (p := ⟨gb232, 1, none⟩) (by first | (rw [add_block]; exact hn233_1) | (show (Addr.add _ _).block ≠ _; rw [add_block]; exact hn233_1) | exact hn233_1) (.bool ((rd_T45 l0 x17_1).f1))).trans hx233_6; replace hx233_7 := (cell_far (p := ⟨gb232, 1, none⟩) (by first | (rw [add_block]; exact hn233_1) | (show (Addr.add _ _).block ≠ _; rw [add_block]; exact hn233_1) | exact hn233_1) (.bool ((rd_T45 l0 x17_1).f1))).trans hx233_7; replace hx233_8 := (cell_far (p := ⟨gb232, 1, none⟩) (by first | (rw [add_block]; exact hn233_1) | (show (Addr.add _ _).block ≠ _; rw [add_block]; exact hn233_1) | exact hn233_1) (.bool ((rd_T45 l0 x17_1).f1))).trans hx233_8; replace hx233_0 := (cell_far (p := ⟨gb232, 2, none⟩) (by first | (rw [add_block]; exact hn233_2) | (show (Addr.add _ _).block ≠ _; rw [add_block]; exact hn233_2) | exact hn233_2) (.slice A231_2 ((rd_T45 l0 x17_1).f2).length c231_2)).trans hx233_0; replace hx233_1 := (cell_far (p := ⟨gb232, 2, none⟩) (by first | (rw [add_block]; exact hn233_2) | (show (Addr.add _ _).block ≠ _; rw [add_block]; exact hn233_2) | exact hn233_2) (.slice A231_2 ((rd_T45 l0 x17_1).f2).length c231_2)).trans hx233_1; replace hx233_2 := (cell_far (p := ⟨gb232, 2, none⟩) (by first | (rw [add_block]; exact hn233_2) | (show (Addr.add _ _).block ≠ _; rw [add_block]; exact hn233_2) | exact hn233_2) (.slice A231_2 ((rd_T45 l0 x17_1).f2).length c231_2)).trans hx233_2; replace hx233_3 := (cell_far (p := ⟨gb232, 2, none⟩) (by first | (rw [add_block]; exact hn233_2) | (show (Addr.add _ _).block ≠ _; rw [add_block]; exact hn233_2) | exact hn233_2) (.slice A231_2 ((rd_T45 l0 x17_1).f2).length c231_2)).trans hx233_3; replace hx233_4 := (cell_far (p := ⟨gb232, 2, none⟩) (by first | (rw [add_block]; exact hn233_2) | (show (Addr.add _ _).block ≠ _; rw [add_block]; exact hn233_2) | exact hn233_2) (.slice A231_2 ((rd_T45 l0 x17_1).f2).length c231_2)).trans hx233_4; replace hx233_5 := (cell_far (p := ⟨gb232, 2, none⟩) (by first | (rw [add_block]; exact hn233_2) | (show (Addr.add _ _).block ≠ _; rw [add_block]; exact hn233_2) | exact hn233_2) (.slice A231_2 ((rd_T45 l0 x17_1).f2).length c231_2)).trans hx233_5; replace hx233_6 := (cell_far (p := ⟨gb232, 2, none⟩) (by first | (rw [add_block]; exact hn233_2) | (show (Addr.add _ _).block ≠ _; rw [add_block]; exact hn233_2) | exact hn233_2) (.slice A231_2 ((rd_T45 l0 x17_1).f2).length c231_2)).trans hx233_6; replace hx233_7 := (cell_far (p := ⟨gb232, 2, none⟩) (by first | (rw [add_block]; exact hn233_2) | (show (Addr.add _ _).block ≠ _; rw [add_block]; exact hn233_2) | exact hn233_2) (.slice A231_2 ((rd_T45 l0 x17_1).f2).length c231_2)).trans hx233_7; replace hx233_8 := (cell_far (p := ⟨gb232, 2, none⟩) (by first | (rw [add_block]; exact hn233_2) | (show (Addr.add _ _).block ≠ _; rw [add_block]; exact hn233_2) | exact hn233_2) (.slice A231_2 ((rd_T45 l0 x17_1).f2).length c231_2)).trans hx233_8; replace hx233_0 := (cell_far (p := ⟨gb232, 3, none⟩) (by first | (rw [add_block]; exact hn233_3) | (show (Addr.add _ _).block ≠ _; rw [add_block]; exact hn233_3) | exact hn233_3) (.int .i64 ((rd_T45 l0 x17_1).f3))).trans hx233_0; replace hx233_1 := (cell_far (p := ⟨gb232, 3, none⟩) (by first | (rw [add_block]; exact hn233_3) | (show (Addr.add _ _).block ≠ _; rw [add_block]; exact hn233_3) | exact hn233_3) (.int .i64 ((rd_T45 l0 x17_1).f3))).trans hx233_1; replace hx233_2 := (cell_far (p := ⟨gb232, 3, none⟩) (by first | (rw [add_block]; exact hn233_3) | (show (Addr.add _ _).block ≠ _; rw [add_block]; exact hn233_3) | exact hn233_3) (.int .i64 ((rd_T45 l0 x17_1).f3))).trans hx233_2; replace hx233_3 := (cell_far (p := ⟨gb232, 3, none⟩) (by first | (rw [add_block]; exact hn233_3) | (show (Addr.add _ _).block ≠ _; rw [add_block]; exact hn233_3) | exact hn233_3) (.int .i64 ((rd_T45 l0 x17_1).f3))).trans hx233_3; replace hx233_4 := (cell_far (p := ⟨gb232, 3, none⟩) (by first | (rw [add_block]; exact hn233_3) | (show (Addr.add _ _).block ≠ _; rw [add_block]; exact hn233_3) | exact hn233_3) (.int .i64 ((rd_T45 l0 x17_1).f3))).trans hx233_4; replace hx233_5 := (cell_far (p := ⟨gb232, 3, none⟩) (by first | (rw [add_block]; exact hn233_3) | (show (Addr.add _ _).block ≠ _; rw [add_block]; exact hn233_3) | exact hn233_3) (.int .i64 ((rd_T45 l0 x17_1).f3))).trans hx233_5; replace hx233_6 := (cell_far (p := ⟨gb232, 3, none⟩) (by first | (rw [add_block]; exact hn233_3) | (show (Addr.add _ _).block ≠ _; rw [add_block]; exact hn233_3) | exact hn233_3) (.int .i64 ((rd_T45 l0 x17_1).f3))).trans hx233_6; replace hx233_7 := (cell_far (p := ⟨gb232, 3, none⟩) (by first | (rw [add_block]; exact hn233_3) | (show (Addr.add _ _).block ≠ _; rw [add_block]; exact hn233_3) | exact hn233_3) (.int .i64 ((rd_T45 l0 x17_1).f3))).trans hx233_7; replace hx233_8 := (cell_far (p := ⟨gb232, 3, none⟩) (by first | (rw [add_block]; exact hn233_3) | (show (Addr.add _ _).block ≠ _; rw [add_block]; exact hn233_3) | exact hn233_3) (.int .i64 ((rd_T45 l0 x17_1).f3))).trans hx233_8; replace hx233_0 := (cell_far (p := ⟨gb232, 4, none⟩) (by first | (rw [add_block]; exact hn233_4) | (show (Addr.add _ _).block ≠ _; rw [add_block]; exact hn233_4) | exact hn233_4) (.int .i64 ((rd_T45 l0 x17_1).f4.f0))).trans hx233_0; replace hx233_1 := (cell_far (p := ⟨gb232, 4, none⟩) (by first | (rw [add_block]; exact hn233_4) | (show (Addr.add _ _).block ≠ _; rw [add_block]; exact hn233_4) | exact hn233_4) (.int .i64 ((rd_T45 l0 x17_1).f4.f0))).trans hx233_1; replace hx233_2 := (cell_far (p := ⟨gb232, 4, none⟩) (by first | (rw [add_block]; exact hn233_4) | (show (Addr.add _ _).block ≠ _; rw [add_block]; exact hn233_4) | exact hn233_4) (.int .i64 ((rd_T45 l0 x17_1).f4.f0))).trans hx233_2; replace hx233_3 := (cell_far (p := ⟨gb232, 4, none⟩) (by first | (rw [add_block]; exact hn233_4) | (show (Addr.add _ _).block ≠ _; rw [add_block]; exact hn233_4) | exact hn233_4) (.int .i64 ((rd_T45 l0 x17_1).f4.f0))).trans hx233_3; replace hx233_4 := (cell_far (p := ⟨gb232, 4, none⟩) (by first | (rw [add_block]; exact hn233_4) | (show (Addr.add _ _).block ≠ _; rw [add_block]; exact hn233_4) | exact hn233_4) (.int .i64 ((rd_T45 l0 x17_1).f4.f0))).trans hx233_4; replace hx233_5 := (cell_far (p := ⟨gb232, 4, none⟩) (by first | (rw [add_block]; exact hn233_4) | (show (Addr.add _ _).block ≠ _; rw [add_block]; exact hn233_4) | exact hn233_4) (.int .i64 ((rd_T45 l0 x17_1).f4.f0))).trans hx233_5; replace hx233_6 := (cell_far (p := ⟨gb232, 4, none⟩) (by first | (rw [add_block]; exact hn233_4) | (show (Addr.add _ _).block ≠ _; rw [add_block]; exact hn233_4) | exact hn233_4) (.int .i64 ((rd_T45 l0 x17_1).f4.f0))).trans hx233_6; replace hx233_7 := (cell_far (p := ⟨gb232, 4, none⟩) (by first | (rw [add_block]; exact hn233_4) | (show (Addr.add _ _).block ≠ _; rw [add_block]; exact hn233_4) | exact hn233_4) (.int .i64 ((rd_T45 l0 x17_1).f4.f0))).trans hx233_7; replace hx233_8 := (cell_far (p := ⟨gb232, 4, none⟩) (by first | (rw [add_block]; exact hn233_4) | (show (Addr.add _ _).block ≠ _; rw [add_block]; exact hn233_4) | exact hn233_4) (.int .i64 ((rd_T45 l0 x17_1).f4.f0))).trans hx233_8; replace hx233_0 := (cell_far (p := ⟨gb232, 5, none⟩) (by first | (rw [add_block]; exact hn233_5) | (show (Addr.add _ _).block ≠ _; rw [add_block]; exact hn233_5) | exact hn233_5) (.int .i64 ((rd_T45 l0 x17_1).f4.f1))).trans hx233_0; replace hx233_1 := (cell_far (p := ⟨gb232, 5, none⟩) (by first | (rw [add_block]; exact hn233_5) | (show (Addr.add _ _).block ≠ _; rw [add_block]; exact hn233_5) | exact hn233_5) (.int .i64 ((rd_T45 l0 x17_1).f4.f1))).trans hx233_1; replace hx233_2 := (cell_far (p := ⟨gb232, 5, none⟩) (by first | (rw [add_block]; exact hn233_5) | (show (Addr.add _ _).block ≠ _; rw [add_block]; exact hn233_5) | exact hn233_5) (.int .i64 ((rd_T45 l0 x17_1).f4.f1))).trans hx233_2; replace hx233_3 := (cell_far (p := ⟨gb232, 5, none⟩) (by first | (rw [add_block]; exact hn233_5) | (show (Addr.add _ _).block ≠ _; rw [add_block]; exact hn233_5) | exact hn233_5) (.int .i64 ((rd_T45 l0 x17_1).f4.f1))).trans hx233_3; replace hx233_4 := (cell_far (p := ⟨gb232, 5, none⟩) (by first | (rw [add_block]; exact hn233_5) | (show (Addr.add _ _).block ≠ _; rw [add_block]; exact hn233_5) | exact hn233_5) (.int .i64 ((rd_T45 l0 x17_1).f4.f1))).trans hx233_4; replace hx233_5 := (cell_far (p := ⟨gb232, 5, none⟩) (by first | (rw [add_block]; exact hn233_5) | (show (Addr.add _ _).block ≠ _; rw [add_block]; exact hn233_5) | exact hn233_5) (.int .i64 ((rd_T45 l0 x17_1).f4.f1))).trans hx233_5; replace hx233_6 := (cell_far (p := ⟨gb232, 5, none⟩) (by first | (rw [add_block]; exact hn233_5) | (show (Addr.add _ _).block ≠ _; rw [add_block]; exact hn233_5) | exact hn233_5) (.int .i64 ((rd_T45 l0 x17_1).f4.f1))).trans hx233_6; replace hx233_7 := (cell_far (p := ⟨gb232, 5, none⟩) (by first | (rw [add_block]; exact hn233_5) | (show (Addr.add _ _).block ≠ _; rw [add_block]; exact hn233_5) | exact hn233_5) (.int .i64 ((rd_T45 l0 x17_1).f4.f1))).trans hx233_7; replace hx233_8 := (cell_far (p := ⟨gb232, 5, none⟩) (by first | (rw [add_block]; exact hn233_5) | (show (Addr.add _ _).block ≠ _; rw [add_block]; exact hn233_5) | exact hn233_5) (.int .i64 ((rd_T45 l0 x17_1).f4.f1))).trans hx233_8; replace hx233_0 := (cell_far (p := ⟨gb232, 6, none⟩) (by first | (rw [add_block]; exact hn233_6) | (show (Addr.add _ _).block ≠ _; rw [add_block]; exact hn233_6) | exact hn233_6) (.string ((rd_T45 l0 x17_1).f4.f2))).trans hx233_0; replace hx233_1 := (cell_far (p := ⟨gb232, 6, none⟩) (by first | (rw [add_block]; exact hn233_6) | (show (Addr.add _ _).block ≠ _; rw [add_block]; exact hn233_6) | exact hn233_6) (.string ((rd_T45 l0 x17_1).f4.f2))).trans hx233_1; replace hx233_2 := (cell_far (p := ⟨gb232, 6, none⟩) (by first | (rw [add_block]; exact hn233_6) | (show (Addr.add _ _).block ≠ _; rw [add_block]; exact hn233_6) | exact hn233_6) (.string ((rd_T45 l0 x17_1).f4.f2))).trans hx233_2; replace hx233_3 := (cell_far (p := ⟨gb232, 6, none⟩) (by first | (rw [add_block]; exact hn233_6) | (show (Addr.add _ _).block ≠ _; rw [add_block]; exact hn233_6) | exact hn233_6) (.string ((rd_T45 l0 x17_1).f4.f2))).trans hx233_3; replace hx233_4 := (cell_far (p := ⟨gb232, 6, none⟩) (by first | (rw [add_block]; exact hn233_6) | (show (Addr.add _ _).block ≠ _; rw [add_block]; exact hn233_6) | exact hn233_6) (.string ((rd_T45 l0 x17_1).f4.f2))).trans hx233_4; replace hx233_5 := (cell_far (p := ⟨gb232, 6, none⟩) (by first | (rw [add_block]; exact hn233_6) | (show (Addr.add _ _).block ≠ _; rw [add_block]; exact hn233_6) | exact hn233_6) (.string ((rd_T45 l0 x17_1).f4.f2))).trans hx233_5; replace hx233_6 := (cell_far (p := ⟨gb232, 6, none⟩) (by first | (rw [add_block]; exact hn233_6) | (show (Addr.add _ _).block ≠ _; rw [add_block]; exact hn233_6) | exact hn233_6) (.string ((rd_T45 l0 x17_1).f4.f2))).trans hx233_6; replace hx233_7 := (cell_far (p := ⟨gb232, 6, none⟩) (by first | (rw [add_block]; exact hn233_6) | (show (Addr.add _ _).block ≠ _; rw [add_block]; exact hn233_6) | exact hn233_6) (.string ((rd_T45 l0 x17_1).f4.f2))).trans hx233_7; replace hx233_8 := (cell_far (p := ⟨gb232, 6, none⟩) (by first | (rw [add_block]; exact hn233_6) | (show (Addr.add _ _).block ≠ _; rw [add_block]; exact hn233_6) | exact hn233_6) (.string ((rd_T45 l0 x17_1).f4.f2))).trans hx233_8; replace hx233_0 := (cell_far (p := ⟨gb232, 7, none⟩) (by first | (rw [add_block]; exact hn233_7) | (show (Addr.add _ _).block ≠ _; rw [add_block]; exact hn233_7) | exact hn233_7) (.string ((rd_T45 l0 x17_1).f4.f3))).trans hx233_0; replace hx233_1 := (cell_far (p := ⟨gb232, 7, none⟩) (by first | (rw [add_block]; exact hn233_7) | (show (Addr.add _ _).block ≠ _; rw [add_block]; exact hn233_7) | exact hn233_7) (.string ((rd_T45 l0 x17_1).f4.f3))).trans hx233_1; replace hx233_2 := (cell_far (p := ⟨gb232, 7, none⟩) (by first | (rw [add_block]; exact hn233_7) | (show (Addr.add _ _).block ≠ _; rw [add_block]; exact hn233_7) | exact hn233_7) (.string ((rd_T45 l0 x17_1).f4.f3))).trans hx233_2; replace hx233_3 := (cell_far (p := ⟨gb232, 7, none⟩) (by first | (rw [add_block]; exact hn233_7) | (show (Addr.add _ _).block ≠ _; rw [add_block]; exact hn233_7) | exact hn233_7) (.string ((rd_T45 l0 x17_1).f4.f3))).trans hx233_3; replace hx233_4 := (cell_far (p := ⟨gb232, 7, none⟩) (by first | (rw [add_block]; exact hn233_7) | (show (Addr.add _ _).block ≠ _; rw [add_block]; exact hn233_7) | exact hn233_7) (.string ((rd_T45 l0 x17_1).f4.f3))).trans hx233_4; replace hx233_5 := (cell_far (p := ⟨gb232, 7, none⟩) (by first | (rw [add_block]; exact hn233_7) | (show (Addr.add _ _).block ≠ _; rw [add_block]; exact hn233_7) | exact hn233_7) (.string ((rd_T45 l0 x17_1).f4.f3))).trans hx233_5; replace hx233_6 := (cell_far (p := ⟨gb232, 7, none⟩) (by first | (rw [add_block]; exact hn233_7) | (show (Addr.add _ _).block ≠ _; rw [add_block]; exact hn233_7) | exact hn233_7) (.string ((rd_T45 l0 x17_1).f4.f3))).trans hx233_6; replace hx233_7 := (cell_far (p := ⟨gb232, 7, none⟩) (by first | (rw [add_block]; exact hn233_7) | (show (Addr.add _ _).block ≠ _; rw [add_block]; exact hn233_7) | exact hn233_7) (.string ((rd_T45 l0 x17_1).f4.f3))).trans hx233_7; replace hx233_8 := (cell_far (p := ⟨gb232, 7, none⟩) (by first | (rw [add_block]; exact hn233_7) | (show (Addr.add _ _).block ≠ _; rw [add_block]; exact hn233_7) | exact hn233_7) (.string ((rd_T45 l0 x17_1).f4.f3))).trans hx233_8; replace hx233_0 := (cell_far (p := ⟨gb232, 8, none⟩) (by first | (rw [add_block]; exact hn233_8) | (show (Addr.add _ _).block ≠ _; rw [add_block]; exact hn233_8) | exact hn233_8) (.slice A231_8 ((rd_T45 l0 x17_1).f4.f4).length c231_8)).trans hx233_0; replace hx233_1 := (cell_far (p := ⟨gb232, 8, none⟩) (by first | (rw [add_block]; exact hn233_8) | (show (Addr.add _ _).block ≠ _; rw [add_block]; exact hn233_8) | exact hn233_8) (.slice A231_8 ((rd_T45 l0 x17_1).f4.f4).length c231_8)).trans hx233_1; replace hx233_2 := (cell_far (p := ⟨gb232, 8, none⟩) (by first | (rw [add_block]; exact hn233_8) | (show (Addr.add _ _).block ≠ _; rw [add_block]; exact hn233_8) | exact hn233_8) (.slice A231_8 ((rd_T45 l0 x17_1).f4.f4).length c231_8)).trans hx233_2; replace hx233_3 := (cell_far (p := ⟨gb232, 8, none⟩) (by first | (rw [add_block]; exact hn233_8) | (show (Addr.add _ _).block ≠ _; rw [add_block]; exact hn233_8) | exact hn233_8) (.slice A231_8 ((rd_T45 l0 x17_1).f4.f4).length c231_8)).trans hx233_3; replace hx233_4 := (cell_far (p := ⟨gb232, 8, none⟩) (by first | (rw [add_block]; exact hn233_8) | (show (Addr.add _ _).block ≠ _; rw [add_block]; exact hn233_8) | exact hn233_8) (.slice A231_8 ((rd_T45 l0 x17_1).f4.f4).length c231_8)).trans hx233_4; replace hx233_5 := (cell_far (p := ⟨gb232, 8, none⟩) (by first | (rw [add_block]; exact hn233_8) | (show (Addr.add _ _).block ≠ _; rw [add_block]; exact hn233_8) | exact hn233_8) (.slice A231_8 ((rd_T45 l0 x17_1).f4.f4).length c231_8)).trans hx233_5; replace hx233_6 := (cell_far (p := ⟨gb232, 8, none⟩) (by first | (rw [add_block]; exact hn233_8) | (show (Addr.add _ _).block ≠ _; rw [add_block]; exact hn233_8) | exact hn233_8) (.slice A231_8 ((rd_T45 l0 x17_1).f4.f4).length c231_8)).trans hx233_6; replace hx233_7 := (cell_far (p := ⟨gb232, 8, none⟩) (by first | (rw [add_block]; exact hn233_8) | (show (Addr.add _ _).block ≠ _; rw [add_block]; exact hn233_8) | exact hn233_8) (.slice A231_8 ((rd_T45 l0 x17_1).f4.f4).length c231_8)).trans hx233_7; replace hx233_8 := (cell_far (p := ⟨gb232, 8, none⟩) (by first | (rw [add_block]; exact hn233_8) | (show (Addr.add _ _).block ≠ _; rw [add_block]; exact hn233_8) | exact hn233_8) (.slice A231_8 ((rd_T45 l0 x17_1).f4.f4).length c231_8)).trans hx233_8; clear hn233_0; clear hn233_1; clear hn233_2; clear hn233_3; clear hn233_4; clear hn233_5; clear hn233_6; clear hn233_7; clear hn233_8; replace p233 := eq_true p233; replace q233 := eq_true q233) | ((with_reducible refine gate_dst (N := 9) rfl ?_); refine box_event ?hg (N := 9) ?hd (cs := #[.string (⟨#[]⟩ : ByteArray), .bool false, .slice none 0 0, .int .i64 0, .int .i64 0, .int .i64 0, .string (⟨#[]⟩ : ByteArray), .string (⟨#[]⟩ : ByteArray), .slice none 0 0]) (t := 45) ?hr ?_; (case hd => rfl); (case hg => rfl); (case hr => first | (go_simp; done) | (go_simp; rfl)); intro gb234 hg w20 hbox hb; have BK234 := Aside0.mk (hbox); have GW234 := Aside0.mk ((by rw [hg]; exact (below_size (Bp HB)) : w.heap.size ≤ gb234)); have GE234 := Aside0.mk ((by rw [hg]; exact (below_size (Bp HB)) : w.heap.size ≤ gb234)); replace HB := Bs HB hb; have NB232_234 := Aside0.mk ((by rw [hg]; exact Nat.ne_of_lt (blk_lt (g := gb232) (o := .cells #[.string ((rd_T45 l0 x17_1).f0), .bool ((rd_T45 l0 x17_1).f1), .slice A231_2 ((rd_T45 l0 x17_1).f2).length c231_2, .int .i64 ((rd_T45 l0 x17_1).f3), .int .i64 ((rd_T45 l0 x17_1).f4.f0), .int .i64 ((rd_T45 l0 x17_1).f4.f1), .string ((rd_T45 l0 x17_1).f4.f2), .string ((rd_T45 l0 x17_1).f4.f3), .slice A231_8 ((rd_T45 l0 x17_1).f4.f4).length c231_8] 45 (0, 0)) (by (with_reducible repeat (first | refine blk_drewN ?_ _ | refine blk_drew ?_ | refine blk_alloc ?_ _)); refine blk_put (cs := #[.string ((rd_T45 l0 x17_1).f0), .bool ((rd_T45 l0 x17_1).f1), .slice A231_2 ((rd_T45 l0 x17_1).f2).length c231_2, .int .i64 ((rd_T45 l0 x17_1).f3), .int .i64 ((rd_T45 l0 x17_1).f4.f0), .int .i64 ((rd_T45 l0 x17_1).f4.f1), .string ((rd_T45 l0 x17_1).f4.f2), .string ((rd_T45 l0 x17_1).f4.f3), .slice none 0 0]) ?_ 8 _ rfl; (with_reducible repeat (first | refine blk_drewN ?_ _ | refine blk_drew ?_ | refine blk_alloc ?_ _)); refine blk_put (cs := #[.string ((rd_T45 l0 x17_1).f0), .bool ((rd_T45 l0 x17_1).f1), .slice A231_2 ((rd_T45 l0 x17_1).f2).length c231_2, .int .i64 ((rd_T45 l0 x17_1).f3), .int .i64 ((rd_T45 l0 x17_1).f4.f0), .int .i64 ((rd_T45 l0 x17_1).f4.f1), .string ((rd_T45 l0 x17_1).f4.f2), .string (⟨#[]⟩ : ByteArray), .slice none 0 0]) ?_ 7 _ rfl; (with_reducible repeat (first | refine blk_drewN ?_ _ | refine blk_drew ?_ | refine blk_alloc ?_ _)); refine blk_put (cs := #[.string ((rd_T45 l0 x17_1).f0), .bool ((rd_T45 l0 x17_1).f1), .slice A231_2 ((rd_T45 l0 x17_1).f2).length c231_2, .int .i64 ((rd_T45 l0 x17_1).f3), .int .i64 ((rd_T45 l0 x17_1).f4.f0), .int .i64 ((rd_T45 l0 x17_1).f4.f1), .string (⟨#[]⟩ : ByteArray), .string (⟨#[]⟩ : ByteArray), .slice none 0 0]) ?_ 6 _ rfl; (with_reducible repeat (first | refine blk_drewN ?_ _ | refine blk_drew ?_ | refine blk_alloc ?_ _)); refine blk_put (cs := #[.string ((rd_T45 l0 x17_1).f0), .bool ((rd_T45 l0 x17_1).f1), .slice A231_2 ((rd_T45 l0 x17_1).f2).length c231_2, .int .i64 ((rd_T45 l0 x17_1).f3), .int .i64 ((rd_T45 l0 x17_1).f4.f0), .int .i64 0, .string (⟨#[]⟩ : ByteArray), .string (⟨#[]⟩ : ByteArray), .slice none 0 0]) ?_ 5 _ rfl; (with_reducible repeat (first | refine blk_drewN ?_ _ | refine blk_drew ?_ | refine blk_alloc ?_ _)); refine blk_put (cs := #[.string ((rd_T45 l0 x17_1).f0), .bool ((rd_T45 l0 x17_1).f1), .slice A231_2 ((rd_T45 l0 x17_1).f2).length c231_2, .int .i64 ((rd_T45 l0 x17_1).f3), .int .i64 0, .int .i64 0, .string (⟨#[]⟩ : ByteArray), .string (⟨#[]⟩ : ByteArray), .slice none 0 0]) ?_ 4 _ rfl; (with_reducible repeat (first | refine blk_drewN ?_ _ | refine blk_drew ?_ | refine blk_alloc ?_ _)); refine blk_put (cs := #[.string ((rd_T45 l0 x17_1).f0), .bool ((rd_T45 l0 x17_1).f1), .slice A231_2 ((rd_T45 l0 x17_1).f2).length c231_2, .int .i64 0, .int .i64 0, .int .i64 0, .string (⟨#[]⟩ : ByteArray), .string (⟨#[]⟩ : ByteArray), .slice none 0 0]) ?_ 3 _ rfl; (with_reducible repeat (first | refine blk_drewN ?_ _ | refine blk_drew ?_ | refine blk_alloc ?_ _)); refine blk_put (cs := #[.string ((rd_T45 l0 x17_1).f0), .bool ((rd_T45 l0 x17_1).f1), .slice none 0 0, .int .i64 0, .int .i64 0, .int .i64 0, .string (⟨#[]⟩ : ByteArray), .string (⟨#[]⟩ : ByteArray), .slice none 0 0]) ?_ 2 _ rfl; (with_reducible repeat (first | refine blk_drewN ?_ _ | refine blk_drew ?_ | refine blk_alloc ?_ _)); refine blk_put (cs := #[.string ((rd_T45 l0 x17_1).f0), .bool false, .slice none 0 0, .int .i64 0, .int .i64 0, .int .i64 0, .string (⟨#[]⟩ : ByteArray), .string (⟨#[]⟩ : ByteArray), .slice none 0 0]) ?_ 1 _ rfl; (with_reducible repeat (first | refine blk_drewN ?_ _ | refine blk_drew ?_ | refine blk_alloc ?_ _)); refine blk_put (cs := #[.string (⟨#[]⟩ : ByteArray), .bool false, .slice none 0 0, .int .i64 0, .int .i64 0, .int .i64 0, .string (⟨#[]⟩ : ByteArray), .string (⟨#[]⟩ : ByteArray), .slice none 0 0]) ?_ 0 _ rfl; (with_reducible repeat (first | refine blk_drewN ?_ _ | refine blk_drew ?_ | refine blk_alloc ?_ _)); exact BK232.out)) : gb232 ≠ gb234)); have NB234_232 := Aside0.mk ((by rw [hg]; exact Nat.ne_of_gt (blk_lt (g := gb232) (o := .cells #[.string ((rd_T45 l0 x17_1).f0), .bool ((rd_T45 l0 x17_1).f1), .slice A231_2 ((rd_T45 l0 x17_1).f2).length c231_2, .int .i64 ((rd_T45 l0 x17_1).f3), .int .i64 ((rd_T45 l0 x17_1).f4.f0), .int .i64 ((rd_T45 l0 x17_1).f4.f1), .string ((rd_T45 l0 x17_1).f4.f2), .string ((rd_T45 l0 x17_1).f4.f3), .slice A231_8 ((rd_T45 l0 x17_1).f4.f4).length c231_8] 45 (0, 0)) (by (with_reducible repeat (first | refine blk_drewN ?_ _ | refine blk_drew ?_ | refine blk_alloc ?_ _)); refine blk_put (cs := #[.string ((rd_T45 l0 x17_1).f0), .bool ((rd_T45 l0 x17_1).f1), .slice A231_2 ((rd_T45 l0 x17_1).f2).length c231_2, .int .i64 ((rd_T45 l0 x17_1).f3), .int .i64 ((rd_T45 l0 x17_1).f4.f0), .int .i64 ((rd_T45 l0 x17_1).f4.f1), .string ((rd_T45 l0 x17_1).f4.f2), .string ((rd_T45 l0 x17_1).f4.f3), .slice none 0 0]) ?_ 8 _ rfl; (with_reducible repeat (first | refine blk_drewN ?_ _ | refine blk_drew ?_ | refine blk_alloc ?_ _)); refine blk_put (cs := #[.string ((rd_T45 l0 x17_1).f0), .bool ((rd_T45 l0 x17_1).f1), .slice A231_2 ((rd_T45 l0 x17_1).f2).length c231_2, .int .i64 ((rd_T45 l0 x17_1).f3), .int .i64 ((rd_T45 l0 x17_1).f4.f0), .int .i64 ((rd_T45 l0 x17_1).f4.f1), .string ((rd_T45 l0 x17_1).f4.f2), .string (⟨#[]⟩ : ByteArray), .slice none 0 0]) ?_ 7 _ rfl; (with_reducible repeat (first | refine blk_drewN ?_ _ | refine blk_drew ?_ | refine blk_alloc ?_ _)); refine blk_put (cs := #[.string ((rd_T45 l0 x17_1).f0), .bool ((rd_T45 l0 x17_1).f1), .slice A231_2 ((rd_T45 l0 x17_1).f2).length c231_2, .int .i64 ((rd_T45 l0 x17_1).f3), .int .i64 ((rd_T45 l0 x17_1).f4.f0), .int .i64 ((rd_T45 l0 x17_1).f4.f1), .string (⟨#[]⟩ : ByteArray), .string (⟨#[]⟩ : ByteArray), .slice none 0 0]) ?_ 6 _ rfl; (with_reducible repeat (first | refine blk_drewN ?_ _ | refine blk_drew ?_ | refine blk_alloc ?_ _)); refine blk_put (cs := #[.string ((rd_T45 l0 x17_1).f0), .bool ((rd_T45 l0 x17_1).f1), .slice A231_2 ((rd_T45 l0 x17_1).f2).length c231_2, .int .i64 ((rd_T45 l0 x17_1).f3), .int .i64 ((rd_T45 l0 x17_1).f4.f0), .int .i64 0, .string (⟨#[]⟩ : ByteArray), .string (⟨#[]⟩ : ByteArray), .slice none 0 0]) ?_ 5 _ rfl; (with_reducible repeat (first | refine blk_drewN ?_ _ | refine blk_drew ?_ | refine blk_alloc ?_ _)); refine blk_put (cs := #[.string ((rd_T45 l0 x17_1).f0), .bool ((rd_T45 l0 x17_1).f1), .slice A231_2 ((rd_T45 l0 x17_1).f2).length c231_2, .int .i64 ((rd_T45 l0 x17_1).f3), .int .i64 0, .int .i64 0, .string (⟨#[]⟩ : ByteArray), .string (⟨#[]⟩ : ByteArray), .slice none 0 0]) ?_ 4 _ rfl; (with_reducible repeat (first | refine blk_drewN ?_ _ | refine blk_drew ?_ | refine blk_alloc ?_ _)); refine blk_put (cs := #[.string ((rd_T45 l0 x17_1).f0), .bool ((rd_T45 l0 x17_1).f1), .slice A231_2 ((rd_T45 l0 x17_1).f2).length c231_2, .int .i64 0, .int .i64 0, .int .i64 0, .string (⟨#[]⟩ : ByteArray), .string (⟨#[]⟩ : ByteArray), .slice none 0 0]) ?_ 3 _ rfl; (with_reducible repeat (first | refine blk_drewN ?_ _ | refine blk_drew ?_ | refine blk_alloc ?_ _)); refine blk_put (cs := #[.string ((rd_T45 l0 x17_1).f0), .bool ((rd_T45 l0 x17_1).f1), .slice none 0 0, .int .i64 0, .int .i64 0, .int .i64 0, .string (⟨#[]⟩ : ByteArray), .string (⟨#[]⟩ : ByteArray), .slice none 0 0]) ?_ 2 _ rfl; (with_reducible repeat (first | refine blk_drewN ?_ _ | refine blk_drew ?_ | refine blk_alloc ?_ _)); refine blk_put (cs := #[.string ((rd_T45 l0 x17_1).f0), .bool false, .slice none 0 0, .int .i64 0, .int .i64 0, .int .i64 0, .string (⟨#[]⟩ : ByteArray), .string (⟨#[]⟩ : ByteArray), .slice none 0 0]) ?_ 1 _ rfl; (with_reducible repeat (first | refine blk_drewN ?_ _ | refine blk_drew ?_ | refine blk_alloc ?_ _)); refine blk_put (cs := #[.string (⟨#[]⟩ : ByteArray), .bool false, .slice none 0 0, .int .i64 0, .int .i64 0, .int .i64 0, .string (⟨#[]⟩ : ByteArray), .string (⟨#[]⟩ : ByteArray), .slice none 0 0]) ?_ 0 _ rfl; (with_reducible repeat (first | refine blk_drewN ?_ _ | refine blk_drew ?_ | refine blk_alloc ?_ _)); exact BK232.out)) : gb234 ≠ gb232)); replace BK232 := Aside0.mk (blk_below (g := gb232) (o := .cells #[.string ((rd_T45 l0 x17_1).f0), .bool ((rd_T45 l0 x17_1).f1), .slice A231_2 ((rd_T45 l0 x17_1).f2).length c231_2, .int .i64 ((rd_T45 l0 x17_1).f3), .int .i64 ((rd_T45 l0 x17_1).f4.f0), .int .i64 ((rd_T45 l0 x17_1).f4.f1), .string ((rd_T45 l0 x17_1).f4.f2), .string ((rd_T45 l0 x17_1).f4.f3), .slice A231_8 ((rd_T45 l0 x17_1).f4.f4).length c231_8] 45 (0, 0)) (by (with_reducible repeat (first | refine blk_drewN ?_ _ | refine blk_drew ?_ | refine blk_alloc ?_ _)); refine blk_put (cs := #[.string ((rd_T45 l0 x17_1).f0), .bool ((rd_T45 l0 x17_1).f1), .slice A231_2 ((rd_T45 l0 x17_1).f2).length c231_2, .int .i64 ((rd_T45 l0 x17_1).f3), .int .i64 ((rd_T45 l0 x17_1).f4.f0), .int .i64 ((rd_T45 l0 x17_1).f4.f1), .string ((rd_T45 l0 x17_1).f4.f2), .string ((rd_T45 l0 x17_1).f4.f3), .slice none 0 0]) ?_ 8 _ rfl; (with_reducible repeat (first | refine blk_drewN ?_ _ | refine blk_drew ?_ | refine blk_alloc ?_ _)); refine blk_put (cs := #[.string ((rd_T45 l0 x17_1).f0), .bool ((rd_T45 l0 x17_1).f1), .slice A231_2 ((rd_T45 l0 x17_1).f2).length c231_2, .int .i64 ((rd_T45 l0 x17_1).f3), .int .i64 ((rd_T45 l0 x17_1).f4.f0), .int .i64 ((rd_T45 l0 x17_1).f4.f1), .string ((rd_T45 l0 x17_1).f4.f2), .string (⟨#[]⟩ : ByteArray), .slice none 0 0]) ?_ 7 _ rfl; (with_reducible repeat (first | refine blk_drewN ?_ _ | refine blk_drew ?_ | refine blk_alloc ?_ _)); refine blk_put (cs := #[.string ((rd_T45 l0 x17_1).f0), .bool ((rd_T45 l0 x17_1).f1), .slice A231_2 ((rd_T45 l0 x17_1).f2).length c231_2, .int .i64 ((rd_T45 l0 x17_1).f3), .int .i64 ((rd_T45 l0 x17_1).f4.f0), .int .i64 ((rd_T45 l0 x17_1).f4.f1), .string (⟨#[]⟩ : ByteArray), .string (⟨#[]⟩ : ByteArray), .slice none 0 0]) ?_ 6 _ rfl; (with_reducible repeat (first | refine blk_drewN ?_ _ | refine blk_drew ?_ | refine blk_alloc ?_ _)); refine blk_put (cs := #[.string ((rd_T45 l0 x17_1).f0), .bool ((rd_T45 l0 x17_1).f1), .slice A231_2 ((rd_T45 l0 x17_1).f2).length c231_2, .int .i64 ((rd_T45 l0 x17_1).f3), .int .i64 ((rd_T45 l0 x17_1).f4.f0), .int .i64 0, .string (⟨#[]⟩ : ByteArray), .string (⟨#[]⟩ : ByteArray), .slice none 0 0]) ?_ 5 _ rfl; (with_reducible repeat (first | refine blk_drewN ?_ _ | refine blk_drew ?_ | refine blk_alloc ?_ _)); refine blk_put (cs := #[.string ((rd_T45 l0 x17_1).f0), .bool ((rd_T45 l0 x17_1).f1), .slice A231_2 ((rd_T45 l0 x17_1).f2).length c231_2, .int .i64 ((rd_T45 l0 x17_1).f3), .int .i64 0, .int .i64 0, .string (⟨#[]⟩ : ByteArray), .string (⟨#[]⟩ : ByteArray), .slice none 0 0]) ?_ 4 _ rfl; (with_reducible repeat (first | refine blk_drewN ?_ _ | refine blk_drew ?_ | refine blk_alloc ?_ _)); refine blk_put (cs := #[.string ((rd_T45 l0 x17_1).f0), .bool ((rd_T45 l0 x17_1).f1), .slice A231_2 ((rd_T45 l0 x17_1).f2).length c231_2, .int .i64 0, .int .i64 0, .int .i64 0, .string (⟨#[]⟩ : ByteArray), .string (⟨#[]⟩ : ByteArray), .slice none 0 0]) ?_ 3 _ rfl; (with_reducible repeat (first | refine blk_drewN ?_ _ | refine blk_drew ?_ | refine blk_alloc ?_ _)); refine blk_put (cs := #[.string ((rd_T45 l0 x17_1).f0), .bool ((rd_T45 l0 x17_1).f1), .slice none 0 0, .int .i64 0, .int .i64 0, .int .i64 0, .string (⟨#[]⟩ : ByteArray), .string (⟨#[]⟩ : ByteArray), .slice none 0 0]) ?_ 2 _ rfl; (with_reducible repeat (first | refine blk_drewN ?_ _ | refine blk_drew ?_ | refine blk_alloc ?_ _)); refine blk_put (cs := #[.string ((rd_T45 l0 x17_1).f0), .bool false, .slice none 0 0, .int .i64 0, .int .i64 0, .int .i64 0, .string (⟨#[]⟩ : ByteArray), .string (⟨#[]⟩ : ByteArray), .slice none 0 0]) ?_ 1 _ rfl; (with_reducible repeat (first | refine blk_drewN ?_ _ | refine blk_drew ?_ | refine blk_alloc ?_ _)); refine blk_put (cs := #[.string (⟨#[]⟩ : ByteArray), .bool false, .slice none 0 0, .int .i64 0, .int .i64 0, .int .i64 0, .string (⟨#[]⟩ : ByteArray), .string (⟨#[]⟩ : ByteArray), .slice none 0 0]) ?_ 0 _ rfl; (with_reducible repeat (first | refine blk_drewN ?_ _ | refine blk_drew ?_ | refine blk_alloc ?_ _)); exact BK232.out) hb); clear hb hbox hg; have hnb21 := NB234_232.out; have hnc21 := NB232_234.out; obtain ⟨hcz22_0, hcz22_1, hcz22_2, hcz22_3, hcz22_4, hcz22_5, hcz22_6, hcz22_7, hcz22_8⟩ := bc9 (W := w20) BK234.out; obtain ⟨hfz22_0, hfz22_1, hfz22_2, hfz22_3, hfz22_4, hfz22_5, hfz22_6, hfz22_7, hfz22_8⟩ := bf9 BK234.out; obtain ⟨hcz23_0, hcz23_1, hcz23_2, hcz23_3, hcz23_4, hcz23_5, hcz23_6, hcz23_7, hcz23_8⟩ := bc9 (W := w20) BK232.out; obtain ⟨hfz23_0, hfz23_1, hfz23_2, hfz23_3, hfz23_4, hfz23_5, hfz23_6, hfz23_7, hfz23_8⟩ := bf9 BK232.out) | (go_at_call 56; (with_reducible refine (impl_sameFun.calls k1 ((rd_T45 l0 x17_1).f0) ((rd_T45 l0 x17_1).f1) _ _ ((rd_T45 l0 x17_1).f2) ((rd_T45 l0 x17_1).f3) ((rd_T45 l0 x17_1).f4.f0) ((rd_T45 l0 x17_1).f4.f1) ((rd_T45 l0 x17_1).f4.f2) ((rd_T45 l0 x17_1).f4.f3) _ _ ((rd_T45 l0 x17_1).f4.f4) ((rd_T45 l1 x17_1).f0) ((rd_T45 l1 x17_1).f1) _ _ ((rd_T45 l1 x17_1).f2) ((rd_T45 l1 x17_1).f3) ((rd_T45 l1 x17_1).f4.f0) ((rd_T45 l1 x17_1).f4.f1) ((rd_T45 l1 x17_1).f4.f2) ((rd_T45 l1 x17_1).f4.f3) _ _ ((rd_T45 l1 x17_1).f4.f4) false _ ?side1 ?side2 ?side3 ?side4 ?side5 ?side6 ?side7 ?side8 A9.out).mono ?_); (case side1 => exact Kd.C_below HR231_2.out (Bp HB)); (case side2 => exact HC231_2.out); (case side3 => exact Kd.C_below HR231_8.out (Bp HB)); (case side4 => exact HC231_8.out); (case side5 => exact Kd.C_below HR233_2.out (Bp HB)); (case side6 => exact HC233_2.out); (case side7 => exact Kd.C_below HR233_8.out (Bp HB)); (case side8 => exact HC233_8.out); rintro e w24 ⟨rfl, hb⟩; replace BK232 := Aside0.mk (blk_below (Kf BK232) hb); replace BK234 := Aside0.mk (blk_below (g := gb234) (o := .cells #[.string ((rd_T45 l1 x17_1).f0), .bool ((rd_T45 l1 x17_1).f1), .slice A233_2 ((rd_T45 l1 x17_1).f2).length c233_2, .int .i64 ((rd_T45 l1 x17_1).f3), .int .i64 ((rd_T45 l1 x17_1).f4.f0), .int .i64 ((rd_T45 l1 x17_1).f4.f1), .string ((rd_T45 l1 x17_1).f4.f2), .string ((rd_T45 l1 x17_1).f4.f3), .slice A233_8 ((rd_T45 l1 x17_1).f4.f4).length c233_8] 45 (0, 0)) (by (with_reducible repeat (first | refine blk_drewN ?_ _ | refine blk_drew ?_ | refine blk_alloc ?_ _)); refine blk_put (cs := #[.string ((rd_T45 l1 x17_1).f0), .bool ((rd_T45 l1 x17_1).f1), .slice A233_2 ((rd_T45 l1 x17_1).f2).length c233_2, .int .i64 ((rd_T45 l1 x17_1).f3), .int .i64 ((rd_T45 l1 x17_1).f4.f0), .int .i64 ((rd_T45 l1 x17_1).f4.f1), .string ((rd_T45 l1 x17_1).f4.f2), .string ((rd_T45 l1 x17_1).f4.f3), .slice none 0 0]) ?_ 8 _ rfl; (with_reducible repeat (first | refine blk_drewN ?_ _ | refine blk_drew ?_ | refine blk_alloc ?_ _)); refine blk_put (cs := #[.string ((rd_T45 l1 x17_1).f0), .bool ((rd_T45 l1 x17_1).f1), .slice A233_2 ((rd_T45 l1 x17_1).f2).length c233_2, .int .i64 ((rd_T45 l1 x17_1).f3), .int .i64 ((rd_T45 l1 x17_1).f4.f0), .int .i64 ((rd_T45 l1 x17_1).f4.f1), .string ((rd_T45 l1 x17_1).f4.f2), .string (⟨#[]⟩ : ByteArray), .slice none 0 0]) ?_ 7 _ rfl; (with_reducible repeat (first | refine blk_drewN ?_ _ | refine blk_drew ?_ | refine blk_alloc ?_ _)); refine blk_put (cs := #[.string ((rd_T45 l1 x17_1).f0), .bool ((rd_T45 l1 x17_1).f1), .slice A233_2 ((rd_T45 l1 x17_1).f2).length c233_2, .int .i64 ((rd_T45 l1 x17_1).f3), .int .i64 ((rd_T45 l1 x17_1).f4.f0), .int .i64 ((rd_T45 l1 x17_1).f4.f1), .string (⟨#[]⟩ : ByteArray), .string (⟨#[]⟩ : ByteArray), .slice none 0 0]) ?_ 6 _ rfl; (with_reducible repeat (first | refine blk_drewN ?_ _ | refine blk_drew ?_ | refine blk_alloc ?_ _)); refine blk_put (cs := #[.string ((rd_T45 l1 x17_1).f0), .bool ((rd_T45 l1 x17_1).f1), .slice A233_2 ((rd_T45 l1 x17_1).f2).length c233_2, .int .i64 ((rd_T45 l1 x17_1).f3), .int .i64 ((rd_T45 l1 x17_1).f4.f0), .int .i64 0, .string (⟨#[]⟩ : ByteArray), .string (⟨#[]⟩ : ByteArray), .slice none 0 0]) ?_ 5 _ rfl; (with_reducible repeat (first | refine blk_drewN ?_ _ | refine blk_drew ?_ | refine blk_alloc ?_ _)); refine blk_put (cs := #[.string ((rd_T45 l1 x17_1).f0), .bool ((rd_T45 l1 x17_1).f1), .slice A233_2 ((rd_T45 l1 x17_1).f2).length c233_2, .int .i64 ((rd_T45 l1 x17_1).f3), .int .i64 0, .int .i64 0, .string (⟨#[]⟩ : ByteArray), .string (⟨#[]⟩ : ByteArray), .slice none 0 0]) ?_ 4 _ rfl; (with_reducible repeat (first | refine blk_drewN ?_ _ | refine blk_drew ?_ | refine blk_alloc ?_ _)); refine blk_put (cs := #[.string ((rd_T45 l1 x17_1).f0), .bool ((rd_T45 l1 x17_1).f1), .slice A233_2 ((rd_T45 l1 x17_1).f2).length c233_2, .int .i64 0, .int .i64 0, .int .i64 0, .string (⟨#[]⟩ : ByteArray), .string (⟨#[]⟩ : ByteArray), .slice none 0 0]) ?_ 3 _ rfl; (with_reducible repeat (first | refine blk_drewN ?_ _ | refine blk_drew ?_ | refine blk_alloc ?_ _)); refine blk_put (cs := #[.string ((rd_T45 l1 x17_1).f0), .bool ((rd_T45 l1 x17_1).f1), .slice none 0 0, .int .i64 0, .int .i64 0, .int .i64 0, .string (⟨#[]⟩ : ByteArray), .string (⟨#[]⟩ : ByteArray), .slice none 0 0]) ?_ 2 _ rfl; (with_reducible repeat (first | refine blk_drewN ?_ _ | refine blk_drew ?_ | refine blk_alloc ?_ _)); refine blk_put (cs := #[.string ((rd_T45 l1 x17_1).f0), .bool false, .slice none 0 0, .int .i64 0, .int .i64 0, .int .i64 0, .string (⟨#[]⟩ : ByteArray), .string (⟨#[]⟩ : ByteArray), .slice none 0 0]) ?_ 1 _ rfl; (with_reducible repeat (first | refine blk_drewN ?_ _ | refine blk_drew ?_ | refine blk_alloc ?_ _)); refine blk_put (cs := #[.string (⟨#[]⟩ : ByteArray), .bool false, .slice none 0 0, .int .i64 0, .int .i64 0, .int .i64 0, .string (⟨#[]⟩ : ByteArray), .string (⟨#[]⟩ : ByteArray), .slice none 0 0]) ?_ 0 _ rfl; (with_reducible repeat (first | refine blk_drewN ?_ _ | refine blk_drew ?_ | refine blk_alloc ?_ _)); exact BK234.out) hb); replace HB := Bs HB hb; (try clear hb); (try clear hb2); (try clear hk); (try clear hi)))
                  go_ret
                  exact ⟨by first | rfl | (simp [errW_none, errW_some] <;> rfl) | (simp [*, errW_none, errW_some] <;> rfl), Bp HB⟩
              · rw [if_neg c8] at H
                exact absurd H (by simp)
            · rw [if_neg c7] at H
              exact absurd H (by simp)
          · rw [if_neg c6] at H
            exact absurd H (by simp)
        · rw [if_neg c5] at H
          have c5b0 : decide (x17_1 < (l0.length : Int)) = false := decide_eq_false c5
          clear c5
          obtain rfl := Option.some.inj H
          go_wp2
          go_ret
          exact ⟨by first | rfl | (simp [errW_none, errW_some] <;> rfl) | (simp [*, errW_none, errW_some] <;> rfl), Bp HB⟩
  · rw [if_neg c4] at H
    have c4b0 : ((l0.length : Int) == (l1.length : Int)) = false := beq_eq_false_iff_ne.mpr c4
    have c4b1 : ((l0.length : Int) != (l1.length : Int)) = true := bne_iff_ne.mpr c4
    have c4b2 : (l0.length == l1.length) = false := by first | simpa using c4 | (simp at c4 ⊢; omega)
    obtain rfl := Option.some.inj H
    go_enter Try.func55, Try.ntmps55
    go_wp2
    go_ret
    exact ⟨by first | rfl | (simp [errW_none, errW_some] <;> rfl) | (simp [*, errW_none, errW_some] <;> rfl), Bp HB⟩

/-! ### impl_TreeSame: function 15 -/
def impl_TreeSame.f (k : Nat) (l0_0 : List ByteArray) (l0_1 : List (S45)) (l0_2 : List (S43)) (l1_0 : List ByteArray) (l1_1 : List (S45)) (l1_2 : List (S43)) : Option (Bool) := (slices_Equal_string_string.f k l0_0 l1_0).bind fun t238 => (if t238 = true then ((slices_EqualFunc_impl_TreeFun__impl_sameFun.f k l0_1 l1_1).bind fun t239 => (if t239 = true then ((slices_EqualFunc_impl_TreeExpr__impl_sameExpr.f k l0_2 l1_2).bind fun t240 => (some t240)) else (some false))) else (some false))
theorem impl_TreeSame.mono : ∀ a0 a1 a2 a3 a4 a5 k, LeO (impl_TreeSame.f k a0 a1 a2 a3 a4 a5) (impl_TreeSame.f (k + 1) a0 a1 a2 a3 a4 a5) := by
  intro a0 a1 a2 a3 a4 a5 k
  unfold impl_TreeSame.f
  repeat' first
      | (with_reducible exact slices_EqualFunc_impl_TreeExpr__impl_sameExpr.mono _ _ _)
      | (with_reducible exact slices_EqualFunc_impl_TreeFun__impl_sameFun.mono _ _ _)
      | (with_reducible exact slices_Equal_string_string.mono _ _ _)
      | (with_reducible exact LeO.refl _)
      | (with_reducible exact LeO.none _)
      | (with_reducible refine LeO.ite ?_ ?_)
      | (with_reducible refine LeO.bind ?_ (fun _ => ?_))
      | exact slices_EqualFunc_impl_TreeExpr__impl_sameExpr.mono _ _ _
      | exact slices_EqualFunc_impl_TreeFun__impl_sameFun.mono _ _ _
      | exact slices_Equal_string_string.mono _ _ _
      | exact LeO.none _
      | refine LeO.ite ?_ ?_
      | refine LeO.bind ?_ (fun _ => ?_)
set_option maxHeartbeats 8000000 in
set_option maxRecDepth 100000 in
theorem impl_TreeSame.calls (k : Nat) (A0_0 : Option Addr) (c0_0 : Nat) (l0_0 : List ByteArray) (A0_1 : Option Addr) (c0_1 : Nat) (l0_1 : List (S45)) (A0_2 : Option Addr) (c0_2 : Nat) (l0_2 : List (S43)) (A1_0 : Option Addr) (c1_0 : Nat) (l1_0 : List ByteArray) (A1_1 : Option Addr) (c1_1 : Nat) (l1_1 : List (S45)) (A1_2 : Option Addr) (c1_2 : Nat) (l1_2 : List (S43)) (r : Bool) (w : World) (hr0_0 : Kd.C Kd.string w A0_0 l0_0.length l0_0) (hc0_0 : l0_0.length ≤ c0_0) (hr0_1 : Kd.C k45 w A0_1 l0_1.length l0_1) (hc0_1 : l0_1.length ≤ c0_1) (hr0_2 : Kd.C k43 w A0_2 l0_2.length l0_2) (hc0_2 : l0_2.length ≤ c0_2) (hr1_0 : Kd.C Kd.string w A1_0 l1_0.length l1_0) (hc1_0 : l1_0.length ≤ c1_0) (hr1_1 : Kd.C k45 w A1_1 l1_1.length l1_1) (hc1_1 : l1_1.length ≤ c1_1) (hr1_2 : Kd.C k43 w A1_2 l1_2.length l1_2) (hc1_2 : l1_2.length ≤ c1_2) (h : impl_TreeSame.f k l0_0 l0_1 l0_2 l1_0 l1_1 l1_2 = some r) :
    Calls Try.prog 15 #[.agg #[.slice A0_0 l0_0.length c0_0, .slice A0_1 l0_1.length c0_1, .slice A0_2 l0_2.length c0_2], .agg #[.slice A1_0 l1_0.length c1_0, .slice A1_1 l1_1.length c1_1, .slice A1_2 l1_2.length c1_2]] w fun e w' => e = .returned (.bool r) ∧ Below w.heap.size w w' := by
  have hu32 := Try.underlying32
  have HR0_0 := Aside0.mk hr0_0
  have HC0_0 := Aside0.mk hc0_0
  clear hr0_0 hc0_0
  have HR0_1 := Aside0.mk hr0_1
  have HC0_1 := Aside0.mk hc0_1
  clear hr0_1 hc0_1
  have HR0_2 := Aside0.mk hr0_2
  have HC0_2 := Aside0.mk hc0_2
  clear hr0_2 hc0_2
  have HR1_0 := Aside0.mk hr1_0
  have HC1_0 := Aside0.mk hc1_0
  clear hr1_0 hc1_0
  have HR1_1 := Aside0.mk hr1_1
  have HC1_1 := Aside0.mk hc1_1
  clear hr1_1 hc1_1
  have HR1_2 := Aside0.mk hr1_2
  have HC1_2 := Aside0.mk hc1_2
  clear hr1_2 hc1_2
  have HB := Aside0.mk (Below.refl w.heap.size w)
  have H : ((slices_Equal_string_string.f k l0_0 l1_0).bind fun t238 => (if t238 = true then ((slices_EqualFunc_impl_TreeFun__impl_sameFun.f k l0_1 l1_1).bind fun t239 => (if t239 = true then ((slices_EqualFunc_impl_TreeExpr__impl_sameExpr.f k l0_2 l1_2).bind fun t240 => (some t240)) else (some false))) else (some false))) = some r := h
  clear h
  replace H := Option.bind_eq_some_iff.mp H
  obtain ⟨t238, A30, H⟩ := H
  replace H : (if t238 = true then ((slices_EqualFunc_impl_TreeFun__impl_sameFun.f k l0_1 l1_1).bind fun t239 => (if t239 = true then ((slices_EqualFunc_impl_TreeExpr__impl_sameExpr.f k l0_2 l1_2).bind fun t240 => (some t240)) else (some false))) else (some false)) = some r := H
  have A3 := Aside0.mk A30
  clear A30
  by_cases c4 : t238 = true
  · subst c4
    have H1 : ((slices_EqualFunc_impl_TreeFun__impl_sameFun.f k l0_1 l1_1).bind fun t239 => (if t239 = true then ((slices_EqualFunc_impl_TreeExpr__impl_sameExpr.f k l0_2 l1_2).bind fun t240 => (some t240)) else (some false))) = some r := by rw [if_pos rfl] at H; exact H
    clear H
    have H := H1
    clear H1
    replace H := Option.bind_eq_some_iff.mp H
    obtain ⟨t239, A50, H⟩ := H
    replace H : (if t239 = true then ((slices_EqualFunc_impl_TreeExpr__impl_sameExpr.f k l0_2 l1_2).bind fun t240 => (some t240)) else (some false)) = some r := H
    have A5 := Aside0.mk A50
    clear A50
    by_cases c6 : t239 = true
    · subst c6
      have H1 : ((slices_EqualFunc_impl_TreeExpr__impl_sameExpr.f k l0_2 l1_2).bind fun t240 => (some t240)) = some r := by rw [if_pos rfl] at H; exact H
      clear H
      have H := H1
      clear H1
      replace H := Option.bind_eq_some_iff.mp H
      obtain ⟨t240, A70, H⟩ := H
      replace H : (some t240) = some r := H
      have A7 := Aside0.mk A70
      clear A70
      obtain rfl := Option.some.inj H
      go_enter Try.func15, Try.ntmps15
      go_wp2_with (first | ((with_reducible refine gate_dst (N := 2) rfl ?_); refine box_event ?hg (N := 2) ?hd (cs := #[.slice A0_0 l0_0.length c0_0, .slice A0_1 l0_1.length c0_1, .slice A0_2 l0_2.length c0_2]) (t := 32) ?hr ?_; (case hd => rfl); (case hg => rfl); (case hr => first | (go_simp; done) | (go_simp; rfl)); intro gb236 hg w8 hbox hb; have BK236 := Aside0.mk (hbox); have GW236 := Aside0.mk ((by rw [hg]; exact (below_size (Bp HB)) : w.heap.size ≤ gb236)); have GE236 := Aside0.mk ((by rw [hg]; exact (below_size (Bp HB)) : w.heap.size ≤ gb236)); replace HB := Bs HB hb; clear hb hbox hg) | ((with_reducible refine gate_dst (N := 3) rfl ?_); refine box_event ?hg (N := 3) ?hd (cs := #[.slice A1_0 l1_0.length c1_0, .slice A1_1 l1_1.length c1_1, .slice A1_2 l1_2.length c1_2]) (t := 32) ?hr ?_; (case hd => rfl); (case hg => rfl); (case hr => first | (go_simp; done) | (go_simp; rfl)); intro gb237 hg w9 hbox hb; have BK237 := Aside0.mk (hbox); have GW237 := Aside0.mk ((by rw [hg]; exact (below_size (Bp HB)) : w.heap.size ≤ gb237)); have GE237 := Aside0.mk ((by rw [hg]; exact (below_size (Bp HB)) : w.heap.size ≤ gb237)); replace HB := Bs HB hb; have NB236_237 := Aside0.mk ((by rw [hg]; exact Nat.ne_of_lt (blk_lt (Kp BK236)) : gb236 ≠ gb237)); have NB237_236 := Aside0.mk ((by rw [hg]; exact Nat.ne_of_gt (blk_lt (Kp BK236)) : gb237 ≠ gb236)); replace BK236 := Kb BK236 hb; clear hb hbox hg; have hnb10 := NB236_237.out; have hnc10 := NB237_236.out; obtain ⟨hcz11_0, hcz11_1, hcz11_2⟩ := bc3 (W := w9) BK236.out; obtain ⟨hfz11_0, hfz11_1, hfz11_2⟩ := bf3 BK236.out; obtain ⟨hcz12_0, hcz12_1, hcz12_2⟩ := bc3 (W := w9) BK237.out; obtain ⟨hfz12_0, hfz12_1, hfz12_2⟩ := bf3 BK237.out) | ((with_reducible refine gate_callee (f := 54) rfl ?_); refine goesL_ (some 9) rfl rfl Try.func54 (by kernel_rfl) rfl #[.slice A0_0 l0_0.length c0_0, .slice A1_0 l1_0.length c1_0] rfl (by (try simp only [List.map_toArray, List.map_cons, List.map_nil]); first | done | rfl | (simp only [List.length_drop, List.length_take]; rfl)) ?_; (with_reducible refine (slices_Equal_string_string.calls k _ _ l0_0 _ _ l1_0 true _ ?side1 ?side2 ?side3 ?side4 A3.out).mono ?_); (case side1 => exact Cb HR0_0 HB); (case side2 => exact HC0_0.out); (case side3 => exact Cb HR1_0 HB); (case side4 => exact HC1_0.out); rintro e w' ⟨rfl, ⟨nd, rfl⟩⟩; refine ⟨_, rfl, ?_⟩) | (go_at_call 55; (with_reducible refine (slices_EqualFunc_impl_TreeFun__impl_sameFun.calls k _ _ l0_1 _ _ l1_1  true _ ?side1 ?side2 ?side3 ?side4 A5.out).mono ?_); (case side1 => repeat (first | exact (Kd.C_below HR0_1.out (Bp HB)) | (with_reducible refine Kd.C_alloc ?_ _) | (with_reducible refine Kd.C_drewN ?_ _) | (with_reducible refine Kd.C_drew ?_))); (case side2 => exact HC0_1.out); (case side3 => repeat (first | exact (Kd.C_below HR1_1.out (Bp HB)) | (with_reducible refine Kd.C_alloc ?_ _) | (with_reducible refine Kd.C_drewN ?_ _) | (with_reducible refine Kd.C_drew ?_))); (case side4 => exact HC1_1.out); rintro e w13 ⟨rfl, hb⟩; replace BK236 := Kb BK236 hb; replace BK237 := Kb BK237 hb; replace HB := Bs HB hb; (try clear hb); (try clear hb2); (try clear hk); (try clear hi); obtain ⟨hcz14_0, hcz14_1, hcz14_2⟩ := bc3 (W := w13) BK236.out; obtain ⟨hfz14_0, hfz14_1, hfz14_2⟩ := bf3 BK236.out; obtain ⟨hcz15_0, hcz15_1, hcz15_2⟩ := bc3 (W := w13) BK237.out; obtain ⟨hfz15_0, hfz15_1, hfz15_2⟩ := bf3 BK237.out) | (go_at_call 57; (with_reducible refine (slices_EqualFunc_impl_TreeExpr__impl_sameExpr.calls k _ _ l0_2 _ _ l1_2  t240 _ ?side1 ?side2 ?side3 ?side4 A7.out).mono ?_); (case side1 => exact Cb HR0_2 HB); (case side2 => exact HC0_2.out); (case side3 => exact Cb HR1_2 HB); (case side4 => exact HC1_2.out); rintro e w16 ⟨rfl, hb⟩; replace BK236 := Kb BK236 hb; replace BK237 := Kb BK237 hb; replace HB := Bs HB hb; (try clear hb); (try clear hb2); (try clear hk); (try clear hi)))
      go_ret
      exact ⟨by first | rfl | (simp [errW_none, errW_some] <;> rfl) | (simp [*, errW_none, errW_some] <;> rfl), Bp HB⟩
    · replace c6 := Bool.eq_false_iff.mpr c6
      subst c6
      have H1 : (some false) = some r := by rw [if_neg (show ¬ (false = true) by decide)] at H; exact H
      clear H
      have H := H1
      clear H1
      obtain rfl := Option.some.inj H
      go_enter Try.func15, Try.ntmps15
      go_wp2_with (first | ((with_reducible refine gate_dst (N := 2) rfl ?_); refine box_event ?hg (N := 2) ?hd (cs := #[.slice A0_0 l0_0.length c0_0, .slice A0_1 l0_1.length c0_1, .slice A0_2 l0_2.length c0_2]) (t := 32) ?hr ?_; (case hd => rfl); (case hg => rfl); (case hr => first | (go_simp; done) | (go_simp; rfl)); intro gb236 hg w17 hbox hb; have BK236 := Aside0.mk (hbox); have GW236 := Aside0.mk ((by rw [hg]; exact (below_size (Bp HB)) : w.heap.size ≤ gb236)); have GE236 := Aside0.mk ((by rw [hg]; exact (below_size (Bp HB)) : w.heap.size ≤ gb236)); replace HB := Bs HB hb; clear hb hbox hg) | ((with_reducible refine gate_dst (N := 3) rfl ?_); refine box_event ?hg (N := 3) ?hd (cs := #[.slice A1_0 l1_0.length c1_0, .slice A1_1 l1_1.length c1_1, .slice A1_2 l1_2.length c1_2]) (t := 32) ?hr ?_; (case hd => rfl); (case hg => rfl); (case hr => first | (go_simp; done) | (go_simp; rfl)); intro gb237 hg w18 hbox hb; have BK237 := Aside0.mk (hbox); have GW237 := Aside0.mk ((by rw [hg]; exact (below_size (Bp HB)) : w.heap.size ≤ gb237)); have GE237 := Aside0.mk ((by rw [hg]; exact (below_size (Bp HB)) : w.heap.size ≤ gb237)); replace HB := Bs HB hb; have NB236_237 := Aside0.mk ((by rw [hg]; exact Nat.ne_of_lt (blk_lt (Kp BK236)) : gb236 ≠ gb237)); have NB237_236 := Aside0.mk ((by rw [hg]; exact Nat.ne_of_gt (blk_lt (Kp BK236)) : gb237 ≠ gb236)); replace BK236 := Kb BK236 hb; clear hb hbox hg; have hnb19 := NB236_237.out; have hnc19 := NB237_236.out; obtain ⟨hcz20_0, hcz20_1, hcz20_2⟩ := bc3 (W := w18) BK236.out; obtain ⟨hfz20_0, hfz20_1, hfz20_2⟩ := bf3 BK236.out; obtain ⟨hcz21_0, hcz21_1, hcz21_2⟩ := bc3 (W := w18) BK237.out; obtain ⟨hfz21_0, hfz21_1, hfz21_2⟩ := bf3 BK237.out) | ((with_reducible refine gate_callee (f := 54) rfl ?_); refine goesL_ (some 9) rfl rfl Try.func54 (by kernel_rfl) rfl #[.slice A0_0 l0_0.length c0_0, .slice A1_0 l1_0.length c1_0] rfl (by (try simp only [List.map_toArray, List.map_cons, List.map_nil]); first | done | rfl | (simp only [List.length_drop, List.length_take]; rfl)) ?_; (with_reducible refine (slices_Equal_string_string.calls k _ _ l0_0 _ _ l1_0 true _ ?side1 ?side2 ?side3 ?side4 A3.out).mono ?_); (case side1 => exact Cb HR0_0 HB); (case side2 => exact HC0_0.out); (case side3 => exact Cb HR1_0 HB); (case side4 => exact HC1_0.out); rintro e w' ⟨rfl, ⟨nd, rfl⟩⟩; refine ⟨_, rfl, ?_⟩) | (go_at_call 55; (with_reducible refine (slices_EqualFunc_impl_TreeFun__impl_sameFun.calls k _ _ l0_1 _ _ l1_1  false _ ?side1 ?side2 ?side3 ?side4 A5.out).mono ?_); (case side1 => repeat (first | exact (Kd.C_below HR0_1.out (Bp HB)) | (with_reducible refine Kd.C_alloc ?_ _) | (with_reducible refine Kd.C_drewN ?_ _) | (with_reducible refine Kd.C_drew ?_))); (case side2 => exact HC0_1.out); (case side3 => repeat (first | exact (Kd.C_below HR1_1.out (Bp HB)) | (with_reducible refine Kd.C_alloc ?_ _) | (with_reducible refine Kd.C_drewN ?_ _) | (with_reducible refine Kd.C_drew ?_))); (case side4 => exact HC1_1.out); rintro e w22 ⟨rfl, hb⟩; replace BK236 := Kb BK236 hb; replace BK237 := Kb BK237 hb; replace HB := Bs HB hb; (try clear hb); (try clear hb2); (try clear hk); (try clear hi)))
      go_ret
      exact ⟨by first | rfl | (simp [errW_none, errW_some] <;> rfl) | (simp [*, errW_none, errW_some] <;> rfl), Bp HB⟩
  · replace c4 := Bool.eq_false_iff.mpr c4
    subst c4
    have H1 : (some false) = some r := by rw [if_neg (show ¬ (false = true) by decide)] at H; exact H
    clear H
    have H := H1
    clear H1
    obtain rfl := Option.some.inj H
    go_enter Try.func15, Try.ntmps15
    go_wp2_with (first | ((with_reducible refine gate_dst (N := 2) rfl ?_); refine box_event ?hg (N := 2) ?hd (cs := #[.slice A0_0 l0_0.length c0_0, .slice A0_1 l0_1.length c0_1, .slice A0_2 l0_2.length c0_2]) (t := 32) ?hr ?_; (case hd => rfl); (case hg => rfl); (case hr => first | (go_simp; done) | (go_simp; rfl)); intro gb236 hg w23 hbox hb; have BK236 := Aside0.mk (hbox); have GW236 := Aside0.mk ((by rw [hg]; exact (below_size (Bp HB)) : w.heap.size ≤ gb236)); have GE236 := Aside0.mk ((by rw [hg]; exact (below_size (Bp HB)) : w.heap.size ≤ gb236)); replace HB := Bs HB hb; clear hb hbox hg) | ((with_reducible refine gate_dst (N := 3) rfl ?_); refine box_event ?hg (N := 3) ?hd (cs := #[.slice A1_0 l1_0.length c1_0, .slice A1_1 l1_1.length c1_1, .slice A1_2 l1_2.length c1_2]) (t := 32) ?hr ?_; (case hd => rfl); (case hg => rfl); (case hr => first | (go_simp; done) | (go_simp; rfl)); intro gb237 hg w24 hbox hb; have BK237 := Aside0.mk (hbox); have GW237 := Aside0.mk ((by rw [hg]; exact (below_size (Bp HB)) : w.heap.size ≤ gb237)); have GE237 := Aside0.mk ((by rw [hg]; exact (below_size (Bp HB)) : w.heap.size ≤ gb237)); replace HB := Bs HB hb; have NB236_237 := Aside0.mk ((by rw [hg]; exact Nat.ne_of_lt (blk_lt (Kp BK236)) : gb236 ≠ gb237)); have NB237_236 := Aside0.mk ((by rw [hg]; exact Nat.ne_of_gt (blk_lt (Kp BK236)) : gb237 ≠ gb236)); replace BK236 := Kb BK236 hb; clear hb hbox hg; have hnb25 := NB236_237.out; have hnc25 := NB237_236.out; obtain ⟨hcz26_0, hcz26_1, hcz26_2⟩ := bc3 (W := w24) BK236.out; obtain ⟨hfz26_0, hfz26_1, hfz26_2⟩ := bf3 BK236.out; obtain ⟨hcz27_0, hcz27_1, hcz27_2⟩ := bc3 (W := w24) BK237.out; obtain ⟨hfz27_0, hfz27_1, hfz27_2⟩ := bf3 BK237.out) | ((with_reducible refine gate_callee (f := 54) rfl ?_); refine goesL_ (some 9) rfl rfl Try.func54 (by kernel_rfl) rfl #[.slice A0_0 l0_0.length c0_0, .slice A1_0 l1_0.length c1_0] rfl (by (try simp only [List.map_toArray, List.map_cons, List.map_nil]); first | done | rfl | (simp only [List.length_drop, List.length_take]; rfl)) ?_; (with_reducible refine (slices_Equal_string_string.calls k _ _ l0_0 _ _ l1_0 false _ ?side1 ?side2 ?side3 ?side4 A3.out).mono ?_); (case side1 => exact Cb HR0_0 HB); (case side2 => exact HC0_0.out); (case side3 => exact Cb HR1_0 HB); (case side4 => exact HC1_0.out); rintro e w' ⟨rfl, ⟨nd, rfl⟩⟩; refine ⟨_, rfl, ?_⟩))
    go_ret
    exact ⟨by first | rfl | (simp [errW_none, errW_some] <;> rfl) | (simp [*, errW_none, errW_some] <;> rfl), Bp HB⟩

/-! ### laws_eqStringS: function 59 -/
def laws_eqStringS.l0 : Nat → List ByteArray → List ByteArray → Int → Option (Bool)
  | 0, _, _, _ => none
  | k + 1, x0, x1, x5 => if x5 < (x0.length : Int) then (if 0 ≤ x5 then (if x5 < (x1.length : Int) then (if (rdOf ByteArray.empty x0 x5).toList = (rdOf ByteArray.empty x1 x5).toList then (laws_eqStringS.l0 k x0 x1 (wrap64 (x5 + 1))) else (some false)) else (none)) else (none)) else (some true)
def laws_eqStringS.f (k : Nat) (l0 : List ByteArray) (l1 : List ByteArray) : Option (Bool) := if (l0.length : Int) = (l1.length : Int) then (laws_eqStringS.l0 k l0 l1 0) else (some false)
theorem laws_eqStringS.mono_l : ∀ k, (∀ y0 y1 y2, LeO (laws_eqStringS.l0 k y0 y1 y2) (laws_eqStringS.l0 (k + 1) y0 y1 y2))
  | 0 => fun _ _ _ r h => by simp [laws_eqStringS.l0] at h
  | k + 1 => by
    have ih0 := laws_eqStringS.mono_l k
    · intro y0 y1 y2
      unfold laws_eqStringS.l0
      repeat' first
      | (with_reducible exact ih0 _ _ _)
      | (with_reducible exact LeO.refl _)
      | (with_reducible exact LeO.none _)
      | (with_reducible refine LeO.ite ?_ ?_)
      | (with_reducible refine LeO.bind ?_ (fun _ => ?_))
      | exact ih0 _ _ _
      | exact LeO.none _
      | refine LeO.ite ?_ ?_
      | refine LeO.bind ?_ (fun _ => ?_)
theorem laws_eqStringS.mono : ∀ a0 a1 k, LeO (laws_eqStringS.f k a0 a1) (laws_eqStringS.f (k + 1) a0 a1) := by
  intro a0 a1 k
  have ih0 := laws_eqStringS.mono_l k
  unfold laws_eqStringS.f
  repeat' first
      | (with_reducible exact ih0 _ _ _)
      | (with_reducible exact LeO.refl _)
      | (with_reducible exact LeO.none _)
      | (with_reducible refine LeO.ite ?_ ?_)
      | (with_reducible refine LeO.bind ?_ (fun _ => ?_))
      | exact ih0 _ _ _
      | exact LeO.none _
      | refine LeO.ite ?_ ?_
      | refine LeO.bind ?_ (fun _ => ?_)
set_option maxHeartbeats 8000000 in
set_option maxRecDepth 100000 in
theorem laws_eqStringS.calls (k : Nat) (A0 : Option Addr) (c0 : Nat) (l0 : List ByteArray) (A1 : Option Addr) (c1 : Nat) (l1 : List ByteArray) (r : Bool) (w : World) (hr0 : Kd.C Kd.string w A0 l0.length l0) (hc0 : l0.length ≤ c0) (hr1 : Kd.C Kd.string w A1 l1.length l1) (hc1 : l1.length ≤ c1) (h : laws_eqStringS.f k l0 l1 = some r) :
    Calls Try.prog 59 #[.slice A0 l0.length c0, .slice A1 l1.length c1] w fun e w' => e = .returned (.bool r) ∧ Drawn0 w w' := by
  have HR0 := Aside0.mk hr0
  have HC0 := Aside0.mk hc0
  clear hr0 hc0
  have HR1 := Aside0.mk hr1
  have HC1 := Aside0.mk hc1
  clear hr1 hc1
  have H : (if (l0.length : Int) = (l1.length : Int) then (laws_eqStringS.l0 k l0 l1 0) else (some false)) = some r := h
  clear h
  by_cases c3 : (l0.length : Int) = (l1.length : Int)
  · rw [if_pos c3] at H
    have c3b0 : ((l0.length : Int) == (l1.length : Int)) = true := beq_iff_eq.mpr c3
    have c3b1 : ((l0.length : Int) != (l1.length : Int)) = false := bne_eq_false_iff_eq.mpr c3
    have c3b2 : (l0.length == l1.length) = true := by first | simpa using c3 | (simp at c3 ⊢; omega)
    clear c3
    have H' := Aside0.mk H
    clear H
    go_enter Try.func59, Try.ntmps59
    go_wp2
    repeat (go_quiet (fail); try go_wp2)
    go_loopg [5] k (fun kq v5 w' => ∃ (x5_1 : Int), v5 = .int .i64 x5_1 ∧ Aside0 (laws_eqStringS.l0 kq l0 l1 x5_1 = some r) ∧ Aside0 (kq ≤ k) ∧ Drawn0 w w')
    case atStart => exact ⟨(0), (by first | rfl | (simp; done) | (simp [*]; done)), H', ⟨Nat.le_refl _⟩, by repeat (first | exact Drawn0.refl _ | apply Drawn0.step)⟩
    case round =>
      clear H'
      try clear c1
      try clear p2
      try clear c3
      try clear c3b0
      try clear c3b1
      try clear c3b2
      obtain ⟨x5_1, rfl, HA, HK1, ⟨m1, rfl⟩⟩ := hrel
      cases gk with
      | zero => exact absurd HA.out (by simp [laws_eqStringS.l0])
      | succ k1 =>
        have H := HA.out
        clear HA
        simp only [laws_eqStringS.l0] at H
        by_cases c4 : x5_1 < (l0.length : Int)
        · rw [if_pos c4] at H
          have c4b0 : decide (x5_1 < (l0.length : Int)) = true := decide_eq_true c4
          clear c4
          by_cases c5 : 0 ≤ x5_1
          · rw [if_pos c5] at H
            have c5b0 : decide (0 ≤ x5_1) = true := decide_eq_true c5
            clear c5
            by_cases c6 : x5_1 < (l1.length : Int)
            · rw [if_pos c6] at H
              have c6b0 : decide (x5_1 < (l1.length : Int)) = true := decide_eq_true c6
              clear c6
              by_cases c7 : (rdOf ByteArray.empty l0 x5_1).toList = (rdOf ByteArray.empty l1 x5_1).toList
              · rw [if_pos c7] at H
                have c7b0 : ((rdOf ByteArray.empty l0 x5_1).toList == (rdOf ByteArray.empty l1 x5_1).toList) = true := beq_iff_eq.mpr c7
                have c7b1 : ((rdOf ByteArray.empty l0 x5_1).toList != (rdOf ByteArray.empty l1 x5_1).toList) = false := bne_eq_false_iff_eq.mpr c7
                clear c7
                have H' := Aside0.mk H
                clear H
                have p241 : 0 ≤ (x5_1 : Int) := of_decide_eq_true (by first | (with_reducible assumption) | assumption)
                have q241 : x5_1 < (l0.length : Int) := of_decide_eq_true (by first | (with_reducible assumption) | assumption)
                obtain ⟨ad241, e241, hx241_0⟩ := Kd.at_string HR0.out x5_1 p241 q241
                cases e241
                replace p241 := eq_true p241
                replace q241 := eq_true q241
                have p242 : 0 ≤ (x5_1 : Int) := of_decide_eq_true (by first | (with_reducible assumption) | assumption)
                have q242 : x5_1 < (l1.length : Int) := of_decide_eq_true (by first | (with_reducible assumption) | assumption)
                obtain ⟨ad242, e242, hx242_0⟩ := Kd.at_string HR1.out x5_1 p242 q242
                cases e242
                replace p242 := eq_true p242
                replace q242 := eq_true q242
                go_wp2
                repeat (go_quiet (fail); try go_wp2)
                go_roundg k1
                case measure => have := HK1.out; omega
                case rel => exact ⟨(wrap64 (x5_1 + 1)), (by first | rfl | (simp; done) | (simp [*]; done)), H', ⟨by have := HK1.out; omega⟩, by repeat (first | exact Drawn0.refl _ | apply Drawn0.step)⟩
              · rw [if_neg c7] at H
                have c7b0 : ((rdOf ByteArray.empty l0 x5_1).toList == (rdOf ByteArray.empty l1 x5_1).toList) = false := beq_eq_false_iff_ne.mpr c7
                have c7b1 : ((rdOf ByteArray.empty l0 x5_1).toList != (rdOf ByteArray.empty l1 x5_1).toList) = true := bne_iff_ne.mpr c7
                obtain rfl := Option.some.inj H
                have p241 : 0 ≤ (x5_1 : Int) := of_decide_eq_true (by first | (with_reducible assumption) | assumption)
                have q241 : x5_1 < (l0.length : Int) := of_decide_eq_true (by first | (with_reducible assumption) | assumption)
                obtain ⟨ad241, e241, hx241_0⟩ := Kd.at_string HR0.out x5_1 p241 q241
                cases e241
                replace p241 := eq_true p241
                replace q241 := eq_true q241
                have p242 : 0 ≤ (x5_1 : Int) := of_decide_eq_true (by first | (with_reducible assumption) | assumption)
                have q242 : x5_1 < (l1.length : Int) := of_decide_eq_true (by first | (with_reducible assumption) | assumption)
                obtain ⟨ad242, e242, hx242_0⟩ := Kd.at_string HR1.out x5_1 p242 q242
                cases e242
                replace p242 := eq_true p242
                replace q242 := eq_true q242
                go_wp2
                repeat (go_quiet (fail); try go_wp2)
                go_ret
                exact ⟨by first | rfl | (simp; done) | (simp [*]; done), by repeat (first | exact Drawn0.refl _ | apply Drawn0.step)⟩
            · rw [if_neg c6] at H
              exact absurd H (by simp)
          · rw [if_neg c5] at H
            exact absurd H (by simp)
        · rw [if_neg c4] at H
          have c4b0 : decide (x5_1 < (l0.length : Int)) = false := decide_eq_false c4
          clear c4
          obtain rfl := Option.some.inj H
          go_wp2
          repeat (go_quiet (fail); try go_wp2)
          go_ret
          exact ⟨by first | rfl | (simp; done) | (simp [*]; done), by repeat (first | exact Drawn0.refl _ | apply Drawn0.step)⟩
  · rw [if_neg c3] at H
    have c3b0 : ((l0.length : Int) == (l1.length : Int)) = false := beq_eq_false_iff_ne.mpr c3
    have c3b1 : ((l0.length : Int) != (l1.length : Int)) = true := bne_iff_ne.mpr c3
    have c3b2 : (l0.length == l1.length) = false := by first | simpa using c3 | (simp at c3 ⊢; omega)
    obtain rfl := Option.some.inj H
    go_enter Try.func59, Try.ntmps59
    go_wp2
    repeat (go_quiet (fail); try go_wp2)
    go_ret
    exact ⟨by first | rfl | (simp; done) | (simp [*]; done), by repeat (first | exact Drawn0.refl _ | apply Drawn0.step)⟩

/-! ### laws_eqTreeExprS: function 61 -/
/-! ### laws_eqTreeExpr: function 44 -/
mutual
def laws_eqTreeExprS.l0 : Nat → List (S43) → List (S43) → Int → Option (Bool)
  | 0, _, _, _ => none
  | k + 1, x0, x1, x5 => if x5 < (x0.length : Int) then (if 0 ≤ x5 then (if x5 < (x1.length : Int) then ((laws_eqTreeExpr.f k ((rd_T43 x0 x5).f0) ((rd_T43 x0 x5).f1) ((rd_T43 x0 x5).f2) ((rd_T43 x0 x5).f3) ((rd_T43 x0 x5).f4) ((rd_T43 x1 x5).f0) ((rd_T43 x1 x5).f1) ((rd_T43 x1 x5).f2) ((rd_T43 x1 x5).f3) ((rd_T43 x1 x5).f4)).bind fun t245 => (if t245 = true then (laws_eqTreeExprS.l0 k x0 x1 (wrap64 (x5 + 1))) else (some false))) else (none)) else (none)) else (some true)
def laws_eqTreeExprS.f : Nat → List (S43) → List (S43) → Option (Bool)
  | 0, _, _ => none
  | k + 1, l0, l1 => if (l0.length : Int) = (l1.length : Int) then (laws_eqTreeExprS.l0 k l0 l1 0) else (some false)
def laws_eqTreeExpr.f : Nat → Int → Int → ByteArray → ByteArray → List (S43) → Int → Int → ByteArray → ByteArray → List (S43) → Option (Bool)
  | 0, _, _, _, _, _, _, _, _, _, _ => none
  | k + 1, a0_0, a0_1, a0_2, a0_3, l0_4, a1_0, a1_1, a1_2, a1_3, l1_4 => if a0_0 = a1_0 then (if a0_1 = a1_1 then (if a0_2.toList = a1_2.toList then (if a0_3.toList = a1_3.toList then ((laws_eqTreeExprS.f k l0_4 l1_4).bind fun t248 => (if t248 = true then (some true) else (some false))) else (some false)) else (some false)) else (some false)) else (some false)
end
theorem laws_eqTreeExprS.mono_l : ∀ k, (∀ y0 y1, LeO (laws_eqTreeExprS.f k y0 y1) (laws_eqTreeExprS.f (k + 1) y0 y1)) ∧ (∀ y0 y1 y2, LeO (laws_eqTreeExprS.l0 k y0 y1 y2) (laws_eqTreeExprS.l0 (k + 1) y0 y1 y2)) ∧ (∀ y0 y1 y2 y3 y4 y5 y6 y7 y8 y9, LeO (laws_eqTreeExpr.f k y0 y1 y2 y3 y4 y5 y6 y7 y8 y9) (laws_eqTreeExpr.f (k + 1) y0 y1 y2 y3 y4 y5 y6 y7 y8 y9))
  | 0 => ⟨fun _ _ r h => by simp [laws_eqTreeExprS.f] at h, fun _ _ _ r h => by simp [laws_eqTreeExprS.l0] at h, fun _ _ _ _ _ _ _ _ _ _ r h => by simp [laws_eqTreeExpr.f] at h⟩
  | k + 1 => by
    obtain ⟨ih0, ih1, ih2⟩ := laws_eqTreeExprS.mono_l k
    refine ⟨?_, ?_, ?_⟩
    · intro y0 y1
      unfold laws_eqTreeExprS.f
      repeat' first
      | (with_reducible exact ih0 _ _)
      | (with_reducible exact ih1 _ _ _)
      | (with_reducible exact ih2 _ _ _ _ _ _ _ _ _ _)
      | (with_reducible exact LeO.refl _)
      | (with_reducible exact LeO.none _)
      | (with_reducible refine LeO.ite ?_ ?_)
      | (with_reducible refine LeO.bind ?_ (fun _ => ?_))
      | exact ih0 _ _
      | exact ih1 _ _ _
      | exact ih2 _ _ _ _ _ _ _ _ _ _
      | exact LeO.none _
      | refine LeO.ite ?_ ?_
      | refine LeO.bind ?_ (fun _ => ?_)
    · intro y0 y1 y2
      unfold laws_eqTreeExprS.l0
      repeat' first
      | (with_reducible exact ih0 _ _)
      | (with_reducible exact ih1 _ _ _)
      | (with_reducible exact ih2 _ _ _ _ _ _ _ _ _ _)
      | (with_reducible exact LeO.refl _)
      | (with_reducible exact LeO.none _)
      | (with_reducible refine LeO.ite ?_ ?_)
      | (with_reducible refine LeO.bind ?_ (fun _ => ?_))
      | exact ih0 _ _
      | exact ih1 _ _ _
      | exact ih2 _ _ _ _ _ _ _ _ _ _
      | exact LeO.none _
      | refine LeO.ite ?_ ?_
      | refine LeO.bind ?_ (fun _ => ?_)
    · intro y0 y1 y2 y3 y4 y5 y6 y7 y8 y9
      unfold laws_eqTreeExpr.f
      repeat' first
      | (with_reducible exact ih0 _ _)
      | (with_reducible exact ih1 _ _ _)
      | (with_reducible exact ih2 _ _ _ _ _ _ _ _ _ _)
      | (with_reducible exact LeO.refl _)
      | (with_reducible exact LeO.none _)
      | (with_reducible refine LeO.ite ?_ ?_)
      | (with_reducible refine LeO.bind ?_ (fun _ => ?_))
      | exact ih0 _ _
      | exact ih1 _ _ _
      | exact ih2 _ _ _ _ _ _ _ _ _ _
      | exact LeO.none _
      | refine LeO.ite ?_ ?_
      | refine LeO.bind ?_ (fun _ => ?_)
theorem laws_eqTreeExprS.mono : ∀ a0 a1 k, LeO (laws_eqTreeExprS.f k a0 a1) (laws_eqTreeExprS.f (k + 1) a0 a1) := by
  intro a0 a1 k
  obtain ⟨ih0, ih1, ih2⟩ := laws_eqTreeExprS.mono_l k
  exact ih0 a0 a1
theorem laws_eqTreeExpr.mono : ∀ a0 a1 a2 a3 a4 a5 a6 a7 a8 a9 k, LeO (laws_eqTreeExpr.f k a0 a1 a2 a3 a4 a5 a6 a7 a8 a9) (laws_eqTreeExpr.f (k + 1) a0 a1 a2 a3 a4 a5 a6 a7 a8 a9) := by
  intro a0 a1 a2 a3 a4 a5 a6 a7 a8 a9 k
  obtain ⟨ih0, ih1, ih2⟩ := laws_eqTreeExprS.mono_l k
  exact ih2 a0 a1 a2 a3 a4 a5 a6 a7 a8 a9

/-! ### laws_eqTreeExprS: function 61 -/
def laws_eqTreeExprS.T6 : Bool × List (List Nat × List Nat) := (true, [([], []), ([], []), ([0, 1], [0, 1]), ([2], [2]), ([], []), ([], []), ([4, 5], [4, 5]), ([6], [6]), ([3, 7], [3, 7]), ([8], [8])])
def laws_eqTreeExprS.B6 : List Nat := [0, 0, 3, 7, 0, 0, 48, 112, 255, 511]
theorem laws_eqTreeExprS.tab6 : rtab .any (opsOf Try.f61 6) = laws_eqTreeExprS.T6 := by kernel_rfl
theorem laws_eqTreeExprS.bits6 : waitsOk laws_eqTreeExprS.T6.2 laws_eqTreeExprS.B6 = true := by kernel_rfl
set_option maxHeartbeats 8000000 in
set_option maxRecDepth 100000 in
theorem laws_eqTreeExprS.calls_ (k : Nat)
    (ih : ∀ m_, m_ < k → ∀ (A0 : Option Addr) (c0 : Nat) (l0 : List (S43)) (A1 : Option Addr) (c1 : Nat) (l1 : List (S43)) (r : Bool) (w : World) (hr0 : Kd.C k43 w A0 l0.length l0) (hc0 : l0.length ≤ c0) (hr1 : Kd.C k43 w A1 l1.length l1) (hc1 : l1.length ≤ c1) (h : laws_eqTreeExprS.f m_ l0 l1 = some r), Calls Try.prog 61 #[.slice A0 l0.length c0, .slice A1 l1.length c1] w fun e w' => e = .returned (.bool r) ∧ Below w.heap.size w w')
    (ih_44 : ∀ m_, m_ < k → ∀ (a0_0 : Int) (a0_1 : Int) (a0_2 : ByteArray) (a0_3 : ByteArray) (A0_4 : Option Addr) (c0_4 : Nat) (l0_4 : List (S43)) (a1_0 : Int) (a1_1 : Int) (a1_2 : ByteArray) (a1_3 : ByteArray) (A1_4 : Option Addr) (c1_4 : Nat) (l1_4 : List (S43)) (r : Bool) (w : World) (hr0_4 : Kd.C k43 w A0_4 l0_4.length l0_4) (hc0_4 : l0_4.length ≤ c0_4) (hr1_4 : Kd.C k43 w A1_4 l1_4.length l1_4) (hc1_4 : l1_4.length ≤ c1_4) (h : laws_eqTreeExpr.f m_ a0_0 a0_1 a0_2 a0_3 l0_4 a1_0 a1_1 a1_2 a1_3 l1_4 = some r), Calls Try.prog 44 #[.agg #[.int .i64 a0_0, .int .i64 a0_1, .string a0_2, .string a0_3, .slice A0_4 l0_4.length c0_4], .agg #[.int .i64 a1_0, .int .i64 a1_1, .string a1_2, .string a1_3, .slice A1_4 l1_4.length c1_4]] w fun e w' => e = .returned (.bool r) ∧ Below w.heap.size w w') : ∀ (A0 : Option Addr) (c0 : Nat) (l0 : List (S43)) (A1 : Option Addr) (c1 : Nat) (l1 : List (S43)) (r : Bool) (w : World) (hr0 : Kd.C k43 w A0 l0.length l0) (hc0 : l0.length ≤ c0) (hr1 : Kd.C k43 w A1 l1.length l1) (hc1 : l1.length ≤ c1) (h : laws_eqTreeExprS.f k l0 l1 = some r),
    Calls Try.prog 61 #[.slice A0 l0.length c0, .slice A1 l1.length c1] w fun e w' => e = .returned (.bool r) ∧ Below w.heap.size w w' := by
  intro A0 c0 l0 A1 c1 l1 r w hr0 hc0 hr1 hc1 h
  cases k with
  | zero => exact absurd h (by simp [laws_eqTreeExprS.f])
  | succ k =>
  simp only [laws_eqTreeExprS.f] at h
  have hu43 := Try.underlying43
  have HR0 := Aside0.mk hr0
  have HC0 := Aside0.mk hc0
  clear hr0 hc0
  have HR1 := Aside0.mk hr1
  have HC1 := Aside0.mk hc1
  clear hr1 hc1
  have HB := Aside0.mk (Below.refl w.heap.size w)
  have H : (if (l0.length : Int) = (l1.length : Int) then (laws_eqTreeExprS.l0 k l0 l1 0) else (some false)) = some r := h
  clear h
  by_cases c3 : (l0.length : Int) = (l1.length : Int)
  · rw [if_pos c3] at H
    have c3b0 : ((l0.length : Int) == (l1.length : Int)) = true := beq_iff_eq.mpr c3
    have c3b1 : ((l0.length : Int) != (l1.length : Int)) = false := bne_eq_false_iff_eq.mpr c3
    have c3b2 : (l0.length == l1.length) = true := by first | simpa using c3 | (simp at c3 ⊢; omega)
    clear c3
    have H' := Aside0.mk H
    clear H
    go_enter Try.func61, Try.ntmps61
    go_wp2
    go_loopg [5] k (fun kq v5 w' => ∃ (x5_1 : Int), v5 = .int .i64 x5_1 ∧ Aside0 (laws_eqTreeExprS.l0 kq l0 l1 x5_1 = some r) ∧ Aside0 (kq ≤ k) ∧ Aside0 (Below w.heap.size w w'))
    case atStart => exact ⟨(0), (by first | rfl | (simp; done) | (simp [*]; done)), H', ⟨Nat.le_refl _⟩, ⟨Bp HB⟩⟩
    case round =>
      clear H'
      try clear c1
      try clear p2
      try clear c3
      try clear c3b0
      try clear c3b1
      try clear c3b2
      obtain ⟨x5_1, rfl, HA, HK1, HB⟩ := hrel
      cases gk with
      | zero => exact absurd HA.out (by simp [laws_eqTreeExprS.l0])
      | succ k1 =>
        have H := HA.out
        clear HA
        simp only [laws_eqTreeExprS.l0] at H
        by_cases c4 : x5_1 < (l0.length : Int)
        · rw [if_pos c4] at H
          have c4b0 : decide (x5_1 < (l0.length : Int)) = true := decide_eq_true c4
          clear c4
          by_cases c5 : 0 ≤ x5_1
          · rw [if_pos c5] at H
            have c5b0 : decide (0 ≤ x5_1) = true := decide_eq_true c5
            clear c5
            by_cases c6 : x5_1 < (l1.length : Int)
            · rw [if_pos c6] at H
              have c6b0 : decide (x5_1 < (l1.length : Int)) = true := decide_eq_true c6
              clear c6
              replace H := Option.bind_eq_some_iff.mp H
              obtain ⟨t245, A70, H⟩ := H
              replace H : (if t245 = true then (laws_eqTreeExprS.l0 k1 l0 l1 (wrap64 (x5_1 + 1))) else (some false)) = some r := H
              have A7 := Aside0.mk A70
              clear A70
              by_cases c8 : t245 = true
              · subst c8
                have H1 : (laws_eqTreeExprS.l0 k1 l0 l1 (wrap64 (x5_1 + 1))) = some r := by rw [if_pos rfl] at H; exact H
                clear H
                have H := H1
                clear H1
                have H' := Aside0.mk H
                clear H
                try go_wp2
                replace HB := Aside0.mk (below_drew1 HB.out)
                have p243 : 0 ≤ (x5_1 : Int) := of_decide_eq_true (by first | (with_reducible assumption) | assumption)
                have q243 : x5_1 < (l0.length : Int) := of_decide_eq_true (by first | (with_reducible assumption) | assumption)
                obtain ⟨ad243, A243_4, c243_4, e243, hx243_0, hx243_1, hx243_2, hx243_3, hx243_4, hl243_4, hi243_4⟩ := at_T43 HR0.out x5_1 p243 q243
                have hw243_4 := hx243_4
                have hw243_3 := hx243_3
                have hw243_2 := hx243_2
                have hw243_1 := hx243_1
                have hw243_0 := hx243_0
                cases e243
                replace hx243_0 := (HB.out.cell (World.block_lt_of_cell? w _ hx243_0)).trans hx243_0
                replace hx243_1 := (HB.out.cell (World.block_lt_of_cell? w _ hx243_1)).trans hx243_1
                replace hx243_2 := (HB.out.cell (World.block_lt_of_cell? w _ hx243_2)).trans hx243_2
                replace hx243_3 := (HB.out.cell (World.block_lt_of_cell? w _ hx243_3)).trans hx243_3
                replace hx243_4 := (HB.out.cell (World.block_lt_of_cell? w _ hx243_4)).trans hx243_4
                have HR243_4 := Aside0.mk hi243_4
                have HC243_4 := Aside0.mk hl243_4
                clear hi243_4 hl243_4
                replace p243 := eq_true p243
                replace q243 := eq_true q243
                have p244 : 0 ≤ (x5_1 : Int) := of_decide_eq_true (by first | (with_reducible assumption) | assumption)
                have q244 : x5_1 < (l1.length : Int) := of_decide_eq_true (by first | (with_reducible assumption) | assumption)
                obtain ⟨ad244, A244_4, c244_4, e244, hx244_0, hx244_1, hx244_2, hx244_3, hx244_4, hl244_4, hi244_4⟩ := at_T43 HR1.out x5_1 p244 q244
                have hw244_4 := hx244_4
                have hw244_3 := hx244_3
                have hw244_2 := hx244_2
                have hw244_1 := hx244_1
                have hw244_0 := hx244_0
                cases e244
                replace hx244_0 := (HB.out.cell (World.block_lt_of_cell? w _ hx244_0)).trans hx244_0
                replace hx244_1 := (HB.out.cell (World.block_lt_of_cell? w _ hx244_1)).trans hx244_1
                replace hx244_2 := (HB.out.cell (World.block_lt_of_cell? w _ hx244_2)).trans hx244_2
                replace hx244_3 := (HB.out.cell (World.block_lt_of_cell? w _ hx244_3)).trans hx244_3
                replace hx244_4 := (HB.out.cell (World.block_lt_of_cell? w _ hx244_4)).trans hx244_4
                have HR244_4 := Aside0.mk hi244_4
                have HC244_4 := Aside0.mk hl244_4
                clear hi244_4 hl244_4
                replace p244 := eq_true p244
                replace q244 := eq_true q244
                refine start_ (n := 10) (S := fun w' => w'.cell? (ad243.add ((x5_1).toNat * 5)) = some (.int .i64 ((rd_T43 l0 x5_1).f0)) ∧ w'.cell? ⟨(ad243.add ((x5_1).toNat * 5)).block, (ad243.add ((x5_1).toNat * 5)).off + 1, none⟩ = some (.int .i64 ((rd_T43 l0 x5_1).f1)) ∧ w'.cell? ⟨(ad243.add ((x5_1).toNat * 5)).block, (ad243.add ((x5_1).toNat * 5)).off + 2, none⟩ = some (.string ((rd_T43 l0 x5_1).f2)) ∧ w'.cell? ⟨(ad243.add ((x5_1).toNat * 5)).block, (ad243.add ((x5_1).toNat * 5)).off + 3, none⟩ = some (.string ((rd_T43 l0 x5_1).f3)) ∧ w'.cell? ⟨(ad243.add ((x5_1).toNat * 5)).block, (ad243.add ((x5_1).toNat * 5)).off + 4, none⟩ = some (.slice A243_4 ((rd_T43 l0 x5_1).f4).length c243_4) ∧ w'.cell? (ad244.add ((x5_1).toNat * 5)) = some (.int .i64 ((rd_T43 l1 x5_1).f0)) ∧ w'.cell? ⟨(ad244.add ((x5_1).toNat * 5)).block, (ad244.add ((x5_1).toNat * 5)).off + 1, none⟩ = some (.int .i64 ((rd_T43 l1 x5_1).f1)) ∧ w'.cell? ⟨(ad244.add ((x5_1).toNat * 5)).block, (ad244.add ((x5_1).toNat * 5)).off + 2, none⟩ = some (.string ((rd_T43 l1 x5_1).f2)) ∧ w'.cell? ⟨(ad244.add ((x5_1).toNat * 5)).block, (ad244.add ((x5_1).toNat * 5)).off + 3, none⟩ = some (.string ((rd_T43 l1 x5_1).f3)) ∧ w'.cell? ⟨(ad244.add ((x5_1).toNat * 5)).block, (ad244.add ((x5_1).toNat * 5)).off + 4, none⟩ = some (.slice A244_4 ((rd_T43 l1 x5_1).f4).length c244_4)) (ds := []) #[false, false, false, false, false, false, false, false, false, false] (by kernel_rfl) rfl rfl ⟨((HB.out.cell (World.block_lt_of_cell? w _ hw243_0)).trans hw243_0), ((HB.out.cell (World.block_lt_of_cell? w _ hw243_1)).trans hw243_1), ((HB.out.cell (World.block_lt_of_cell? w _ hw243_2)).trans hw243_2), ((HB.out.cell (World.block_lt_of_cell? w _ hw243_3)).trans hw243_3), ((HB.out.cell (World.block_lt_of_cell? w _ hw243_4)).trans hw243_4), ((HB.out.cell (World.block_lt_of_cell? w _ hw244_0)).trans hw244_0), ((HB.out.cell (World.block_lt_of_cell? w _ hw244_1)).trans hw244_1), ((HB.out.cell (World.block_lt_of_cell? w _ hw244_2)).trans hw244_2), ((HB.out.cell (World.block_lt_of_cell? w _ hw244_3)).trans hw244_3), ((HB.out.cell (World.block_lt_of_cell? w _ hw244_4)).trans hw244_4)⟩ (fun hHeld => ?_); refine with_tabW laws_eqTreeExprS.tab6 laws_eqTreeExprS.bits6 (fun HT_ HW_ => ?_)
                generalize wr.drew = w9 at HB HR243_4 HR244_4 hx243_0 hx243_1 hx243_2 hx243_3 hx243_4 hx244_0 hx244_1 hx244_2 hx244_3 hx244_4 hHeld ⊢
                refine pure_ (i := 0) (N := some 17) (v := ?_) (a' := ?_) #[true, false, false, false, false, false, false, false, false, false] rfl rfl (any_of HT_.out (by kernel_rfl)) (fun _ _ _ h => h) (Or.inl ⟨by rfl, ?_⟩) ?_ ?_
                rotate_left
                · intro w'
                  go_simp
                  with_reducible rfl
                rotate_left
                · simp only [Act.put, List.setIfInBounds_toArray, List.set_cons_zero, List.set_cons_succ, i64_w, i32_w]
                  rfl
                refine pure_ (i := 1) (N := some 18) (v := ?_) (a' := ?_) #[true, true, false, false, false, false, false, false, false, false] rfl rfl (any_of HT_.out (by kernel_rfl)) (fun _ _ _ h => h) (Or.inl ⟨by rfl, ?_⟩) ?_ ?_
                rotate_left
                · intro w'
                  go_simp
                  with_reducible rfl
                rotate_left
                · simp only [Act.put, List.setIfInBounds_toArray, List.set_cons_zero, List.set_cons_succ, i64_w, i32_w]
                  rfl
                refine pure_ (i := 2) (N := some 19) (v := ?_) (a' := ?_) #[true, true, true, false, false, false, false, false, false, false] rfl rfl (any_of HT_.out (by kernel_rfl)) (fun _ _ _ h => h) (Or.inl ⟨by rfl, ?_⟩) ?_ ?_
                rotate_left
                · intro w'
                  go_simp
                  with_reducible rfl
                rotate_left
                · simp only [Act.put, List.setIfInBounds_toArray, List.set_cons_zero, List.set_cons_succ, i64_w, i32_w]
                  rfl
                refine pure_ (i := 4) (N := some 21) (v := ?_) (a' := ?_) #[true, true, true, false, true, false, false, false, false, false] rfl rfl (any_of HT_.out (by kernel_rfl)) (fun _ _ _ h => h) (Or.inl ⟨by rfl, ?_⟩) ?_ ?_
                rotate_left
                · intro w'
                  go_simp
                  with_reducible rfl
                rotate_left
                · simp only [Act.put, List.setIfInBounds_toArray, List.set_cons_zero, List.set_cons_succ, i64_w, i32_w]
                  rfl
                refine pure_ (i := 5) (N := some 22) (v := ?_) (a' := ?_) #[true, true, true, false, true, true, false, false, false, false] rfl rfl (any_of HT_.out (by kernel_rfl)) (fun _ _ _ h => h) (Or.inl ⟨by rfl, ?_⟩) ?_ ?_
                rotate_left
                · intro w'
                  go_simp
                  with_reducible rfl
                rotate_left
                · simp only [Act.put, List.setIfInBounds_toArray, List.set_cons_zero, List.set_cons_succ, i64_w, i32_w]
                  rfl
                refine pure_ (i := 6) (N := some 23) (v := ?_) (a' := ?_) #[true, true, true, false, true, true, true, false, false, false] rfl rfl (any_of HT_.out (by kernel_rfl)) (fun _ _ _ h => h) (Or.inl ⟨by rfl, ?_⟩) ?_ ?_
                rotate_left
                · intro w'
                  go_simp
                  with_reducible rfl
                rotate_left
                · simp only [Act.put, List.setIfInBounds_toArray, List.set_cons_zero, List.set_cons_succ, i64_w, i32_w]
                  rfl
                refine take_ (i := 3) (N := some 20) (v := ?_) (a' := ?_) #[true, true, true, true, true, true, true, false, false, false] rfl rfl (take_ofW HT_.out HW_.out (by kernel_rfl)) (fun _ _ _ h => h) (Or.inl ⟨by rfl, ?_⟩) hHeld ?_ ?_
                rotate_left
                · rintro w' ⟨s0, s1, s2, s3, s4, s5, s6, s7, s8, s9⟩
                  go_simp
                  with_reducible rfl
                rotate_left
                · simp only [Act.put, List.setIfInBounds_toArray, List.set_cons_zero, List.set_cons_succ, i64_w, i32_w]
                  rfl
                refine take_ (i := 7) (N := some 24) (v := ?_) (a' := ?_) #[true, true, true, true, true, true, true, true, false, false] rfl rfl (take_ofW HT_.out HW_.out (by kernel_rfl)) (fun _ _ _ h => h) (Or.inl ⟨by rfl, ?_⟩) hHeld ?_ ?_
                rotate_left
                · rintro w' ⟨s0, s1, s2, s3, s4, s5, s6, s7, s8, s9⟩
                  go_simp
                  with_reducible rfl
                rotate_left
                · simp only [Act.put, List.setIfInBounds_toArray, List.set_cons_zero, List.set_cons_succ, i64_w, i32_w]
                  rfl
                refine one_ (i := 8) (N := some 25) #[true, true, true, true, true, true, true, true, true, false] rfl rfl (one_of HT_.out (by kernel_rfl)) (by decide) (fun K hK => ?_)
                refine goes_ Try.func44 (by kernel_rfl) rfl #[.agg #[.int .i64 ((rd_T43 l0 x5_1).f0), .int .i64 ((rd_T43 l0 x5_1).f1), .string ((rd_T43 l0 x5_1).f2), .string ((rd_T43 l0 x5_1).f3), .slice A243_4 ((rd_T43 l0 x5_1).f4).length c243_4], .agg #[.int .i64 ((rd_T43 l1 x5_1).f0), .int .i64 ((rd_T43 l1 x5_1).f1), .string ((rd_T43 l1 x5_1).f2), .string ((rd_T43 l1 x5_1).f3), .slice A244_4 ((rd_T43 l1 x5_1).f4).length c244_4]] (by rfl) rfl rfl (by (try simp only [List.map_toArray, List.map_cons, List.map_nil]); first | done | rfl | (simp only [List.length_drop, List.length_take]; rfl)) ?_
                with_reducible refine (ih_44 k1 (by have := HK1.out; omega) ((rd_T43 l0 x5_1).f0) ((rd_T43 l0 x5_1).f1) ((rd_T43 l0 x5_1).f2) ((rd_T43 l0 x5_1).f3) _ _ ((rd_T43 l0 x5_1).f4) ((rd_T43 l1 x5_1).f0) ((rd_T43 l1 x5_1).f1) ((rd_T43 l1 x5_1).f2) ((rd_T43 l1 x5_1).f3) _ _ ((rd_T43 l1 x5_1).f4) true _ ?side1 ?side2 ?side3 ?side4 A7.out).mono ?_
                (case side1 => exact Cb HR243_4 HB)
                (case side2 => exact HC243_4.out)
                (case side3 => exact Cb HR244_4 HB)
                (case side4 => exact HC244_4.out)
                rintro e w10 ⟨rfl, hb⟩
                refine ⟨_, rfl, ?_⟩
                replace HB := Bs HB hb
                (try clear hb)
                (try clear hb2)
                (try clear hk)
                (try clear hi)
                refine hK.out _ _ ⟨((HB.out.cell (World.block_lt_of_cell? w _ hw243_0)).trans hw243_0), ((HB.out.cell (World.block_lt_of_cell? w _ hw243_1)).trans hw243_1), ((HB.out.cell (World.block_lt_of_cell? w _ hw243_2)).trans hw243_2), ((HB.out.cell (World.block_lt_of_cell? w _ hw243_3)).trans hw243_3), ((HB.out.cell (World.block_lt_of_cell? w _ hw243_4)).trans hw243_4), ((HB.out.cell (World.block_lt_of_cell? w _ hw244_0)).trans hw244_0), ((HB.out.cell (World.block_lt_of_cell? w _ hw244_1)).trans hw244_1), ((HB.out.cell (World.block_lt_of_cell? w _ hw244_2)).trans hw244_2), ((HB.out.cell (World.block_lt_of_cell? w _ hw244_3)).trans hw244_3), ((HB.out.cell (World.block_lt_of_cell? w _ hw244_4)).trans hw244_4)⟩ (fun hHeld => ?_)
                clear hK K
                refine norm_ (a' := ?_) ?_ ?_
                rotate_left
                · show Act.put _ (some 25) _ = _
                  simp only [Act.put, List.setIfInBounds_toArray, List.set_cons_zero, List.set_cons_succ, i64_w, i32_w]
                  rfl
                refine pure_ (i := 9) (N := some 26) (v := ?_) (a' := ?_) #[true, true, true, true, true, true, true, true, true, true] rfl rfl (any_of HT_.out (by kernel_rfl)) (fun _ _ _ h => h) (Or.inl ⟨by rfl, ?_⟩) ?_ ?_
                rotate_left
                · intro w'
                  go_simp
                  with_reducible rfl
                rotate_left
                · simp only [Act.put, List.setIfInBounds_toArray, List.set_cons_zero, List.set_cons_succ, i64_w, i32_w]
                  rfl
                refine done_ (done_of HT_.out (by kernel_rfl)) ?_
                try go_wp2
                go_roundg k1
                case measure => have := HK1.out; omega
                case rel => exact ⟨(wrap64 (x5_1 + 1)), (by first | rfl | (simp; done) | (simp [*]; done)), H', ⟨by have := HK1.out; omega⟩, ⟨Bp HB⟩⟩
              · replace c8 := Bool.eq_false_iff.mpr c8
                subst c8
                have H1 : (some false) = some r := by rw [if_neg (show ¬ (false = true) by decide)] at H; exact H
                clear H
                have H := H1
                clear H1
                obtain rfl := Option.some.inj H
                try go_wp2
                replace HB := Aside0.mk (below_drew1 HB.out)
                have p243 : 0 ≤ (x5_1 : Int) := of_decide_eq_true (by first | (with_reducible assumption) | assumption)
                have q243 : x5_1 < (l0.length : Int) := of_decide_eq_true (by first | (with_reducible assumption) | assumption)
                obtain ⟨ad243, A243_4, c243_4, e243, hx243_0, hx243_1, hx243_2, hx243_3, hx243_4, hl243_4, hi243_4⟩ := at_T43 HR0.out x5_1 p243 q243
                have hw243_4 := hx243_4
                have hw243_3 := hx243_3
                have hw243_2 := hx243_2
                have hw243_1 := hx243_1
                have hw243_0 := hx243_0
                cases e243
                replace hx243_0 := (HB.out.cell (World.block_lt_of_cell? w _ hx243_0)).trans hx243_0
                replace hx243_1 := (HB.out.cell (World.block_lt_of_cell? w _ hx243_1)).trans hx243_1
                replace hx243_2 := (HB.out.cell (World.block_lt_of_cell? w _ hx243_2)).trans hx243_2
                replace hx243_3 := (HB.out.cell (World.block_lt_of_cell? w _ hx243_3)).trans hx243_3
                replace hx243_4 := (HB.out.cell (World.block_lt_of_cell? w _ hx243_4)).trans hx243_4
                have HR243_4 := Aside0.mk hi243_4
                have HC243_4 := Aside0.mk hl243_4
                clear hi243_4 hl243_4
                replace p243 := eq_true p243
                replace q243 := eq_true q243
                have p244 : 0 ≤ (x5_1 : Int) := of_decide_eq_true (by first | (with_reducible assumption) | assumption)
                have q244 : x5_1 < (l1.length : Int) := of_decide_eq_true (by first | (with_reducible assumption) | assumption)
                obtain ⟨ad244, A244_4, c244_4, e244, hx244_0, hx244_1, hx244_2, hx244_3, hx244_4, hl244_4, hi244_4⟩ := at_T43 HR1.out x5_1 p244 q244
                have hw244_4 := hx244_4
                have hw244_3 := hx244_3
                have hw244_2 := hx244_2
                have hw244_1 := hx244_1
                have hw244_0 := hx244_0
                cases e244
                replace hx244_0 := (HB.out.cell (World.block_lt_of_cell? w _ hx244_0)).trans hx244_0
                replace hx244_1 := (HB.out.cell (World.block_lt_of_cell? w _ hx244_1)).trans hx244_1
                replace hx244_2 := (HB.out.cell (World.block_lt_of_cell? w _ hx244_2)).trans hx244_2
                replace hx244_3 := (HB.out.cell (World.block_lt_of_cell? w _ hx244_3)).trans hx244_3
                replace hx244_4 := (HB.out.cell (World.block_lt_of_cell? w _ hx244_4)).trans hx244_4
                have HR244_4 := Aside0.mk hi244_4
                have HC244_4 := Aside0.mk hl244_4
                clear hi244_4 hl244_4
                replace p244 := eq_true p244
                replace q244 := eq_true q244
                refine start_ (n := 10) (S := fun w' => w'.cell? (ad243.add ((x5_1).toNat * 5)) = some (.int .i64 ((rd_T43 l0 x5_1).f0)) ∧ w'.cell? ⟨(ad243.add ((x5_1).toNat * 5)).block, (ad243.add ((x5_1).toNat * 5)).off + 1, none⟩ = some (.int .i64 ((rd_T43 l0 x5_1).f1)) ∧ w'.cell? ⟨(ad243.add ((x5_1).toNat * 5)).block, (ad243.add ((x5_1).toNat * 5)).off + 2, none⟩ = some (.string ((rd_T43 l0 x5_1).f2)) ∧ w'.cell? ⟨(ad243.add ((x5_1).toNat * 5)).block, (ad243.add ((x5_1).toNat * 5)).off + 3, none⟩ = some (.string ((rd_T43 l0 x5_1).f3)) ∧ w'.cell? ⟨(ad243.add ((x5_1).toNat * 5)).block, (ad243.add ((x5_1).toNat * 5)).off + 4, none⟩ = some (.slice A243_4 ((rd_T43 l0 x5_1).f4).length c243_4) ∧ w'.cell? (ad244.add ((x5_1).toNat * 5)) = some (.int .i64 ((rd_T43 l1 x5_1).f0)) ∧ w'.cell? ⟨(ad244.add ((x5_1).toNat * 5)).block, (ad244.add ((x5_1).toNat * 5)).off + 1, none⟩ = some (.int .i64 ((rd_T43 l1 x5_1).f1)) ∧ w'.cell? ⟨(ad244.add ((x5_1).toNat * 5)).block, (ad244.add ((x5_1).toNat * 5)).off + 2, none⟩ = some (.string ((rd_T43 l1 x5_1).f2)) ∧ w'.cell? ⟨(ad244.add ((x5_1).toNat * 5)).block, (ad244.add ((x5_1).toNat * 5)).off + 3, none⟩ = some (.string ((rd_T43 l1 x5_1).f3)) ∧ w'.cell? ⟨(ad244.add ((x5_1).toNat * 5)).block, (ad244.add ((x5_1).toNat * 5)).off + 4, none⟩ = some (.slice A244_4 ((rd_T43 l1 x5_1).f4).length c244_4)) (ds := []) #[false, false, false, false, false, false, false, false, false, false] (by kernel_rfl) rfl rfl ⟨((HB.out.cell (World.block_lt_of_cell? w _ hw243_0)).trans hw243_0), ((HB.out.cell (World.block_lt_of_cell? w _ hw243_1)).trans hw243_1), ((HB.out.cell (World.block_lt_of_cell? w _ hw243_2)).trans hw243_2), ((HB.out.cell (World.block_lt_of_cell? w _ hw243_3)).trans hw243_3), ((HB.out.cell (World.block_lt_of_cell? w _ hw243_4)).trans hw243_4), ((HB.out.cell (World.block_lt_of_cell? w _ hw244_0)).trans hw244_0), ((HB.out.cell (World.block_lt_of_cell? w _ hw244_1)).trans hw244_1), ((HB.out.cell (World.block_lt_of_cell? w _ hw244_2)).trans hw244_2), ((HB.out.cell (World.block_lt_of_cell? w _ hw244_3)).trans hw244_3), ((HB.out.cell (World.block_lt_of_cell? w _ hw244_4)).trans hw244_4)⟩ (fun hHeld => ?_); refine with_tabW laws_eqTreeExprS.tab6 laws_eqTreeExprS.bits6 (fun HT_ HW_ => ?_)
                generalize wr.drew = w11 at HB HR243_4 HR244_4 hx243_0 hx243_1 hx243_2 hx243_3 hx243_4 hx244_0 hx244_1 hx244_2 hx244_3 hx244_4 hHeld ⊢
                refine pure_ (i := 0) (N := some 17) (v := ?_) (a' := ?_) #[true, false, false, false, false, false, false, false, false, false] rfl rfl (any_of HT_.out (by kernel_rfl)) (fun _ _ _ h => h) (Or.inl ⟨by rfl, ?_⟩) ?_ ?_
                rotate_left
                · intro w'
                  go_simp
                  with_reducible rfl
                rotate_left
                · simp only [Act.put, List.setIfInBounds_toArray, List.set_cons_zero, List.set_cons_succ, i64_w, i32_w]
                  rfl
                refine pure_ (i := 1) (N := some 18) (v := ?_) (a' := ?_) #[true, true, false, false, false, false, false, false, false, false] rfl rfl (any_of HT_.out (by kernel_rfl)) (fun _ _ _ h => h) (Or.inl ⟨by rfl, ?_⟩) ?_ ?_
                rotate_left
                · intro w'
                  go_simp
                  with_reducible rfl
                rotate_left
                · simp only [Act.put, List.setIfInBounds_toArray, List.set_cons_zero, List.set_cons_succ, i64_w, i32_w]
                  rfl
                refine pure_ (i := 2) (N := some 19) (v := ?_) (a' := ?_) #[true, true, true, false, false, false, false, false, false, false] rfl rfl (any_of HT_.out (by kernel_rfl)) (fun _ _ _ h => h) (Or.inl ⟨by rfl, ?_⟩) ?_ ?_
                rotate_left
                · intro w'
                  go_simp
                  with_reducible rfl
                rotate_left
                · simp only [Act.put, List.setIfInBounds_toArray, List.set_cons_zero, List.set_cons_succ, i64_w, i32_w]
                  rfl
                refine pure_ (i := 4) (N := some 21) (v := ?_) (a' := ?_) #[true, true, true, false, true, false, false, false, false, false] rfl rfl (any_of HT_.out (by kernel_rfl)) (fun _ _ _ h => h) (Or.inl ⟨by rfl, ?_⟩) ?_ ?_
                rotate_left
                · intro w'
                  go_simp
                  with_reducible rfl
                rotate_left
                · simp only [Act.put, List.setIfInBounds_toArray, List.set_cons_zero, List.set_cons_succ, i64_w, i32_w]
                  rfl
                refine pure_ (i := 5) (N := some 22) (v := ?_) (a' := ?_) #[true, true, true, false, true, true, false, false, false, false] rfl rfl (any_of HT_.out (by kernel_rfl)) (fun _ _ _ h => h) (Or.inl ⟨by rfl, ?_⟩) ?_ ?_
                rotate_left
                · intro w'
                  go_simp
                  with_reducible rfl
                rotate_left
                · simp only [Act.put, List.setIfInBounds_toArray, List.set_cons_zero, List.set_cons_succ, i64_w, i32_w]
                  rfl
                refine pure_ (i := 6) (N := some 23) (v := ?_) (a' := ?_) #[true, true, true, false, true, true, true, false, false, false] rfl rfl (any_of HT_.out (by kernel_rfl)) (fun _ _ _ h => h) (Or.inl ⟨by rfl, ?_⟩) ?_ ?_
                rotate_left
                · intro w'
                  go_simp
                  with_reducible rfl
                rotate_left
                · simp only [Act.put, List.setIfInBounds_toArray, List.set_cons_zero, List.set_cons_succ, i64_w, i32_w]
                  rfl
                refine take_ (i := 3) (N := some 20) (v := ?_) (a' := ?_) #[true, true, true, true, true, true, true, false, false, false] rfl rfl (take_ofW HT_.out HW_.out (by kernel_rfl)) (fun _ _ _ h => h) (Or.inl ⟨by rfl, ?_⟩) hHeld ?_ ?_
                rotate_left
                · rintro w' ⟨s0, s1, s2, s3, s4, s5, s6, s7, s8, s9⟩
                  go_simp
                  with_reducible rfl
                rotate_left
                · simp only [Act.put, List.setIfInBounds_toArray, List.set_cons_zero, List.set_cons_succ, i64_w, i32_w]
                  rfl
                refine take_ (i := 7) (N := some 24) (v := ?_) (a' := ?_) #[true, true, true, true, true, true, true, true, false, false] rfl rfl (take_ofW HT_.out HW_.out (by kernel_rfl)) (fun _ _ _ h => h) (Or.inl ⟨by rfl, ?_⟩) hHeld ?_ ?_
                rotate_left
                · rintro w' ⟨s0, s1, s2, s3, s4, s5, s6, s7, s8, s9⟩
                  go_simp
                  with_reducible rfl
                rotate_left
                · simp only [Act.put, List.setIfInBounds_toArray, List.set_cons_zero, List.set_cons_succ, i64_w, i32_w]
                  rfl
                refine one_ (i := 8) (N := some 25) #[true, true, true, true, true, true, true, true, true, false] rfl rfl (one_of HT_.out (by kernel_rfl)) (by decide) (fun K hK => ?_)
                refine goes_ Try.func44 (by kernel_rfl) rfl #[.agg #[.int .i64 ((rd_T43 l0 x5_1).f0), .int .i64 ((rd_T43 l0 x5_1).f1), .string ((rd_T43 l0 x5_1).f2), .string ((rd_T43 l0 x5_1).f3), .slice A243_4 ((rd_T43 l0 x5_1).f4).length c243_4], .agg #[.int .i64 ((rd_T43 l1 x5_1).f0), .int .i64 ((rd_T43 l1 x5_1).f1), .string ((rd_T43 l1 x5_1).f2), .string ((rd_T43 l1 x5_1).f3), .slice A244_4 ((rd_T43 l1 x5_1).f4).length c244_4]] (by rfl) rfl rfl (by (try simp only [List.map_toArray, List.map_cons, List.map_nil]); first | done | rfl | (simp only [List.length_drop, List.length_take]; rfl)) ?_
                with_reducible refine (ih_44 k1 (by have := HK1.out; omega) ((rd_T43 l0 x5_1).f0) ((rd_T43 l0 x5_1).f1) ((rd_T43 l0 x5_1).f2) ((rd_T43 l0 x5_1).f3) _ _ ((rd_T43 l0 x5_1).f4) ((rd_T43 l1 x5_1).f0) ((rd_T43 l1 x5_1).f1) ((rd_T43 l1 x5_1).f2) ((rd_T43 l1 x5_1).f3) _ _ ((rd_T43 l1 x5_1).f4) false _ ?side1 ?side2 ?side3 ?side4 A7.out).mono ?_
                (case side1 => exact Cb HR243_4 HB)
                (case side2 => exact HC243_4.out)
                (case side3 => exact Cb HR244_4 HB)
                (case side4 => exact HC244_4.out)
                rintro e w12 ⟨rfl, hb⟩
                refine ⟨_, rfl, ?_⟩
                replace HB := Bs HB hb
                (try clear hb)
                (try clear hb2)
                (try clear hk)
                (try clear hi)
                refine hK.out _ _ ⟨((HB.out.cell (World.block_lt_of_cell? w _ hw243_0)).trans hw243_0), ((HB.out.cell (World.block_lt_of_cell? w _ hw243_1)).trans hw243_1), ((HB.out.cell (World.block_lt_of_cell? w _ hw243_2)).trans hw243_2), ((HB.out.cell (World.block_lt_of_cell? w _ hw243_3)).trans hw243_3), ((HB.out.cell (World.block_lt_of_cell? w _ hw243_4)).trans hw243_4), ((HB.out.cell (World.block_lt_of_cell? w _ hw244_0)).trans hw244_0), ((HB.out.cell (World.block_lt_of_cell? w _ hw244_1)).trans hw244_1), ((HB.out.cell (World.block_lt_of_cell? w _ hw244_2)).trans hw244_2), ((HB.out.cell (World.block_lt_of_cell? w _ hw244_3)).trans hw244_3), ((HB.out.cell (World.block_lt_of_cell? w _ hw244_4)).trans hw244_4)⟩ (fun hHeld => ?_)
                clear hK K
                refine norm_ (a' := ?_) ?_ ?_
                rotate_left
                · show Act.put _ (some 25) _ = _
                  simp only [Act.put, List.setIfInBounds_toArray, List.set_cons_zero, List.set_cons_succ, i64_w, i32_w]
                  rfl
                refine pure_ (i := 9) (N := some 26) (v := ?_) (a' := ?_) #[true, true, true, true, true, true, true, true, true, true] rfl rfl (any_of HT_.out (by kernel_rfl)) (fun _ _ _ h => h) (Or.inl ⟨by rfl, ?_⟩) ?_ ?_
                rotate_left
                · intro w'
                  go_simp
                  with_reducible rfl
                rotate_left
                · simp only [Act.put, List.setIfInBounds_toArray, List.set_cons_zero, List.set_cons_succ, i64_w, i32_w]
                  rfl
                refine done_ (done_of HT_.out (by kernel_rfl)) ?_
                try go_wp2
                go_ret
                exact ⟨by first | rfl | (simp [errW_none, errW_some] <;> rfl) | (simp [*, errW_none, errW_some] <;> rfl), Bp HB⟩
            · rw [if_neg c6] at H
              exact absurd H (by simp)
          · rw [if_neg c5] at H
            exact absurd H (by simp)
        · rw [if_neg c4] at H
          have c4b0 : decide (x5_1 < (l0.length : Int)) = false := decide_eq_false c4
          clear c4
          obtain rfl := Option.some.inj H
          go_wp2
          go_ret
          exact ⟨by first | rfl | (simp [errW_none, errW_some] <;> rfl) | (simp [*, errW_none, errW_some] <;> rfl), Bp HB⟩
  · rw [if_neg c3] at H
    have c3b0 : ((l0.length : Int) == (l1.length : Int)) = false := beq_eq_false_iff_ne.mpr c3
    have c3b1 : ((l0.length : Int) != (l1.length : Int)) = true := bne_iff_ne.mpr c3
    have c3b2 : (l0.length == l1.length) = false := by first | simpa using c3 | (simp at c3 ⊢; omega)
    obtain rfl := Option.some.inj H
    go_enter Try.func61, Try.ntmps61
    go_wp2
    go_ret
    exact ⟨by first | rfl | (simp [errW_none, errW_some] <;> rfl) | (simp [*, errW_none, errW_some] <;> rfl), Bp HB⟩

end Go.Proofs.Ythcinellhbmcoaa.Q
