-- written by xprint.py, a program of this session, out of the translation: Lean checks it
import Derived.Test.YtnebeklmfenikaaQObjOkx0
import Derived.Test.YtnebeklmfenikaaQObjOkx7
namespace Go.Proofs.Ytnebeklmfenikaa.Q
open Go.RowKit Go.Proofs.YtnebeklmfenikaaW.PrintWords Go.Proofs.YtnebeklmfenikaaW.PrintLast Go.Proofs.YtnebeklmfenikaaW.PrintMore
attribute [local go_sem] max2_int min2_int max_two min_two max_three min_three max_four min_four   -- for this text's walks alone
set_option linter.unusedVariables false
set_option linter.unusedSimpArgs false

/-! ### slices_IndexFunc_impl_CodeRef__impl_ObjOk_2: function 102 -/
def slices_IndexFunc_impl_CodeRef__impl_ObjOk_2.l0 : Nat → List (S70) → Int → Int → Option (Int)
  | 0, _, _, _ => none
  | k + 1, x0, x7, x8 => if x8 < x7 then (if 0 ≤ x8 then (if x8 < (x0.length : Int) then ((impl_ObjOk_2.f k ((rd_T70 x0 x8).f0) ((rd_T70 x0 x8).f1)).bind fun t253 => (if t253 = true then (some x8) else (slices_IndexFunc_impl_CodeRef__impl_ObjOk_2.l0 k x0 x7 (wrap64 (x8 + 1))))) else (none)) else (none)) else (some (-1))
def slices_IndexFunc_impl_CodeRef__impl_ObjOk_2.f (k : Nat) (l0 : List (S70))  : Option (Int) := slices_IndexFunc_impl_CodeRef__impl_ObjOk_2.l0 k l0 (l0.length : Int) 0
theorem slices_IndexFunc_impl_CodeRef__impl_ObjOk_2.mono_l : ∀ k, (∀ y0 y1 y2, LeO (slices_IndexFunc_impl_CodeRef__impl_ObjOk_2.l0 k y0 y1 y2) (slices_IndexFunc_impl_CodeRef__impl_ObjOk_2.l0 (k + 1) y0 y1 y2))
  | 0 => fun _ _ _ r h => by simp [slices_IndexFunc_impl_CodeRef__impl_ObjOk_2.l0] at h
  | k + 1 => by
    have ih0 := slices_IndexFunc_impl_CodeRef__impl_ObjOk_2.mono_l k
    · intro y0 y1 y2
      unfold slices_IndexFunc_impl_CodeRef__impl_ObjOk_2.l0
      repeat' first
      | (with_reducible exact ih0 _ _ _)
      | (with_reducible exact impl_ObjOk_2.mono _ _ _)
      | (with_reducible exact LeO.refl _)
      | (with_reducible exact LeO.none _)
      | (with_reducible refine LeO.ite ?_ ?_)
      | (with_reducible refine LeO.bind ?_ (fun _ => ?_))
      | exact ih0 _ _ _
      | exact impl_ObjOk_2.mono _ _ _
      | exact LeO.none _
      | refine LeO.ite ?_ ?_
      | refine LeO.bind ?_ (fun _ => ?_)
theorem slices_IndexFunc_impl_CodeRef__impl_ObjOk_2.mono : ∀ a0 k, LeO (slices_IndexFunc_impl_CodeRef__impl_ObjOk_2.f k a0) (slices_IndexFunc_impl_CodeRef__impl_ObjOk_2.f (k + 1) a0) := by
  intro a0 k
  have ih0 := slices_IndexFunc_impl_CodeRef__impl_ObjOk_2.mono_l k
  unfold slices_IndexFunc_impl_CodeRef__impl_ObjOk_2.f
  repeat' first
      | (with_reducible exact ih0 _ _ _)
      | (with_reducible exact impl_ObjOk_2.mono _ _ _)
      | (with_reducible exact LeO.refl _)
      | (with_reducible exact LeO.none _)
      | (with_reducible refine LeO.ite ?_ ?_)
      | (with_reducible refine LeO.bind ?_ (fun _ => ?_))
      | exact ih0 _ _ _
      | exact impl_ObjOk_2.mono _ _ _
      | exact LeO.none _
      | refine LeO.ite ?_ ?_
      | refine LeO.bind ?_ (fun _ => ?_)
set_option maxHeartbeats 8000000 in
set_option maxRecDepth 100000 in
theorem slices_IndexFunc_impl_CodeRef__impl_ObjOk_2.calls (k : Nat) (A0 : Option Addr) (c0 : Nat) (l0 : List (S70))  (r : Int) (w : World) (hr0 : Kd.C k70 w A0 l0.length l0) (hc0 : l0.length ≤ c0) (h : slices_IndexFunc_impl_CodeRef__impl_ObjOk_2.f k l0 = some r) :
    Calls Try.prog 102 #[.slice A0 l0.length c0, (.func (.func 49) #[] #[])] w fun e w' => e = .returned (.int .i64 r) ∧ Below w.heap.size w w' := by
  have hu70 := Try.underlying70
  have HR0 := Aside0.mk hr0
  have HC0 := Aside0.mk hc0
  clear hr0 hc0
  have HB := Aside0.mk (Below.refl w.heap.size w)
  have H : (slices_IndexFunc_impl_CodeRef__impl_ObjOk_2.l0 k l0 (l0.length : Int) 0) = some r := h
  clear h
  have H' := Aside0.mk H
  clear H
  go_enter Try.func102, Try.ntmps102
  go_wp2
  go_loopg [8] k (fun kq v8 w' => ∃ (x8_1 : Int), v8 = .int .i64 x8_1 ∧ Aside0 (slices_IndexFunc_impl_CodeRef__impl_ObjOk_2.l0 kq l0 (l0.length : Int) x8_1 = some r) ∧ Aside0 (kq ≤ k) ∧ Aside0 (Below w.heap.size w w'))
  case atStart => exact ⟨(0), (by first | rfl | (simp; done) | (simp [*]; done)), H', ⟨Nat.le_refl _⟩, ⟨Bp HB⟩⟩
  case round =>
    clear H'
    try clear p2
    obtain ⟨x8_1, rfl, HA, HK1, HB⟩ := hrel
    cases gk with
    | zero => exact absurd HA.out (by simp [slices_IndexFunc_impl_CodeRef__impl_ObjOk_2.l0])
    | succ k1 =>
      have H := HA.out
      clear HA
      simp only [slices_IndexFunc_impl_CodeRef__impl_ObjOk_2.l0] at H
      by_cases c3 : x8_1 < (l0.length : Int)
      · rw [if_pos c3] at H
        have c3b0 : decide (x8_1 < (l0.length : Int)) = true := decide_eq_true c3
        clear c3
        by_cases c4 : 0 ≤ x8_1
        · rw [if_pos c4] at H
          have c4b0 : decide (0 ≤ x8_1) = true := decide_eq_true c4
          clear c4
          by_cases c5 : x8_1 < (l0.length : Int)
          · rw [if_pos c5] at H
            have c5b0 : decide (x8_1 < (l0.length : Int)) = true := decide_eq_true c5
            clear c5
            replace H := Option.bind_eq_some_iff.mp H
            obtain ⟨t253, A60, H⟩ := H
            replace H : (if t253 = true then (some x8_1) else (slices_IndexFunc_impl_CodeRef__impl_ObjOk_2.l0 k1 l0 (l0.length : Int) (wrap64 (x8_1 + 1)))) = some r := H
            have A6 := Aside0.mk A60
            clear A60
            by_cases c7 : t253 = true
            · subst c7
              have H1 : (some x8_1) = some r := by rw [if_pos rfl] at H; exact H
              clear H
              have H := H1
              clear H1
              obtain rfl := Option.some.inj H
              have p252 : 0 ≤ (x8_1 : Int) := of_decide_eq_true (by first | (with_reducible assumption) | assumption)
              have q252 : x8_1 < (l0.length : Int) := of_decide_eq_true (by first | (with_reducible assumption) | assumption)
              obtain ⟨ad252, e252, hx252_0, hx252_1⟩ := at_T70 HR0.out x8_1 p252 q252
              cases e252
              replace hx252_0 := (HB.out.cell (World.block_lt_of_cell? w _ hx252_0)).trans hx252_0
              replace hx252_1 := (HB.out.cell (World.block_lt_of_cell? w _ hx252_1)).trans hx252_1
              replace p252 := eq_true p252
              replace q252 := eq_true q252
              go_wp2_with (first | (go_at_call 49; (with_reducible refine (impl_ObjOk_2.calls k1 ((rd_T70 l0 x8_1).f0) ((rd_T70 l0 x8_1).f1) true _ A6.out).mono ?_); rintro e w8 ⟨rfl, hb⟩; replace HB := Bs HB hb; (try clear hb); (try clear hb2); (try clear hk); (try clear hi)))
              go_ret
              exact ⟨by first | rfl | (simp [errW_none, errW_some] <;> rfl) | (simp [*, errW_none, errW_some] <;> rfl), Bp HB⟩
            · replace c7 := Bool.eq_false_iff.mpr c7
              subst c7
              have H1 : (slices_IndexFunc_impl_CodeRef__impl_ObjOk_2.l0 k1 l0 (l0.length : Int) (wrap64 (x8_1 + 1))) = some r := by rw [if_neg (show ¬ (false = true) by decide)] at H; exact H
              clear H
              have H := H1
              clear H1
              have H' := Aside0.mk H
              clear H
              have p252 : 0 ≤ (x8_1 : Int) := of_decide_eq_true (by first | (with_reducible assumption) | assumption)
              have q252 : x8_1 < (l0.length : Int) := of_decide_eq_true (by first | (with_reducible assumption) | assumption)
              obtain ⟨ad252, e252, hx252_0, hx252_1⟩ := at_T70 HR0.out x8_1 p252 q252
              cases e252
              replace hx252_0 := (HB.out.cell (World.block_lt_of_cell? w _ hx252_0)).trans hx252_0
              replace hx252_1 := (HB.out.cell (World.block_lt_of_cell? w _ hx252_1)).trans hx252_1
              replace p252 := eq_true p252
              replace q252 := eq_true q252
              go_wp2_with (first | (go_at_call 49; (with_reducible refine (impl_ObjOk_2.calls k1 ((rd_T70 l0 x8_1).f0) ((rd_T70 l0 x8_1).f1) false _ A6.out).mono ?_); rintro e w9 ⟨rfl, hb⟩; replace HB := Bs HB hb; (try clear hb); (try clear hb2); (try clear hk); (try clear hi)))
              go_roundg k1
              case measure => have := HK1.out; omega
              case rel => exact ⟨(wrap64 (x8_1 + 1)), (by first | rfl | (simp; done) | (simp [*]; done)), H', ⟨by have := HK1.out; omega⟩, ⟨Bp HB⟩⟩
          · rw [if_neg c5] at H
            exact absurd H (by simp)
        · rw [if_neg c4] at H
          exact absurd H (by simp)
      · rw [if_neg c3] at H
        have c3b0 : decide (x8_1 < (l0.length : Int)) = false := decide_eq_false c3
        clear c3
        obtain rfl := Option.some.inj H
        go_wp2
        go_ret
        exact ⟨by first | rfl | (simp [errW_none, errW_some] <;> rfl) | (simp [*, errW_none, errW_some] <;> rfl), Bp HB⟩

/-! ### slices_ContainsFunc_impl_CodeRef__impl_ObjOk_2: function 48 -/
def slices_ContainsFunc_impl_CodeRef__impl_ObjOk_2.f (k : Nat) (l0 : List (S70))  : Option (Bool) := (slices_IndexFunc_impl_CodeRef__impl_ObjOk_2.f k l0).bind fun t254 => (some (decide (t254 ≥ 0)))
theorem slices_ContainsFunc_impl_CodeRef__impl_ObjOk_2.mono : ∀ a0 k, LeO (slices_ContainsFunc_impl_CodeRef__impl_ObjOk_2.f k a0) (slices_ContainsFunc_impl_CodeRef__impl_ObjOk_2.f (k + 1) a0) := by
  intro a0 k
  unfold slices_ContainsFunc_impl_CodeRef__impl_ObjOk_2.f
  repeat' first
      | (with_reducible exact slices_IndexFunc_impl_CodeRef__impl_ObjOk_2.mono _ _)
      | (with_reducible exact LeO.refl _)
      | (with_reducible exact LeO.none _)
      | (with_reducible refine LeO.ite ?_ ?_)
      | (with_reducible refine LeO.bind ?_ (fun _ => ?_))
      | exact slices_IndexFunc_impl_CodeRef__impl_ObjOk_2.mono _ _
      | exact LeO.none _
      | refine LeO.ite ?_ ?_
      | refine LeO.bind ?_ (fun _ => ?_)
set_option maxHeartbeats 8000000 in
set_option maxRecDepth 100000 in
theorem slices_ContainsFunc_impl_CodeRef__impl_ObjOk_2.calls (k : Nat) (A0 : Option Addr) (c0 : Nat) (l0 : List (S70))  (r : Bool) (w : World) (hr0 : Kd.C k70 w A0 l0.length l0) (hc0 : l0.length ≤ c0) (h : slices_ContainsFunc_impl_CodeRef__impl_ObjOk_2.f k l0 = some r) :
    Calls Try.prog 48 #[.slice A0 l0.length c0, (.func (.func 49) #[] #[])] w fun e w' => e = .returned (.bool r) ∧ Below w.heap.size w w' := by
  have HR0 := Aside0.mk hr0
  have HC0 := Aside0.mk hc0
  clear hr0 hc0
  have HB := Aside0.mk (Below.refl w.heap.size w)
  have H : ((slices_IndexFunc_impl_CodeRef__impl_ObjOk_2.f k l0).bind fun t254 => (some (decide (t254 ≥ 0)))) = some r := h
  clear h
  replace H := Option.bind_eq_some_iff.mp H
  obtain ⟨t254, A30, H⟩ := H
  replace H : (some (decide (t254 ≥ 0))) = some r := H
  have A3 := Aside0.mk A30
  clear A30
  obtain rfl := Option.some.inj H
  go_enter Try.func48, Try.ntmps48
  go_wp2_with (first | ((with_reducible refine gate_callee (f := 102) rfl ?_); refine goesL_ (some 7) rfl rfl Try.func102 (by kernel_rfl) rfl #[.slice A0 l0.length c0, (.func (.func 49) #[] #[])] rfl (by (try simp only [List.map_toArray, List.map_cons, List.map_nil]); first | done | rfl | (simp only [List.length_drop, List.length_take]; rfl)) ?_; (with_reducible refine (slices_IndexFunc_impl_CodeRef__impl_ObjOk_2.calls k _ _ l0  t254 _ ?side1 ?side2 A3.out).mono ?_); (case side1 => repeat (first | exact HR0.out | (with_reducible refine Kd.C_alloc ?_ _) | (with_reducible refine Kd.C_drewN ?_ _) | (with_reducible refine Kd.C_drew ?_))); (case side2 => exact HC0.out); rintro e w4 ⟨rfl, hb⟩; refine ⟨_, rfl, ?_⟩; replace HB := Bs HB hb; (try clear hb); (try clear hb2); (try clear hk); (try clear hi)))
  go_ret
  exact ⟨by first | rfl | (simp [errW_none, errW_some] <;> rfl) | (simp [*, errW_none, errW_some] <;> rfl), Bp HB⟩

/-! ### slices_IndexFunc_impl_CodeIns__impl_ObjOk_1: function 100 -/
def slices_IndexFunc_impl_CodeIns__impl_ObjOk_1.l0 : Nat → List (S85) → Int → Int → Option (Int)
  | 0, _, _, _ => none
  | k + 1, x0, x7, x8 => if x8 < x7 then (if 0 ≤ x8 then (if x8 < (x0.length : Int) then ((impl_ObjOk_1.f ((rd_T85 x0 x8).f0) ((rd_T85 x0 x8).f1)).bind fun t256 => (if t256 = true then (some x8) else (slices_IndexFunc_impl_CodeIns__impl_ObjOk_1.l0 k x0 x7 (wrap64 (x8 + 1))))) else (none)) else (none)) else (some (-1))
def slices_IndexFunc_impl_CodeIns__impl_ObjOk_1.f (k : Nat) (l0 : List (S85))  : Option (Int) := slices_IndexFunc_impl_CodeIns__impl_ObjOk_1.l0 k l0 (l0.length : Int) 0
theorem slices_IndexFunc_impl_CodeIns__impl_ObjOk_1.mono_l : ∀ k, (∀ y0 y1 y2, LeO (slices_IndexFunc_impl_CodeIns__impl_ObjOk_1.l0 k y0 y1 y2) (slices_IndexFunc_impl_CodeIns__impl_ObjOk_1.l0 (k + 1) y0 y1 y2))
  | 0 => fun _ _ _ r h => by simp [slices_IndexFunc_impl_CodeIns__impl_ObjOk_1.l0] at h
  | k + 1 => by
    have ih0 := slices_IndexFunc_impl_CodeIns__impl_ObjOk_1.mono_l k
    · intro y0 y1 y2
      unfold slices_IndexFunc_impl_CodeIns__impl_ObjOk_1.l0
      repeat' first
      | (with_reducible exact ih0 _ _ _)
      | (with_reducible exact LeO.refl _)
      | (with_reducible exact LeO.none _)
      | (with_reducible refine LeO.ite ?_ ?_)
      | (with_reducible refine LeO.bind ?_ (fun _ => ?_))
      | exact ih0 _ _ _
      | exact LeO.none _
      | refine LeO.ite ?_ ?_
      | refine LeO.bind ?_ (fun _ => ?_)
theorem slices_IndexFunc_impl_CodeIns__impl_ObjOk_1.mono : ∀ a0 k, LeO (slices_IndexFunc_impl_CodeIns__impl_ObjOk_1.f k a0) (slices_IndexFunc_impl_CodeIns__impl_ObjOk_1.f (k + 1) a0) := by
  intro a0 k
  have ih0 := slices_IndexFunc_impl_CodeIns__impl_ObjOk_1.mono_l k
  unfold slices_IndexFunc_impl_CodeIns__impl_ObjOk_1.f
  repeat' first
      | (with_reducible exact ih0 _ _ _)
      | (with_reducible exact LeO.refl _)
      | (with_reducible exact LeO.none _)
      | (with_reducible refine LeO.ite ?_ ?_)
      | (with_reducible refine LeO.bind ?_ (fun _ => ?_))
      | exact ih0 _ _ _
      | exact LeO.none _
      | refine LeO.ite ?_ ?_
      | refine LeO.bind ?_ (fun _ => ?_)
set_option maxHeartbeats 8000000 in
set_option maxRecDepth 100000 in
theorem slices_IndexFunc_impl_CodeIns__impl_ObjOk_1.calls (k : Nat) (A0 : Option Addr) (c0 : Nat) (l0 : List (S85))  (r : Int) (w : World) (hr0 : Kd.C k85 w A0 l0.length l0) (hc0 : l0.length ≤ c0) (h : slices_IndexFunc_impl_CodeIns__impl_ObjOk_1.f k l0 = some r) :
    Calls Try.prog 100 #[.slice A0 l0.length c0, (.func (.func 46) #[] #[])] w fun e w' => e = .returned (.int .i64 r) ∧ Below w.heap.size w w' := by
  have hu85 := Try.underlying85
  have HR0 := Aside0.mk hr0
  have HC0 := Aside0.mk hc0
  clear hr0 hc0
  have HB := Aside0.mk (Below.refl w.heap.size w)
  have H : (slices_IndexFunc_impl_CodeIns__impl_ObjOk_1.l0 k l0 (l0.length : Int) 0) = some r := h
  clear h
  have H' := Aside0.mk H
  clear H
  go_enter Try.func100, Try.ntmps100
  go_wp2
  go_loopg [8] k (fun kq v8 w' => ∃ (x8_1 : Int), v8 = .int .i64 x8_1 ∧ Aside0 (slices_IndexFunc_impl_CodeIns__impl_ObjOk_1.l0 kq l0 (l0.length : Int) x8_1 = some r) ∧ Aside0 (kq ≤ k) ∧ Aside0 (Below w.heap.size w w'))
  case atStart => exact ⟨(0), (by first | rfl | (simp; done) | (simp [*]; done)), H', ⟨Nat.le_refl _⟩, ⟨Bp HB⟩⟩
  case round =>
    clear H'
    try clear p2
    obtain ⟨x8_1, rfl, HA, HK1, HB⟩ := hrel
    cases gk with
    | zero => exact absurd HA.out (by simp [slices_IndexFunc_impl_CodeIns__impl_ObjOk_1.l0])
    | succ k1 =>
      have H := HA.out
      clear HA
      simp only [slices_IndexFunc_impl_CodeIns__impl_ObjOk_1.l0] at H
      by_cases c3 : x8_1 < (l0.length : Int)
      · rw [if_pos c3] at H
        have c3b0 : decide (x8_1 < (l0.length : Int)) = true := decide_eq_true c3
        clear c3
        by_cases c4 : 0 ≤ x8_1
        · rw [if_pos c4] at H
          have c4b0 : decide (0 ≤ x8_1) = true := decide_eq_true c4
          clear c4
          by_cases c5 : x8_1 < (l0.length : Int)
          · rw [if_pos c5] at H
            have c5b0 : decide (x8_1 < (l0.length : Int)) = true := decide_eq_true c5
            clear c5
            replace H := Option.bind_eq_some_iff.mp H
            obtain ⟨t256, A60, H⟩ := H
            replace H : (if t256 = true then (some x8_1) else (slices_IndexFunc_impl_CodeIns__impl_ObjOk_1.l0 k1 l0 (l0.length : Int) (wrap64 (x8_1 + 1)))) = some r := H
            have A6 := Aside0.mk A60
            clear A60
            by_cases c7 : t256 = true
            · subst c7
              have H1 : (some x8_1) = some r := by rw [if_pos rfl] at H; exact H
              clear H
              have H := H1
              clear H1
              obtain rfl := Option.some.inj H
              have p255 : 0 ≤ (x8_1 : Int) := of_decide_eq_true (by first | (with_reducible assumption) | assumption)
              have q255 : x8_1 < (l0.length : Int) := of_decide_eq_true (by first | (with_reducible assumption) | assumption)
              obtain ⟨ad255, e255, hx255_0, hx255_1⟩ := at_T85 HR0.out x8_1 p255 q255
              cases e255
              replace hx255_0 := (HB.out.cell (World.block_lt_of_cell? w _ hx255_0)).trans hx255_0
              replace hx255_1 := (HB.out.cell (World.block_lt_of_cell? w _ hx255_1)).trans hx255_1
              replace p255 := eq_true p255
              replace q255 := eq_true q255
              go_wp2_with (first | (go_at_call 46; (with_reducible refine (impl_ObjOk_1.calls ((rd_T85 l0 x8_1).f0) ((rd_T85 l0 x8_1).f1) true _ A6.out).mono ?_); rintro e w8 ⟨rfl, hb⟩; replace HB := Bs HB hb; (try clear hb); (try clear hb2); (try clear hk); (try clear hi)))
              go_ret
              exact ⟨by first | rfl | (simp [errW_none, errW_some] <;> rfl) | (simp [*, errW_none, errW_some] <;> rfl), Bp HB⟩
            · replace c7 := Bool.eq_false_iff.mpr c7
              subst c7
              have H1 : (slices_IndexFunc_impl_CodeIns__impl_ObjOk_1.l0 k1 l0 (l0.length : Int) (wrap64 (x8_1 + 1))) = some r := by rw [if_neg (show ¬ (false = true) by decide)] at H; exact H
              clear H
              have H := H1
              clear H1
              have H' := Aside0.mk H
              clear H
              have p255 : 0 ≤ (x8_1 : Int) := of_decide_eq_true (by first | (with_reducible assumption) | assumption)
              have q255 : x8_1 < (l0.length : Int) := of_decide_eq_true (by first | (with_reducible assumption) | assumption)
              obtain ⟨ad255, e255, hx255_0, hx255_1⟩ := at_T85 HR0.out x8_1 p255 q255
              cases e255
              replace hx255_0 := (HB.out.cell (World.block_lt_of_cell? w _ hx255_0)).trans hx255_0
              replace hx255_1 := (HB.out.cell (World.block_lt_of_cell? w _ hx255_1)).trans hx255_1
              replace p255 := eq_true p255
              replace q255 := eq_true q255
              go_wp2_with (first | (go_at_call 46; (with_reducible refine (impl_ObjOk_1.calls ((rd_T85 l0 x8_1).f0) ((rd_T85 l0 x8_1).f1) false _ A6.out).mono ?_); rintro e w9 ⟨rfl, hb⟩; replace HB := Bs HB hb; (try clear hb); (try clear hb2); (try clear hk); (try clear hi)))
              go_roundg k1
              case measure => have := HK1.out; omega
              case rel => exact ⟨(wrap64 (x8_1 + 1)), (by first | rfl | (simp; done) | (simp [*]; done)), H', ⟨by have := HK1.out; omega⟩, ⟨Bp HB⟩⟩
          · rw [if_neg c5] at H
            exact absurd H (by simp)
        · rw [if_neg c4] at H
          exact absurd H (by simp)
      · rw [if_neg c3] at H
        have c3b0 : decide (x8_1 < (l0.length : Int)) = false := decide_eq_false c3
        clear c3
        obtain rfl := Option.some.inj H
        go_wp2
        go_ret
        exact ⟨by first | rfl | (simp [errW_none, errW_some] <;> rfl) | (simp [*, errW_none, errW_some] <;> rfl), Bp HB⟩

/-! ### slices_ContainsFunc_impl_CodeIns__impl_ObjOk_1: function 45 -/
def slices_ContainsFunc_impl_CodeIns__impl_ObjOk_1.f (k : Nat) (l0 : List (S85))  : Option (Bool) := (slices_IndexFunc_impl_CodeIns__impl_ObjOk_1.f k l0).bind fun t257 => (some (decide (t257 ≥ 0)))
theorem slices_ContainsFunc_impl_CodeIns__impl_ObjOk_1.mono : ∀ a0 k, LeO (slices_ContainsFunc_impl_CodeIns__impl_ObjOk_1.f k a0) (slices_ContainsFunc_impl_CodeIns__impl_ObjOk_1.f (k + 1) a0) := by
  intro a0 k
  unfold slices_ContainsFunc_impl_CodeIns__impl_ObjOk_1.f
  repeat' first
      | (with_reducible exact slices_IndexFunc_impl_CodeIns__impl_ObjOk_1.mono _ _)
      | (with_reducible exact LeO.refl _)
      | (with_reducible exact LeO.none _)
      | (with_reducible refine LeO.ite ?_ ?_)
      | (with_reducible refine LeO.bind ?_ (fun _ => ?_))
      | exact slices_IndexFunc_impl_CodeIns__impl_ObjOk_1.mono _ _
      | exact LeO.none _
      | refine LeO.ite ?_ ?_
      | refine LeO.bind ?_ (fun _ => ?_)
set_option maxHeartbeats 8000000 in
set_option maxRecDepth 100000 in
theorem slices_ContainsFunc_impl_CodeIns__impl_ObjOk_1.calls (k : Nat) (A0 : Option Addr) (c0 : Nat) (l0 : List (S85))  (r : Bool) (w : World) (hr0 : Kd.C k85 w A0 l0.length l0) (hc0 : l0.length ≤ c0) (h : slices_ContainsFunc_impl_CodeIns__impl_ObjOk_1.f k l0 = some r) :
    Calls Try.prog 45 #[.slice A0 l0.length c0, (.func (.func 46) #[] #[])] w fun e w' => e = .returned (.bool r) ∧ Below w.heap.size w w' := by
  have HR0 := Aside0.mk hr0
  have HC0 := Aside0.mk hc0
  clear hr0 hc0
  have HB := Aside0.mk (Below.refl w.heap.size w)
  have H : ((slices_IndexFunc_impl_CodeIns__impl_ObjOk_1.f k l0).bind fun t257 => (some (decide (t257 ≥ 0)))) = some r := h
  clear h
  replace H := Option.bind_eq_some_iff.mp H
  obtain ⟨t257, A30, H⟩ := H
  replace H : (some (decide (t257 ≥ 0))) = some r := H
  have A3 := Aside0.mk A30
  clear A30
  obtain rfl := Option.some.inj H
  go_enter Try.func45, Try.ntmps45
  go_wp2_with (first | ((with_reducible refine gate_callee (f := 100) rfl ?_); refine goesL_ (some 7) rfl rfl Try.func100 (by kernel_rfl) rfl #[.slice A0 l0.length c0, (.func (.func 46) #[] #[])] rfl (by (try simp only [List.map_toArray, List.map_cons, List.map_nil]); first | done | rfl | (simp only [List.length_drop, List.length_take]; rfl)) ?_; (with_reducible refine (slices_IndexFunc_impl_CodeIns__impl_ObjOk_1.calls k _ _ l0  t257 _ ?side1 ?side2 A3.out).mono ?_); (case side1 => repeat (first | exact HR0.out | (with_reducible refine Kd.C_alloc ?_ _) | (with_reducible refine Kd.C_drewN ?_ _) | (with_reducible refine Kd.C_drew ?_))); (case side2 => exact HC0.out); rintro e w4 ⟨rfl, hb⟩; refine ⟨_, rfl, ?_⟩; replace HB := Bs HB hb; (try clear hb); (try clear hb2); (try clear hk); (try clear hi)))
  go_ret
  exact ⟨by first | rfl | (simp [errW_none, errW_some] <;> rfl) | (simp [*, errW_none, errW_some] <;> rfl), Bp HB⟩

/-! ### impl_ObjOk: function 15 -/
def impl_ObjOk.l0 : Nat → Int → List (S74) → Int → Int → List (S70) → List (S74) → Option (Bool)
  | 0, _, _, _, _, _, _ => none
  | k + 1, x3, x7, x8, x9, x259000, x259001 => if x9 < x8 then (if 0 ≤ x9 then (if x9 < (x7.length : Int) then ((impl_headOk.f k ((rd_T74 x7 x9).f0) ((rd_T74 x7 x9).f2) ((rd_T74 x7 x9).f3) ((rd_T74 x7 x9).f4)).bind fun t262 => (if t262 = true then ((slices_ContainsFunc_impl_CodeIns__impl_ObjOk_1.f k ((rd_T74 x7 x9).f5)).bind fun t263 => (if t263 = true then (some false) else (impl_ObjOk.l0 k (wrap64 (x3 + (((rd_T74 x7 x9).f5).length : Int))) x7 x8 (wrap64 (x9 + 1)) x259000 x259001))) else (some false))) else (none)) else (none)) else (if (x259000.length : Int) ≤ 40 then (if (x259001.length : Int) ≤ 9 then (if x3 ≤ 460 then ((slices_ContainsFunc_impl_CodeRef__impl_ObjOk_2.f k x259000).bind fun t259 => (some (!t259))) else (some false)) else (some false)) else (some false))
def impl_ObjOk.f (k : Nat) (l0_0 : List (S70)) (l0_1 : List (S74)) : Option (Bool) := impl_ObjOk.l0 k 0 l0_1 (l0_1.length : Int) 0 l0_0 l0_1
theorem impl_ObjOk.mono_l : ∀ k, (∀ y0 y1 y2 y3 y4 y5, LeO (impl_ObjOk.l0 k y0 y1 y2 y3 y4 y5) (impl_ObjOk.l0 (k + 1) y0 y1 y2 y3 y4 y5))
  | 0 => fun _ _ _ _ _ _ r h => by simp [impl_ObjOk.l0] at h
  | k + 1 => by
    have ih0 := impl_ObjOk.mono_l k
    · intro y0 y1 y2 y3 y4 y5
      unfold impl_ObjOk.l0
      repeat' first
      | (with_reducible exact ih0 _ _ _ _ _ _)
      | (with_reducible exact impl_headOk.mono _ _ _ _ _)
      | (with_reducible exact slices_ContainsFunc_impl_CodeIns__impl_ObjOk_1.mono _ _)
      | (with_reducible exact slices_ContainsFunc_impl_CodeRef__impl_ObjOk_2.mono _ _)
      | (with_reducible exact LeO.refl _)
      | (with_reducible exact LeO.none _)
      | (with_reducible refine LeO.ite ?_ ?_)
      | (with_reducible refine LeO.bind ?_ (fun _ => ?_))
      | exact ih0 _ _ _ _ _ _
      | exact impl_headOk.mono _ _ _ _ _
      | exact slices_ContainsFunc_impl_CodeIns__impl_ObjOk_1.mono _ _
      | exact slices_ContainsFunc_impl_CodeRef__impl_ObjOk_2.mono _ _
      | exact LeO.none _
      | refine LeO.ite ?_ ?_
      | refine LeO.bind ?_ (fun _ => ?_)
theorem impl_ObjOk.mono : ∀ a0 a1 k, LeO (impl_ObjOk.f k a0 a1) (impl_ObjOk.f (k + 1) a0 a1) := by
  intro a0 a1 k
  have ih0 := impl_ObjOk.mono_l k
  unfold impl_ObjOk.f
  repeat' first
      | (with_reducible exact ih0 _ _ _ _ _ _)
      | (with_reducible exact impl_headOk.mono _ _ _ _ _)
      | (with_reducible exact slices_ContainsFunc_impl_CodeIns__impl_ObjOk_1.mono _ _)
      | (with_reducible exact slices_ContainsFunc_impl_CodeRef__impl_ObjOk_2.mono _ _)
      | (with_reducible exact LeO.refl _)
      | (with_reducible exact LeO.none _)
      | (with_reducible refine LeO.ite ?_ ?_)
      | (with_reducible refine LeO.bind ?_ (fun _ => ?_))
      | exact ih0 _ _ _ _ _ _
      | exact impl_headOk.mono _ _ _ _ _
      | exact slices_ContainsFunc_impl_CodeIns__impl_ObjOk_1.mono _ _
      | exact slices_ContainsFunc_impl_CodeRef__impl_ObjOk_2.mono _ _
      | exact LeO.none _
      | refine LeO.ite ?_ ?_
      | refine LeO.bind ?_ (fun _ => ?_)
set_option maxHeartbeats 8000000 in
set_option maxRecDepth 100000 in
theorem impl_ObjOk.calls (k : Nat) (A0_0 : Option Addr) (c0_0 : Nat) (l0_0 : List (S70)) (A0_1 : Option Addr) (c0_1 : Nat) (l0_1 : List (S74)) (r : Bool) (w : World) (hr0_0 : Kd.C k70 w A0_0 l0_0.length l0_0) (hc0_0 : l0_0.length ≤ c0_0) (hr0_1 : Kd.C k74 w A0_1 l0_1.length l0_1) (hc0_1 : l0_1.length ≤ c0_1) (h : impl_ObjOk.f k l0_0 l0_1 = some r) :
    Calls Try.prog 15 #[.agg #[.slice A0_0 l0_0.length c0_0, .slice A0_1 l0_1.length c0_1]] w fun e w' => e = .returned (.bool r) ∧ Below w.heap.size w w' := by
  have hu31 := Try.underlying31
  have hu74 := Try.underlying74
  have HR0_0 := Aside0.mk hr0_0
  have HC0_0 := Aside0.mk hc0_0
  clear hr0_0 hc0_0
  have HR0_1 := Aside0.mk hr0_1
  have HC0_1 := Aside0.mk hc0_1
  clear hr0_1 hc0_1
  have HB := Aside0.mk (Below.refl w.heap.size w)
  have H : (impl_ObjOk.l0 k 0 l0_1 (l0_1.length : Int) 0 l0_0 l0_1) = some r := h
  clear h
  have H' := Aside0.mk H
  clear H
  go_enter Try.func15, Try.ntmps15
  go_wp2_with (first | ((with_reducible refine gate_dst (N := 1) rfl ?_); (try (refine gate_guard (by rfl) ?_; dsimp only)); refine box_event ?hg (N := 1) ?hd (cs := #[.slice A0_0 l0_0.length c0_0, .slice A0_1 l0_1.length c0_1]) (t := 31) ?hr ?_; (case hd => rfl); (case hg => rfl); (case hr => first | (go_simp; done) | (go_simp; rfl)); intro gb258 hg w2 hbox hb; have BK258 := Aside0.mk (hbox); have GW258 := Aside0.mk ((by rw [hg]; exact (below_size (Bp HB)) : w.heap.size ≤ gb258)); have GE258 := Aside0.mk ((by rw [hg]; exact (below_size (Bp HB)) : w.heap.size ≤ gb258)); replace HB := Bs HB hb; clear hb hbox hg; obtain ⟨hcz3_0, hcz3_1⟩ := bc2 (W := w2) BK258.out; obtain ⟨hfz3_0, hfz3_1⟩ := bf2 BK258.out))
  go_loopg [3, 9] k (fun kq v3 v9 w' => ∃ (x3_1 : Int) (x9_1 : Int), v3 = .int .i64 x3_1 ∧ v9 = .int .i64 x9_1 ∧ Aside0 (impl_ObjOk.l0 kq x3_1 l0_1 (l0_1.length : Int) x9_1 l0_0 l0_1 = some r) ∧ Aside0 (kq ≤ k) ∧ Aside0 (w'.heap[gb258]? = some (.cells #[(.slice A0_0 l0_0.length c0_0), (.slice A0_1 l0_1.length c0_1)] 31 (0, 0))) ∧ Aside0 (Below w.heap.size w w'))
  case atStart => exact ⟨(0), (0), (by first | rfl | (simp; done) | (simp [*]; done)), (by first | rfl | (simp; done) | (simp [*]; done)), H', ⟨Nat.le_refl _⟩, ⟨by (with_reducible repeat (first | refine blk_drewN ?_ _ | refine blk_drew ?_ | refine blk_alloc ?_ _)); exact BK258.out⟩, ⟨Bp HB⟩⟩
  case round =>
    clear H'
    try clear c1
    try clear p2
    try clear hcz3_0 hcz3_1 hfz3_0 hfz3_1
    obtain ⟨x3_1, x9_1, rfl, rfl, HA, HK1, BK258, HB⟩ := hrel
    cases gk with
    | zero => exact absurd HA.out (by simp [impl_ObjOk.l0])
    | succ k1 =>
      have H := HA.out
      clear HA
      simp only [impl_ObjOk.l0] at H
      by_cases c4 : x9_1 < (l0_1.length : Int)
      · rw [if_pos c4] at H
        have c4b0 : decide (x9_1 < (l0_1.length : Int)) = true := decide_eq_true c4
        clear c4
        by_cases c5 : 0 ≤ x9_1
        · rw [if_pos c5] at H
          have c5b0 : decide (0 ≤ x9_1) = true := decide_eq_true c5
          clear c5
          by_cases c6 : x9_1 < (l0_1.length : Int)
          · rw [if_pos c6] at H
            have c6b0 : decide (x9_1 < (l0_1.length : Int)) = true := decide_eq_true c6
            clear c6
            replace H := Option.bind_eq_some_iff.mp H
            obtain ⟨t262, A70, H⟩ := H
            replace H : (if t262 = true then ((slices_ContainsFunc_impl_CodeIns__impl_ObjOk_1.f k1 ((rd_T74 l0_1 x9_1).f5)).bind fun t263 => (if t263 = true then (some false) else (impl_ObjOk.l0 k1 (wrap64 (x3_1 + (((rd_T74 l0_1 x9_1).f5).length : Int))) l0_1 (l0_1.length : Int) (wrap64 (x9_1 + 1)) l0_0 l0_1))) else (some false)) = some r := H
            have A7 := Aside0.mk A70
            clear A70
            by_cases c8 : t262 = true
            · subst c8
              have H1 : ((slices_ContainsFunc_impl_CodeIns__impl_ObjOk_1.f k1 ((rd_T74 l0_1 x9_1).f5)).bind fun t263 => (if t263 = true then (some false) else (impl_ObjOk.l0 k1 (wrap64 (x3_1 + (((rd_T74 l0_1 x9_1).f5).length : Int))) l0_1 (l0_1.length : Int) (wrap64 (x9_1 + 1)) l0_0 l0_1))) = some r := by rw [if_pos rfl] at H; exact H
              clear H
              have H := H1
              clear H1
              replace H := Option.bind_eq_some_iff.mp H
              obtain ⟨t263, A90, H⟩ := H
              replace H : (if t263 = true then (some false) else (impl_ObjOk.l0 k1 (wrap64 (x3_1 + (((rd_T74 l0_1 x9_1).f5).length : Int))) l0_1 (l0_1.length : Int) (wrap64 (x9_1 + 1)) l0_0 l0_1)) = some r := H
              have A9 := Aside0.mk A90
              clear A90
              by_cases c10 : t263 = true
              · subst c10
                have H1 : (some false) = some r := by rw [if_pos rfl] at H; exact H
                clear H
                have H := H1
                clear H1
                obtain rfl := Option.some.inj H
                have p260 : 0 ≤ (x9_1 : Int) := of_decide_eq_true (by first | (with_reducible assumption) | assumption)
                have q260 : x9_1 < (l0_1.length : Int) := of_decide_eq_true (by first | (with_reducible assumption) | assumption)
                obtain ⟨ad260, A260_2, c260_2, A260_5, c260_5, e260, hx260_0, hx260_1, hx260_2, hx260_3, hx260_4, hx260_5, hl260_2, hi260_2, hl260_5, hi260_5⟩ := at_T74 HR0_1.out x9_1 p260 q260
                cases e260
                replace hx260_0 := (HB.out.cell (World.block_lt_of_cell? w _ hx260_0)).trans hx260_0
                replace hx260_1 := (HB.out.cell (World.block_lt_of_cell? w _ hx260_1)).trans hx260_1
                replace hx260_2 := (HB.out.cell (World.block_lt_of_cell? w _ hx260_2)).trans hx260_2
                replace hx260_3 := (HB.out.cell (World.block_lt_of_cell? w _ hx260_3)).trans hx260_3
                replace hx260_4 := (HB.out.cell (World.block_lt_of_cell? w _ hx260_4)).trans hx260_4
                replace hx260_5 := (HB.out.cell (World.block_lt_of_cell? w _ hx260_5)).trans hx260_5
                have HR260_2 := Aside0.mk hi260_2
                have HC260_2 := Aside0.mk hl260_2
                clear hi260_2 hl260_2
                have HR260_5 := Aside0.mk hi260_5
                have HC260_5 := Aside0.mk hl260_5
                clear hi260_5 hl260_5
                replace p260 := eq_true p260
                replace q260 := eq_true q260
                go_wp2_with (first | ((with_reducible refine gate_dst (N := 5) rfl ?_); (try (refine gate_guard (by rfl) ?_; dsimp only)); refine box_event ?hg (N := 5) ?hd (cs := #[.string (⟨#[]⟩ : ByteArray), .bool false, .slice none 0 0, .int .i64 0, .int .i64 0, .slice none 0 0]) (t := 74) ?hr ?_; (case hd => rfl); (case hg => rfl); (case hr => first | (go_simp; done) | (go_simp; rfl)); intro gb261 hg w11 hbox hb; have BK261 := Aside0.mk (hbox); have GW261 := Aside0.mk ((by rw [hg]; exact (below_size (Bp HB)) : w.heap.size ≤ gb261)); have GE261 := Aside0.mk ((by rw [hg]; exact (below_size (Bp HB)) : w.heap.size ≤ gb261)); replace HB := Bs HB hb; have NB258_261 := Aside0.mk ((by rw [hg]; exact Nat.ne_of_lt (blk_lt (Kp BK258)) : gb258 ≠ gb261)); have NB261_258 := Aside0.mk ((by rw [hg]; exact Nat.ne_of_gt (blk_lt (Kp BK258)) : gb261 ≠ gb258)); replace BK258 := Kb BK258 hb; clear hb hbox hg; have hnb12 := NB261_258.out; have hnc12 := NB258_261.out; obtain ⟨hcz13_0, hcz13_1, hcz13_2, hcz13_3, hcz13_4, hcz13_5⟩ := bc6 (W := w11) BK261.out; obtain ⟨hfz13_0, hfz13_1, hfz13_2, hfz13_3, hfz13_4, hfz13_5⟩ := bf6 BK261.out) | ((with_reducible refine gate_callee (f := 44) rfl ?_); refine goesL_ (some 26) rfl rfl Try.func44 (by kernel_rfl) rfl #[.string ((rd_T74 l0_1 x9_1).f0), .slice A260_2 ((rd_T74 l0_1 x9_1).f2).length c260_2, .int .i64 ((rd_T74 l0_1 x9_1).f3), .int .i64 ((rd_T74 l0_1 x9_1).f4)] rfl (by (try simp only [List.map_toArray, List.map_cons, List.map_nil]); first | done | rfl | (simp only [List.length_drop, List.length_take]; rfl)) ?_; (with_reducible refine (impl_headOk.calls k1 ((rd_T74 l0_1 x9_1).f0) _ _ ((rd_T74 l0_1 x9_1).f2) ((rd_T74 l0_1 x9_1).f3) ((rd_T74 l0_1 x9_1).f4) true _ ?side1 ?side2 A7.out).mono ?_); (case side1 => exact Kd.C_below HR260_2.out (Bp HB)); (case side2 => exact HC260_2.out); rintro e w14 ⟨rfl, hb⟩; refine ⟨_, rfl, ?_⟩; replace BK258 := Aside0.mk (blk_below (Kf BK258) hb); replace BK261 := Aside0.mk (blk_below (g := gb261) (o := .cells #[.string ((rd_T74 l0_1 x9_1).f0), .bool ((rd_T74 l0_1 x9_1).f1), .slice A260_2 ((rd_T74 l0_1 x9_1).f2).length c260_2, .int .i64 ((rd_T74 l0_1 x9_1).f3), .int .i64 ((rd_T74 l0_1 x9_1).f4), .slice A260_5 ((rd_T74 l0_1 x9_1).f5).length c260_5] 74 (0, 0)) (by (with_reducible repeat (first | refine blk_drewN ?_ _ | refine blk_drew ?_ | refine blk_alloc ?_ _)); refine blk_put (cs := #[.string ((rd_T74 l0_1 x9_1).f0), .bool ((rd_T74 l0_1 x9_1).f1), .slice A260_2 ((rd_T74 l0_1 x9_1).f2).length c260_2, .int .i64 ((rd_T74 l0_1 x9_1).f3), .int .i64 ((rd_T74 l0_1 x9_1).f4), .slice none 0 0]) ?_ 5 _ rfl; (with_reducible repeat (first | refine blk_drewN ?_ _ | refine blk_drew ?_ | refine blk_alloc ?_ _)); refine blk_put (cs := #[.string ((rd_T74 l0_1 x9_1).f0), .bool ((rd_T74 l0_1 x9_1).f1), .slice A260_2 ((rd_T74 l0_1 x9_1).f2).length c260_2, .int .i64 ((rd_T74 l0_1 x9_1).f3), .int .i64 0, .slice none 0 0]) ?_ 4 _ rfl; (with_reducible repeat (first | refine blk_drewN ?_ _ | refine blk_drew ?_ | refine blk_alloc ?_ _)); refine blk_put (cs := #[.string ((rd_T74 l0_1 x9_1).f0), .bool ((rd_T74 l0_1 x9_1).f1), .slice A260_2 ((rd_T74 l0_1 x9_1).f2).length c260_2, .int .i64 0, .int .i64 0, .slice none 0 0]) ?_ 3 _ rfl; (with_reducible repeat (first | refine blk_drewN ?_ _ | refine blk_drew ?_ | refine blk_alloc ?_ _)); refine blk_put (cs := #[.string ((rd_T74 l0_1 x9_1).f0), .bool ((rd_T74 l0_1 x9_1).f1), .slice none 0 0, .int .i64 0, .int .i64 0, .slice none 0 0]) ?_ 2 _ rfl; (with_reducible repeat (first | refine blk_drewN ?_ _ | refine blk_drew ?_ | refine blk_alloc ?_ _)); refine blk_put (cs := #[.string ((rd_T74 l0_1 x9_1).f0), .bool false, .slice none 0 0, .int .i64 0, .int .i64 0, .slice none 0 0]) ?_ 1 _ rfl; (with_reducible repeat (first | refine blk_drewN ?_ _ | refine blk_drew ?_ | refine blk_alloc ?_ _)); refine blk_put (cs := #[.string (⟨#[]⟩ : ByteArray), .bool false, .slice none 0 0, .int .i64 0, .int .i64 0, .slice none 0 0]) ?_ 0 _ rfl; (with_reducible repeat (first | refine blk_drewN ?_ _ | refine blk_drew ?_ | refine blk_alloc ?_ _)); exact BK261.out) hb); replace HB := Bs HB hb; (try clear hb); (try clear hb2); (try clear hk); (try clear hi); obtain ⟨hcz15_0, hcz15_1, hcz15_2, hcz15_3, hcz15_4, hcz15_5⟩ := bc6 (W := w14) BK261.out; obtain ⟨hfz15_0, hfz15_1, hfz15_2, hfz15_3, hfz15_4, hfz15_5⟩ := bf6 BK261.out) | (go_at_call 45; (with_reducible refine (slices_ContainsFunc_impl_CodeIns__impl_ObjOk_1.calls k1 _ _ ((rd_T74 l0_1 x9_1).f5)  true _ ?side1 ?side2 A9.out).mono ?_); (case side1 => exact Cb HR260_5 HB); (case side2 => exact HC260_5.out); rintro e w16 ⟨rfl, hb⟩; replace BK258 := Kb BK258 hb; replace BK261 := Kb BK261 hb; replace HB := Bs HB hb; (try clear hb); (try clear hb2); (try clear hk); (try clear hi)))
                go_ret
                exact ⟨by first | rfl | (simp [errW_none, errW_some] <;> rfl) | (simp [*, errW_none, errW_some] <;> rfl), Bp HB⟩
              · replace c10 := Bool.eq_false_iff.mpr c10
                subst c10
                have H1 : (impl_ObjOk.l0 k1 (wrap64 (x3_1 + (((rd_T74 l0_1 x9_1).f5).length : Int))) l0_1 (l0_1.length : Int) (wrap64 (x9_1 + 1)) l0_0 l0_1) = some r := by rw [if_neg (show ¬ (false = true) by decide)] at H; exact H
                clear H
                have H := H1
                clear H1
                have H' := Aside0.mk H
                clear H
                have p260 : 0 ≤ (x9_1 : Int) := of_decide_eq_true (by first | (with_reducible assumption) | assumption)
                have q260 : x9_1 < (l0_1.length : Int) := of_decide_eq_true (by first | (with_reducible assumption) | assumption)
                obtain ⟨ad260, A260_2, c260_2, A260_5, c260_5, e260, hx260_0, hx260_1, hx260_2, hx260_3, hx260_4, hx260_5, hl260_2, hi260_2, hl260_5, hi260_5⟩ := at_T74 HR0_1.out x9_1 p260 q260
                cases e260
                replace hx260_0 := (HB.out.cell (World.block_lt_of_cell? w _ hx260_0)).trans hx260_0
                replace hx260_1 := (HB.out.cell (World.block_lt_of_cell? w _ hx260_1)).trans hx260_1
                replace hx260_2 := (HB.out.cell (World.block_lt_of_cell? w _ hx260_2)).trans hx260_2
                replace hx260_3 := (HB.out.cell (World.block_lt_of_cell? w _ hx260_3)).trans hx260_3
                replace hx260_4 := (HB.out.cell (World.block_lt_of_cell? w _ hx260_4)).trans hx260_4
                replace hx260_5 := (HB.out.cell (World.block_lt_of_cell? w _ hx260_5)).trans hx260_5
                have HR260_2 := Aside0.mk hi260_2
                have HC260_2 := Aside0.mk hl260_2
                clear hi260_2 hl260_2
                have HR260_5 := Aside0.mk hi260_5
                have HC260_5 := Aside0.mk hl260_5
                clear hi260_5 hl260_5
                replace p260 := eq_true p260
                replace q260 := eq_true q260
                go_wp2_with (first | ((with_reducible refine gate_dst (N := 5) rfl ?_); (try (refine gate_guard (by rfl) ?_; dsimp only)); refine box_event ?hg (N := 5) ?hd (cs := #[.string (⟨#[]⟩ : ByteArray), .bool false, .slice none 0 0, .int .i64 0, .int .i64 0, .slice none 0 0]) (t := 74) ?hr ?_; (case hd => rfl); (case hg => rfl); (case hr => first | (go_simp; done) | (go_simp; rfl)); intro gb261 hg w17 hbox hb; have BK261 := Aside0.mk (hbox); have GW261 := Aside0.mk ((by rw [hg]; exact (below_size (Bp HB)) : w.heap.size ≤ gb261)); have GE261 := Aside0.mk ((by rw [hg]; exact (below_size (Bp HB)) : w.heap.size ≤ gb261)); replace HB := Bs HB hb; have NB258_261 := Aside0.mk ((by rw [hg]; exact Nat.ne_of_lt (blk_lt (Kp BK258)) : gb258 ≠ gb261)); have NB261_258 := Aside0.mk ((by rw [hg]; exact Nat.ne_of_gt (blk_lt (Kp BK258)) : gb261 ≠ gb258)); replace BK258 := Kb BK258 hb; clear hb hbox hg; have hnb18 := NB261_258.out; have hnc18 := NB258_261.out; obtain ⟨hcz19_0, hcz19_1, hcz19_2, hcz19_3, hcz19_4, hcz19_5⟩ := bc6 (W := w17) BK261.out; obtain ⟨hfz19_0, hfz19_1, hfz19_2, hfz19_3, hfz19_4, hfz19_5⟩ := bf6 BK261.out) | ((with_reducible refine gate_callee (f := 44) rfl ?_); refine goesL_ (some 26) rfl rfl Try.func44 (by kernel_rfl) rfl #[.string ((rd_T74 l0_1 x9_1).f0), .slice A260_2 ((rd_T74 l0_1 x9_1).f2).length c260_2, .int .i64 ((rd_T74 l0_1 x9_1).f3), .int .i64 ((rd_T74 l0_1 x9_1).f4)] rfl (by (try simp only [List.map_toArray, List.map_cons, List.map_nil]); first | done | rfl | (simp only [List.length_drop, List.length_take]; rfl)) ?_; (with_reducible refine (impl_headOk.calls k1 ((rd_T74 l0_1 x9_1).f0) _ _ ((rd_T74 l0_1 x9_1).f2) ((rd_T74 l0_1 x9_1).f3) ((rd_T74 l0_1 x9_1).f4) true _ ?side1 ?side2 A7.out).mono ?_); (case side1 => exact Kd.C_below HR260_2.out (Bp HB)); (case side2 => exact HC260_2.out); rintro e w20 ⟨rfl, hb⟩; refine ⟨_, rfl, ?_⟩; replace BK258 := Aside0.mk (blk_below (Kf BK258) hb); replace BK261 := Aside0.mk (blk_below (g := gb261) (o := .cells #[.string ((rd_T74 l0_1 x9_1).f0), .bool ((rd_T74 l0_1 x9_1).f1), .slice A260_2 ((rd_T74 l0_1 x9_1).f2).length c260_2, .int .i64 ((rd_T74 l0_1 x9_1).f3), .int .i64 ((rd_T74 l0_1 x9_1).f4), .slice A260_5 ((rd_T74 l0_1 x9_1).f5).length c260_5] 74 (0, 0)) (by (with_reducible repeat (first | refine blk_drewN ?_ _ | refine blk_drew ?_ | refine blk_alloc ?_ _)); refine blk_put (cs := #[.string ((rd_T74 l0_1 x9_1).f0), .bool ((rd_T74 l0_1 x9_1).f1), .slice A260_2 ((rd_T74 l0_1 x9_1).f2).length c260_2, .int .i64 ((rd_T74 l0_1 x9_1).f3), .int .i64 ((rd_T74 l0_1 x9_1).f4), .slice none 0 0]) ?_ 5 _ rfl; (with_reducible repeat (first | refine blk_drewN ?_ _ | refine blk_drew ?_ | refine blk_alloc ?_ _)); refine blk_put (cs := #[.string ((rd_T74 l0_1 x9_1).f0), .bool ((rd_T74 l0_1 x9_1).f1), .slice A260_2 ((rd_T74 l0_1 x9_1).f2).length c260_2, .int .i64 ((rd_T74 l0_1 x9_1).f3), .int .i64 0, .slice none 0 0]) ?_ 4 _ rfl; (with_reducible repeat (first | refine blk_drewN ?_ _ | refine blk_drew ?_ | refine blk_alloc ?_ _)); refine blk_put (cs := #[.string ((rd_T74 l0_1 x9_1).f0), .bool ((rd_T74 l0_1 x9_1).f1), .slice A260_2 ((rd_T74 l0_1 x9_1).f2).length c260_2, .int .i64 0, .int .i64 0, .slice none 0 0]) ?_ 3 _ rfl; (with_reducible repeat (first | refine blk_drewN ?_ _ | refine blk_drew ?_ | refine blk_alloc ?_ _)); refine blk_put (cs := #[.string ((rd_T74 l0_1 x9_1).f0), .bool ((rd_T74 l0_1 x9_1).f1), .slice none 0 0, .int .i64 0, .int .i64 0, .slice none 0 0]) ?_ 2 _ rfl; (with_reducible repeat (first | refine blk_drewN ?_ _ | refine blk_drew ?_ | refine blk_alloc ?_ _)); refine blk_put (cs := #[.string ((rd_T74 l0_1 x9_1).f0), .bool false, .slice none 0 0, .int .i64 0, .int .i64 0, .slice none 0 0]) ?_ 1 _ rfl; (with_reducible repeat (first | refine blk_drewN ?_ _ | refine blk_drew ?_ | refine blk_alloc ?_ _)); refine blk_put (cs := #[.string (⟨#[]⟩ : ByteArray), .bool false, .slice none 0 0, .int .i64 0, .int .i64 0, .slice none 0 0]) ?_ 0 _ rfl; (with_reducible repeat (first | refine blk_drewN ?_ _ | refine blk_drew ?_ | refine blk_alloc ?_ _)); exact BK261.out) hb); replace HB := Bs HB hb; (try clear hb); (try clear hb2); (try clear hk); (try clear hi); obtain ⟨hcz21_0, hcz21_1, hcz21_2, hcz21_3, hcz21_4, hcz21_5⟩ := bc6 (W := w20) BK261.out; obtain ⟨hfz21_0, hfz21_1, hfz21_2, hfz21_3, hfz21_4, hfz21_5⟩ := bf6 BK261.out) | (go_at_call 45; (with_reducible refine (slices_ContainsFunc_impl_CodeIns__impl_ObjOk_1.calls k1 _ _ ((rd_T74 l0_1 x9_1).f5)  false _ ?side1 ?side2 A9.out).mono ?_); (case side1 => exact Cb HR260_5 HB); (case side2 => exact HC260_5.out); rintro e w22 ⟨rfl, hb⟩; replace BK258 := Kb BK258 hb; replace BK261 := Kb BK261 hb; replace HB := Bs HB hb; (try clear hb); (try clear hb2); (try clear hk); (try clear hi)))
                go_roundg k1
                case measure => have := HK1.out; omega
                case rel => exact ⟨(wrap64 (x3_1 + (((rd_T74 l0_1 x9_1).f5).length : Int))), (wrap64 (x9_1 + 1)), (by first | rfl | (simp; done) | (simp [*]; done)), (by first | rfl | (simp; done) | (simp [*]; done)), H', ⟨by have := HK1.out; omega⟩, ⟨by (with_reducible repeat (first | refine blk_drewN ?_ _ | refine blk_drew ?_ | refine blk_alloc ?_ _)); exact BK258.out⟩, ⟨Bp HB⟩⟩
            · replace c8 := Bool.eq_false_iff.mpr c8
              subst c8
              have H1 : (some false) = some r := by rw [if_neg (show ¬ (false = true) by decide)] at H; exact H
              clear H
              have H := H1
              clear H1
              obtain rfl := Option.some.inj H
              have p260 : 0 ≤ (x9_1 : Int) := of_decide_eq_true (by first | (with_reducible assumption) | assumption)
              have q260 : x9_1 < (l0_1.length : Int) := of_decide_eq_true (by first | (with_reducible assumption) | assumption)
              obtain ⟨ad260, A260_2, c260_2, A260_5, c260_5, e260, hx260_0, hx260_1, hx260_2, hx260_3, hx260_4, hx260_5, hl260_2, hi260_2, hl260_5, hi260_5⟩ := at_T74 HR0_1.out x9_1 p260 q260
              cases e260
              replace hx260_0 := (HB.out.cell (World.block_lt_of_cell? w _ hx260_0)).trans hx260_0
              replace hx260_1 := (HB.out.cell (World.block_lt_of_cell? w _ hx260_1)).trans hx260_1
              replace hx260_2 := (HB.out.cell (World.block_lt_of_cell? w _ hx260_2)).trans hx260_2
              replace hx260_3 := (HB.out.cell (World.block_lt_of_cell? w _ hx260_3)).trans hx260_3
              replace hx260_4 := (HB.out.cell (World.block_lt_of_cell? w _ hx260_4)).trans hx260_4
              replace hx260_5 := (HB.out.cell (World.block_lt_of_cell? w _ hx260_5)).trans hx260_5
              have HR260_2 := Aside0.mk hi260_2
              have HC260_2 := Aside0.mk hl260_2
              clear hi260_2 hl260_2
              have HR260_5 := Aside0.mk hi260_5
              have HC260_5 := Aside0.mk hl260_5
              clear hi260_5 hl260_5
              replace p260 := eq_true p260
              replace q260 := eq_true q260
              go_wp2_with (first | ((with_reducible refine gate_dst (N := 5) rfl ?_); (try (refine gate_guard (by rfl) ?_; dsimp only)); refine box_event ?hg (N := 5) ?hd (cs := #[.string (⟨#[]⟩ : ByteArray), .bool false, .slice none 0 0, .int .i64 0, .int .i64 0, .slice none 0 0]) (t := 74) ?hr ?_; (case hd => rfl); (case hg => rfl); (case hr => first | (go_simp; done) | (go_simp; rfl)); intro gb261 hg w23 hbox hb; have BK261 := Aside0.mk (hbox); have GW261 := Aside0.mk ((by rw [hg]; exact (below_size (Bp HB)) : w.heap.size ≤ gb261)); have GE261 := Aside0.mk ((by rw [hg]; exact (below_size (Bp HB)) : w.heap.size ≤ gb261)); replace HB := Bs HB hb; have NB258_261 := Aside0.mk ((by rw [hg]; exact Nat.ne_of_lt (blk_lt (Kp BK258)) : gb258 ≠ gb261)); have NB261_258 := Aside0.mk ((by rw [hg]; exact Nat.ne_of_gt (blk_lt (Kp BK258)) : gb261 ≠ gb258)); replace BK258 := Kb BK258 hb; clear hb hbox hg; have hnb24 := NB261_258.out; have hnc24 := NB258_261.out; obtain ⟨hcz25_0, hcz25_1, hcz25_2, hcz25_3, hcz25_4, hcz25_5⟩ := bc6 (W := w23) BK261.out; obtain ⟨hfz25_0, hfz25_1, hfz25_2, hfz25_3, hfz25_4, hfz25_5⟩ := bf6 BK261.out) | ((with_reducible refine gate_callee (f := 44) rfl ?_); refine goesL_ (some 26) rfl rfl Try.func44 (by kernel_rfl) rfl #[.string ((rd_T74 l0_1 x9_1).f0), .slice A260_2 ((rd_T74 l0_1 x9_1).f2).length c260_2, .int .i64 ((rd_T74 l0_1 x9_1).f3), .int .i64 ((rd_T74 l0_1 x9_1).f4)] rfl (by (try simp only [List.map_toArray, List.map_cons, List.map_nil]); first | done | rfl | (simp only [List.length_drop, List.length_take]; rfl)) ?_; (with_reducible refine (impl_headOk.calls k1 ((rd_T74 l0_1 x9_1).f0) _ _ ((rd_T74 l0_1 x9_1).f2) ((rd_T74 l0_1 x9_1).f3) ((rd_T74 l0_1 x9_1).f4) false _ ?side1 ?side2 A7.out).mono ?_); (case side1 => exact Kd.C_below HR260_2.out (Bp HB)); (case side2 => exact HC260_2.out); rintro e w26 ⟨rfl, hb⟩; refine ⟨_, rfl, ?_⟩; replace BK258 := Aside0.mk (blk_below (Kf BK258) hb); replace BK261 := Aside0.mk (blk_below (g := gb261) (o := .cells #[.string ((rd_T74 l0_1 x9_1).f0), .bool ((rd_T74 l0_1 x9_1).f1), .slice A260_2 ((rd_T74 l0_1 x9_1).f2).length c260_2, .int .i64 ((rd_T74 l0_1 x9_1).f3), .int .i64 ((rd_T74 l0_1 x9_1).f4), .slice A260_5 ((rd_T74 l0_1 x9_1).f5).length c260_5] 74 (0, 0)) (by (with_reducible repeat (first | refine blk_drewN ?_ _ | refine blk_drew ?_ | refine blk_alloc ?_ _)); refine blk_put (cs := #[.string ((rd_T74 l0_1 x9_1).f0), .bool ((rd_T74 l0_1 x9_1).f1), .slice A260_2 ((rd_T74 l0_1 x9_1).f2).length c260_2, .int .i64 ((rd_T74 l0_1 x9_1).f3), .int .i64 ((rd_T74 l0_1 x9_1).f4), .slice none 0 0]) ?_ 5 _ rfl; (with_reducible repeat (first | refine blk_drewN ?_ _ | refine blk_drew ?_ | refine blk_alloc ?_ _)); refine blk_put (cs := #[.string ((rd_T74 l0_1 x9_1).f0), .bool ((rd_T74 l0_1 x9_1).f1), .slice A260_2 ((rd_T74 l0_1 x9_1).f2).length c260_2, .int .i64 ((rd_T74 l0_1 x9_1).f3), .int .i64 0, .slice none 0 0]) ?_ 4 _ rfl; (with_reducible repeat (first | refine blk_drewN ?_ _ | refine blk_drew ?_ | refine blk_alloc ?_ _)); refine blk_put (cs := #[.string ((rd_T74 l0_1 x9_1).f0), .bool ((rd_T74 l0_1 x9_1).f1), .slice A260_2 ((rd_T74 l0_1 x9_1).f2).length c260_2, .int .i64 0, .int .i64 0, .slice none 0 0]) ?_ 3 _ rfl; (with_reducible repeat (first | refine blk_drewN ?_ _ | refine blk_drew ?_ | refine blk_alloc ?_ _)); refine blk_put (cs := #[.string ((rd_T74 l0_1 x9_1).f0), .bool ((rd_T74 l0_1 x9_1).f1), .slice none 0 0, .int .i64 0, .int .i64 0, .slice none 0 0]) ?_ 2 _ rfl; (with_reducible repeat (first | refine blk_drewN ?_ _ | refine blk_drew ?_ | refine blk_alloc ?_ _)); refine blk_put (cs := #[.string ((rd_T74 l0_1 x9_1).f0), .bool false, .slice none 0 0, .int .i64 0, .int .i64 0, .slice none 0 0]) ?_ 1 _ rfl; (with_reducible repeat (first | refine blk_drewN ?_ _ | refine blk_drew ?_ | refine blk_alloc ?_ _)); refine blk_put (cs := #[.string (⟨#[]⟩ : ByteArray), .bool false, .slice none 0 0, .int .i64 0, .int .i64 0, .slice none 0 0]) ?_ 0 _ rfl; (with_reducible repeat (first | refine blk_drewN ?_ _ | refine blk_drew ?_ | refine blk_alloc ?_ _)); exact BK261.out) hb); replace HB := Bs HB hb; (try clear hb); (try clear hb2); (try clear hk); (try clear hi)))
              go_ret
              exact ⟨by first | rfl | (simp [errW_none, errW_some] <;> rfl) | (simp [*, errW_none, errW_some] <;> rfl), Bp HB⟩
          · rw [if_neg c6] at H
            exact absurd H (by simp)
        · rw [if_neg c5] at H
          exact absurd H (by simp)
      · rw [if_neg c4] at H
        have c4b0 : decide (x9_1 < (l0_1.length : Int)) = false := decide_eq_false c4
        clear c4
        by_cases c27 : (l0_0.length : Int) ≤ 40
        · rw [if_pos c27] at H
          have c27b0 : decide ((l0_0.length : Int) ≤ 40) = true := decide_eq_true c27
          have c27b1 : decide (l0_0.length ≤ 40) = true := decide_eq_true (by omega)
          clear c27
          by_cases c28 : (l0_1.length : Int) ≤ 9
          · rw [if_pos c28] at H
            have c28b0 : decide ((l0_1.length : Int) ≤ 9) = true := decide_eq_true c28
            have c28b1 : decide (l0_1.length ≤ 9) = true := decide_eq_true (by omega)
            clear c28
            by_cases c29 : x3_1 ≤ 460
            · rw [if_pos c29] at H
              have c29b0 : decide (x3_1 ≤ 460) = true := decide_eq_true c29
              clear c29
              replace H := Option.bind_eq_some_iff.mp H
              obtain ⟨t259, A300, H⟩ := H
              replace H : (some (!t259)) = some r := H
              have A30 := Aside0.mk A300
              clear A300
              obtain rfl := Option.some.inj H
              obtain ⟨hcz31_0, hcz31_1⟩ := bc2 (W := wr) BK258.out
              obtain ⟨hfz31_0, hfz31_1⟩ := bf2 BK258.out
              go_wp2_with (first | (go_at_call 48; (with_reducible refine (slices_ContainsFunc_impl_CodeRef__impl_ObjOk_2.calls k1 _ _ l0_0  t259 _ ?side1 ?side2 A30.out).mono ?_); (case side1 => exact Cb HR0_0 HB); (case side2 => exact HC0_0.out); rintro e w32 ⟨rfl, hb⟩; replace BK258 := Kb BK258 hb; replace HB := Bs HB hb; (try clear hb); (try clear hb2); (try clear hk); (try clear hi)))
              go_ret
              exact ⟨by first | rfl | (simp [errW_none, errW_some] <;> rfl) | (simp [*, errW_none, errW_some] <;> rfl), Bp HB⟩
            · rw [if_neg c29] at H
              have c29b0 : decide (x3_1 ≤ 460) = false := decide_eq_false c29
              clear c29
              obtain rfl := Option.some.inj H
              obtain ⟨hcz33_0, hcz33_1⟩ := bc2 (W := wr) BK258.out
              obtain ⟨hfz33_0, hfz33_1⟩ := bf2 BK258.out
              go_wp2
              go_ret
              exact ⟨by first | rfl | (simp [errW_none, errW_some] <;> rfl) | (simp [*, errW_none, errW_some] <;> rfl), Bp HB⟩
          · rw [if_neg c28] at H
            have c28b0 : decide ((l0_1.length : Int) ≤ 9) = false := decide_eq_false c28
            have c28b1 : decide (l0_1.length ≤ 9) = false := decide_eq_false (by omega)
            clear c28
            obtain rfl := Option.some.inj H
            obtain ⟨hcz34_0, hcz34_1⟩ := bc2 (W := wr) BK258.out
            obtain ⟨hfz34_0, hfz34_1⟩ := bf2 BK258.out
            go_wp2
            go_ret
            exact ⟨by first | rfl | (simp [errW_none, errW_some] <;> rfl) | (simp [*, errW_none, errW_some] <;> rfl), Bp HB⟩
        · rw [if_neg c27] at H
          have c27b0 : decide ((l0_0.length : Int) ≤ 40) = false := decide_eq_false c27
          have c27b1 : decide (l0_0.length ≤ 40) = false := decide_eq_false (by omega)
          clear c27
          obtain rfl := Option.some.inj H
          obtain ⟨hcz35_0, hcz35_1⟩ := bc2 (W := wr) BK258.out
          obtain ⟨hfz35_0, hfz35_1⟩ := bf2 BK258.out
          go_wp2
          go_ret
          exact ⟨by first | rfl | (simp [errW_none, errW_some] <;> rfl) | (simp [*, errW_none, errW_some] <;> rfl), Bp HB⟩

end Go.Proofs.Ytnebeklmfenikaa.Q
