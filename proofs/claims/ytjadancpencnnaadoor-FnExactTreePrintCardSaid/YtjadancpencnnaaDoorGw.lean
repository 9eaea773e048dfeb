/- What slices.Grow does in this program, at the slice that is nil. -/
import Derived.Test.YtjadancpencnnaaDoorHMHook
import Derived.Test.YtjadancpencnnaaDoorProg
import Derived.WalkKit
import Derived.KernelRfl
import Derived.Lib.Walk
import Derived.Lib.SliceRun
set_option linter.unusedSimpArgs false
set_option linter.unusedVariables false
namespace Go.D
open Go.HM Go.Proofs Go.RowKit Go.Lib
set_option maxHeartbeats 4000000
set_option maxRecDepth 100000
theorem gwInfo_131 : (Tryd.prog.info? 9).isSome = true := by kernel_rfl
noncomputable def gwI_131 : TypeInfo := match Tryd.prog.info? 9 with | some i => i | none => default
theorem gwI_131_eq : Tryd.prog.info? 9 = some gwI_131 := by kernel_rfl
theorem gwI_131_size : gwI_131.size = 1 := by kernel_rfl
theorem gwI_131_bytes : gwI_131.bytes = 16 := by kernel_rfl
noncomputable def gwZ_131 : Value := match gwI_131.zero with | some i => i | none => default
theorem gwZ_131_eq : gwI_131.zero = some gwZ_131 := by kernel_rfl
theorem gwZ_131_cells : gwZ_131.cells.size = 1 := by kernel_rfl
theorem gwNone_131 (w : World) : Calls Tryd.prog 131 #[.slice none 0 0, .int .i64 0] w fun e w' => e = .returned (.slice none 0 0) ∧ w' = w := by
  go_enter Tryd.func131, Tryd.ntmps131
  go_wp2
  go_ret
  exact ⟨rfl, rfl⟩
theorem gwSome_131 (n : Nat) (w : World) (h0 : 0 < n) (hb : n * 16 ≤ 140737488355328) (h63 : n ≤ 4611686018427387904) :
    Calls Tryd.prog 131 #[.slice none 0 0, .int .i64 n] w fun e w' => ∃ (c : Nat) (cs : Array Value) (t : TypeId), e = .returned (.slice (some ⟨w.heap.size, 0, none⟩) 0 c) ∧ w' = w.drew.alloc (.cells cs t) ∧ c * 1 ≤ cs.size := by
  have h1 : ¬ ((n : Int) < 0) := by omega
  have h2 : wrap64 ((0 : Int) - (0 : Int)) = 0 := by unfold wrap64; omega
  have h3 : wrap64 ((n : Int) - 0) = (n : Int) := by unfold wrap64; omega
  have h4 : (n : Int) > 0 := by omega
  have hsz := grow_room (w := w) (n := n) (E := 9) (z := gwZ_131) gwZ_131_cells
  have hrz : ∀ ty, (Builtin.append_ #[34, 3] ty #[.slice none 0 0, .int .i64 (n : Int)]).run Tryd.prog w =
      .ok (.slice (some ⟨w.heap.size, 0, none⟩) n (grownCap w n 0 9)) (w.drew.alloc (.cells ((#[] : Array Value) ++ Builtin.zeroCells gwZ_131.cells n ++ Builtin.zeroCells gwZ_131.cells (grownCap w n 0 9 - n)) 9)) := fun ty => by
    have h := Lib.run_append_grow_zeros w 34 3 ty 9 gwI_131 gwZ_131 .i64 .i64 Tryd.underlying34 Tryd.underlying3 gwI_131_eq gwZ_131_eq none 0 0 [] (run_firstCells_none w.drew _ 0 0 0) n h0 (by rw [gwI_131_size]; decide) (by omega) (by omega) (by rw [gwI_131_bytes]; omega)
      (by rw [Nat.zero_add]; exact growslice_fits (by omega) (by rw [gwI_131_bytes]; exact hb))
    rw [Nat.zero_add] at h
    exact h
  have hGn : n ≤ grownCap w n 0 9 := grownCap_ge w _ _ _
  obtain ⟨Z, hZ⟩ : ∃ Z, Z = ((#[] : Array Value) ++ Builtin.zeroCells gwZ_131.cells n ++ Builtin.zeroCells gwZ_131.cells (grownCap w n 0 9 - n)) := ⟨_, rfl⟩
  rw [← hZ] at hrz hsz
  obtain ⟨G, hG⟩ : ∃ G, G = grownCap w n 0 9 := ⟨_, rfl⟩
  rw [← hG] at hrz hGn hsz
  have hG63 : G ≤ 9223372036854775807 := by
    have := grownCap_le_maxLen w n 0 9 (by unfold maxLen; omega)
    rw [← hG] at this
    unfold maxLen at this
    omega
  have key : Calls Tryd.prog 131 #[.slice none 0 0, .int .i64 n] w fun e w' => e = .returned (.slice (some ⟨w.heap.size, 0, none⟩) 0 G) ∧ w' = w.drew.alloc (.cells Z 9) := by
    go_enter Tryd.func131, Tryd.ntmps131
    go_wp2_with (at_builtin; refine Lib.wpList_append_run _ rfl _ _ _ _ rfl _ _ rfl rfl _ _ (hrz _) ?_)
    all_goals (go_ret; exact ⟨rfl, rfl⟩)
  refine key.mono ?_
  rintro e w' ⟨rfl, rfl⟩
  exact ⟨G, Z, 9, rfl, rfl, hsz⟩
end Go.D
