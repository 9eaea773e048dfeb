/- What strings.Builder's copyCheck and String do in this program, as the small machine tells it. -/
import Derived.Test.YtiefmflpmmgoaaaGreatDoorHMBuild
import Derived.Test.YtiefmflpmmgoaaaGreatDoorProg
import Derived.WalkKit
import Derived.KernelRfl
set_option linter.unusedSimpArgs false
set_option linter.unusedVariables false
namespace Go.F
open Go.HM Go.Proofs Go.RowKit
abbrev hbT : Nat := 75
abbrev hbU : Nat := 5
noncomputable def hbInfo : TypeInfo := match Tryz.prog.info? 75 with | some i => i | none => default
theorem hbInfo_eq : Tryz.prog.info? 75 = some hbInfo := by kernel_rfl
theorem hbSize : hbInfo.size = 2 := by kernel_rfl
theorem hbCells : Tryz.prog.cellsOf 75 = 2 := by kernel_rfl
theorem hbLies {n : Nat} (h : 2 ≤ n) : liesAt Tryz.prog Tryz.prog.depth 75 (n / Tryz.prog.cellsOf 75) 0 75 1 = true := by
  rw [hbCells]
  obtain ⟨k, hk⟩ : ∃ k, n / 2 = k + 1 := ⟨n / 2 - 1, by omega⟩
  rw [hk]
  obtain ⟨d, hd⟩ : ∃ d, Tryz.prog.depth = d + 1 := ⟨Tryz.prog.depth - 1, by kernel_rfl⟩
  have h1 : sameLayout Tryz.prog Tryz.prog.depth 75 75 = true := by kernel_rfl
  have h2 : rowAt Tryz.prog (sameLayout Tryz.prog Tryz.prog.depth · 75) Tryz.prog.depth 75 (k + 1) 0 1 = true := by
    rw [hd]
    unfold rowAt
    simp only [hbCells]
    rw [← hd]
    simp [h1]
  rw [hd] at h2 ⊢
  unfold liesAt
  rw [hd]
  simp [h2]
set_option maxHeartbeats 2000000
set_option maxRecDepth 100000
theorem hbUsed (b : Nat) (w : World) (h0 : w.cell? ⟨b, 0, none⟩ = some (.pointer (some ⟨b, 0, none⟩))) :
    Calls Tryz.prog 71 #[.pointer (some ⟨b, 0, none⟩)] w fun e w' => e = .returned (.tuple #[]) ∧ w' = w := by
  go_enter Tryz.func71, Tryz.ntmps71
  go_wp2
  rw [Lib.run_neq_ptr_same w _ Tryz.underlying72 hbInfo_eq]
  go_wp2
  go_end0
  exact ⟨rfl, rfl⟩
theorem hbFirst (b n : Nat) (w : World) (h0 : w.cell? ⟨b, 0, none⟩ = some (.pointer none)) (hsh : w.shape? b = some (75, n)) (hn : 2 ≤ n) (hfz : w.frozen? ⟨b, 0, none⟩ = false) :
    Calls Tryz.prog 71 #[.pointer (some ⟨b, 0, none⟩)] w fun e w' => e = .returned (.tuple #[]) ∧ w' = w.setCell ⟨b, 0, none⟩ (.pointer (some ⟨b, 0, none⟩)) := by
  go_enter Tryz.func71, Tryz.ntmps71
  go_wp2
  rw [Lib.run_to_unsafe w ⟨b, 0, none⟩ Tryz.underlying72 Tryz.underlying108 hbInfo_eq (by rw [hbSize]; decide) hsh (by show 0 < n; omega)]
  simp only [Result.andThen]
  rw [Oper.upon_value]
  go_wp2
  rw [run_callFunc_extern Tryz.func96 (by kernel_rfl) (by kernel_rfl) (by kernel_rfl) (e := Extern.AbiNoEscape.same) (by kernel_rfl)]
  rw [Lib.run_noEscape]
  simp only [Result.andThen]
  rw [Oper.upon_value]
  go_wp2
  rw [Lib.run_from_unsafe w ⟨b, 0, none⟩ Tryz.underlying108 Tryz.underlying72 hbInfo_eq hsh (hbLies hn)]
  simp only [Result.andThen]
  rw [Oper.upon_value]
  go_wp2
  go_end0
  exact ⟨rfl, rfl⟩
theorem hbNone (b : Nat) (cs : Array Value) (p : Value) (w : World) (hb : w.heap[b]? = some (.cells cs 75 (0, 0))) (hp : cs[0]? = some p) (hs : cs[1]? = some (.slice none 0 0)) :
    Calls Tryz.prog 49 #[.pointer (some ⟨b, 0, none⟩)] w fun e w' => e = .returned (.string ⟨#[]⟩) ∧ ∃ n, w' = w.drewN n := by
  have hUS : ∀ (W : World) (q : Option Addr), (Builtin.unsafeString_ #[91, 3] 9 #[.pointer q, .int .i64 0]).run Tryz.prog W = .ok (.string .empty) W := fun W q => Lib.run_unsafeString_none W _ _ _ q
  have c0 : w.cell? ⟨b, 1, none⟩ = some (.slice none 0 0) := by simp [World.cell?, hb, hs]
  have c1 : w.drew.cell? ⟨b, 1, none⟩ = some (.slice none 0 0) := c0
  have hSD : (Builtin.unsafeSliceData_ #[73] 91 #[.slice none 0 0]).run Tryz.prog w.drew = .ok (.pointer none) w.drew := rfl
  go_enter Tryz.func49, Tryz.ntmps49
  go_wp2
  go_region
  all_goals (go_wp2; go_ret; exact ⟨rfl, 1, rfl⟩)
theorem hbSome (b : Nat) (cs : Array Value) (g cap : Nat) (cur : Array Value) (l : List UInt8) (w : World) (hb : w.heap[b]? = some (.cells cs 75 (0, 0))) (hs : cs[1]? = some (.slice (some ⟨g, 0, none⟩) l.length cap)) (hg : w.heap[g]? = some (.cells cur 5 (0, 0))) (h0 : l ≠ []) (hcap : l.length ≤ cap) (hcur : l.length ≤ cur.size) (hbig : l.length ≤ 4611686018427387904)
    (hcell : ∀ (j : Nat) (x : UInt8), l[j]? = some x → cur[j]? = some (Value.int .u8 (x.toNat : Int))) :
    Calls Tryz.prog 49 #[.pointer (some ⟨b, 0, none⟩)] w fun e w' => e = .returned (.string ⟨l.toArray⟩) ∧ ∃ n, w' = (w.drewN n).freeze ⟨g, 0, none⟩ l.length := by
  have hl0 : l.length ≠ 0 := by simpa using h0
  have c0 : w.cell? ⟨b, 1, none⟩ = some (.slice (some ⟨g, 0, none⟩) l.length cap) := by simp [World.cell?, hb, hs]
  have c1 : w.drew.cell? ⟨b, 1, none⟩ = some (.slice (some ⟨g, 0, none⟩) l.length cap) := c0
  have hSD : (Builtin.unsafeSliceData_ #[73] 91 #[.slice (some ⟨g, 0, none⟩) l.length cap]).run Tryz.prog w.drew = .ok (.pointer (some ⟨g, 0, none⟩)) w.drew :=
    Lib.run_unsafeSliceData_row _ _ _ _ _ _ (by omega)
  have hUS : (Builtin.unsafeString_ #[91, 3] 9 #[.pointer (some ⟨g, 0, none⟩), .int .i64 l.length]).run Tryz.prog w.drew = .ok (.string ⟨l.toArray⟩) (w.drew.freeze ⟨g, 0, none⟩ l.length) := by
    have hg' : w.drew.heap[g]? = some (.cells cur 5 (0, 0)) := hg
    refine Lib.run_unsafeString_row w.drew 91 3 9 5 Tryz.underlying91 (by kernel_rfl) g cur.size (by simp [World.shape?, hg']) l h0 hcur (by omega) ?_
    intro j x hx
    have := hcell j x hx
    have e : (⟨g, 0, none⟩ : Addr).add j = ⟨g, j, none⟩ := by simp [Addr.add]; intro h; exact h.symm
    rw [e]
    simp [World.cell?, hg', this]
  go_enter Tryz.func49, Tryz.ntmps49
  go_wp2
  go_region
  all_goals (go_wp2; go_ret; exact ⟨rfl, 1, rfl⟩)
end Go.F
