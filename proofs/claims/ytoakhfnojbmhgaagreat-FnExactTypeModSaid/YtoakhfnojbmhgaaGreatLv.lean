/- impl.lastVar: a range over slices.Backward (turned from a worked proof on slices.All). -/
import Derived.Test.YtoakhfnojbmhgaaGreatHMLast
import Derived.RangeFuncBox
import Derived.RangeFuncLeaves
import Derived.RangeFuncNested
import Derived.Shelf.Abstract
import Derived.WalkKit
import Derived.OwnWalkIn
import Derived.TacticsInMore
import Derived.LoopNIn
import Derived.LoopIn
import Derived.Deep.MidRow
import Derived.Test.YtoakhfnojbmhgaaGreatProg
set_option linter.unusedSimpArgs false
set_option linter.unusedVariables false
namespace Go.G
open Go.Proofs Go.RowKit Go.Shelf Go.HM
attribute [local go_sem] Oper.semAt_some
/-- Pair j of the slice. -/
def lvAt (l : List (ByteArray × Int)) (j : Nat) : ByteArray × Int := l[j]?.getD (⟨#[]⟩, 0)
/-- What has come when k rounds are over: from the last on. -/
def lvUp (l : List (ByteArray × Int)) (k : Nat) : List (Nat × ByteArray × Int) := (List.range k).map fun j => (l.length - 1 - j, lvAt l (l.length - 1 - j))
theorem lvUp_succ (l : List (ByteArray × Int)) (k : Nat) : lvUp l (k + 1) = lvUp l k ++ [(l.length - 1 - k, lvAt l (l.length - 1 - k))] := by simp [lvUp, List.range_succ]
theorem lvUp_length (l : List (ByteArray × Int)) (k : Nat) : (lvUp l k).length = k := by simp [lvUp]
abbrev lvEnc (x : Nat × ByteArray × Int) : Array Value := #[.int .i64 (x.1 : Int), .agg #[.string x.2.1, .int .i64 x.2.2]]
set_option maxRecDepth 100000 in
set_option maxHeartbeats 2000000 in
theorem lv_back1 (F : Fence) (n : Nat) (h8 : F.fn 119) (hro : F.round = none) (hn : 1 ≤ n) (t Bs n₀ c : Nat) (l : List (ByteArray × Int)) (a : Option Addr) (hreach : l.length ≤ 1073741824) (J Jx : List (Nat × ByteArray × Int) → World → Prop)
    (hY : ∀ pre x W, J pre W → pre.length < l.length → YieldAt F (n - 1) Tryz.prog t (lvEnc x) W fun e W' =>
      (e = .returned (.bool true) ∧ J (pre ++ [x]) W' ∧ Below n₀ W W') ∨ (e = .returned (.bool false) ∧ Jx (pre ++ [x]) W'))
    (W : World) (hB0 : Bs < n₀) (hBs : W.cell? ⟨Bs, 0, none⟩ = some (.slice a l.length c)) (hc : Prs n₀ W a l) (h0 : J [] W) :
    CallsIn F n Tryz.prog 119 #[.func (.yield t) #[] #[], .pointer (some ⟨Bs, 0, none⟩)] W fun e W' => (∃ v, e = .returned v) ∧
      ((∃ ys, ys = lvUp l l.length ∧ J ys W') ∨ (∃ pre, (∃ k, k ≤ l.length ∧ pre = lvUp l k) ∧ Jx pre W')) := by
  refine callsIn_of_wp Tryz.func119 rfl h8 ?_ hro
  simp only [Tryz.ntmps119, List.size_toArray, List.length_cons, List.length_nil, Nat.reduceAdd, Nat.reduceSub, Array.replicate_succ, Array.replicate_zero, List.push_toArray, List.append_toArray, List.nil_append, List.cons_append]
  gi_wp2
  have hw0 : wrap64 ((l.length : Int) - 1) = (l.length : Int) - 1 := by unfold wrap64; omega
  gi_loopw [3] (fun i wr => ∃ k : Nat, k ≤ l.length ∧ i = .int .i64 ((l.length : Int) - 1 - k) ∧ J (lvUp l k) wr ∧ Below n₀ W wr)
    (fun i _ => (intOf i + 1).toNat)
  case atStart => exact ⟨0, Nat.zero_le _, by simp [hw0], h0, Below.refl _ _⟩
  case round =>
    obtain ⟨k, hk, rfl, hJs, hnx⟩ := hrel
    have hcx := hc.below hnx
    have hBx : wr.cell? ⟨Bs, 0, none⟩ = some (.slice a l.length c) := (hnx.cell (p := ⟨Bs, 0, none⟩) hB0).trans hBs
    by_cases hlt : k < l.length
    · obtain ⟨fn, tmps, assign, body, hy, hR⟩ := hY _ (l.length - 1 - k, lvAt l (l.length - 1 - k)) wr hJs (by rw [lvUp_length]; exact hlt)
      dsimp only [lvEnc] at hy
      have hge : (0 : Int) ≤ (l.length : Int) - 1 - k := by omega
      obtain ⟨x, hx⟩ : ∃ x, l[l.length - 1 - k]? = some x := ⟨_, List.getElem?_eq_getElem (by omega)⟩
      have hxa : lvAt l (l.length - 1 - k) = x := by unfold lvAt; rw [hx]; rfl
      rw [hxa] at hy hR
      rcases hcx with rfl | ⟨b, off, rfl, hb, hcs⟩
      · simp at hlt
      obtain ⟨hc1, hc2⟩ := hcs _ _ hx
      have hi : ((l.length - 1 - k : Nat) : Int) = (l.length : Int) - 1 - k := by omega
      have hw1 : wrap64 ((l.length : Int) - 1 - k - 1) = (l.length : Int) - 1 - k - 1 := by unfold wrap64; omega
      rw [hi] at hy
      gi_wp2
      refine hR.mono ?_
      rintro e W3 (⟨rfl, hJ3, hk3⟩ | ⟨rfl, hJx3⟩)
      · gi_wp2
        go_roundw
        case rel => exact ⟨k + 1, by omega, by simp [hw1]; omega, by rw [lvUp_succ, hxa]; exact hJ3, hnx.trans hk3⟩
        case measure => simp [intOf, hw1]; omega
      · gi_wp2
        refine bodyPost_ret (results_none rfl _ _ _) rfl ?_
        exact ⟨⟨_, rfl⟩, .inr ⟨_, ⟨k + 1, by omega, by rw [lvUp_succ, hxa]⟩, hJx3⟩⟩
    · obtain rfl : k = l.length := by omega
      have hlt' : ¬ ((0 : Int) ≤ (l.length : Int) - 1 - l.length) := by omega
      gi_wp2
      go_end0
      exact ⟨⟨_, rfl⟩, .inl hJs⟩
theorem lvAt_some {l : List (ByteArray × Int)} {j : Nat} (h : j < l.length) : l[j]? = some (lvAt l j) := by
  unfold lvAt
  rw [List.getElem?_eq_getElem h]
  rfl
set_option maxHeartbeats 1000000 in
theorem lv_back (F : Fence) (n : Nat) (h6 : F.fn 97) (hro : F.round = none) (a : Option Addr) (len cap : Nat) (w : World) :
    CallsIn F n Tryz.prog 97 #[.slice a len cap] w fun e w' => e = .returned (.func (.func 119) #[] #[.pointer (some ⟨w.heap.size, 0, none⟩)]) ∧ w' = w.alloc (.cells #[.slice a len cap] 44) := by
  refine callsIn_of_wp Tryz.func97 rfl h6 ?_ hro
  simp only [Tryz.ntmps97, List.size_toArray, List.length_cons, List.length_nil, Nat.reduceAdd, Nat.reduceSub, Array.replicate_succ, Array.replicate_zero, List.push_toArray, List.append_toArray, List.nil_append, List.cons_append]
  gi_wp2
  go_ret
  exact ⟨rfl, rfl⟩
set_option maxRecDepth 100000 in
set_option maxHeartbeats 1000000 in
theorem lv_stops (F : Fence) (n : Nat) (h8 : F.fn 119) (hro : F.round = none) (hn : 1 ≤ n) (Bs n₀ c : Nat) (l : List (ByteArray × Int)) (a : Option Addr) (hreach : l.length ≤ 1073741824) (w : World) (hBs : Bs < n₀) (hn₀ : n₀ ≤ w.heap.size)
    (hc : w.cell? ⟨Bs, 0, none⟩ = some (.slice a l.length c)) (hI : Prs n₀ w a l) :
    SeqStopsK F n Tryz.prog 119 #[.pointer (some ⟨Bs, 0, none⟩)] lvEnc (Below n₀) (fun ys => ys = lvUp l l.length)
      (fun pre => ∃ k, k ≤ l.length ∧ pre = lvUp l k) l.length w := fun t J Jx W hW _ _ hY h0 =>
  lv_back1 F n h8 hro hn t Bs n₀ c l a hreach J Jx hY W hBs ((hW.cell (p := ⟨Bs, 0, none⟩) (Nat.lt_of_lt_of_le hBs hn₀)).trans hc) (hI.below (hW.mono hn₀)) h0
theorem lv_eq {a b : ByteArray} (h : (a.toList == b.toList) = true) : a = b := by
  have h := eq_of_beq h
  rw [ByteArray.toList_eq, ByteArray.toList_eq] at h
  exact ByteArray.ext (Array.toList_inj.mp h)
theorem lv_ne {a b : ByteArray} (h : (a.toList == b.toList) = false) : a ≠ b := fun e => by rw [e, beq_self_eq_true] at h; cases h
theorem lv_to {l : List (ByteArray × Int)} {s : ByteArray} : ∀ k : Nat, k ≤ l.length → (∀ p, p ∈ lvUp l k → p.2.1 ≠ s) → lastTo s l l.length = lastTo s l (l.length - k)
  | 0, _, _ => rfl
  | k + 1, hk, h => by
    have hl := lv_to (l := l) (s := s) k (by omega) (fun p hp => h p (by rw [lvUp_succ]; exact List.mem_append_left _ hp))
    have hx := h (l.length - 1 - k, lvAt l (l.length - 1 - k)) (by rw [lvUp_succ]; simp)
    rw [hl, show l.length - k = (l.length - (k + 1)) + 1 by omega, lastTo, lvAt_some (l := l) (j := l.length - (k + 1)) (by omega)]
    rw [if_neg]
    intro hc
    simp only [Option.map_some, Option.some.injEq] at hc
    exact hx (by rw [show l.length - 1 - k = l.length - (k + 1) by omega]; exact hc)
theorem lv_none {l : List (ByteArray × Int)} {s : ByteArray} (h : ∀ p, p ∈ lvUp l l.length → p.2.1 ≠ s) : lastIx s l = -1 := by
  unfold lastIx
  rw [lv_to l.length (Nat.le_refl _) h, Nat.sub_self]
  rfl
theorem lv_some {l : List (ByteArray × Int)} {s : ByteArray} {k : Nat} (hk : k ≤ l.length) {ini : List (Nat × ByteArray × Int)} {last : Nat × ByteArray × Int} (e1 : lvUp l k = ini ++ [last]) (e2 : ∀ p, p ∈ ini → p.2.1 ≠ s) (e3 : last.2.1 = s) : lastIx s l = (last.1 : Int) := by
  cases k with
  | zero => simp [lvUp] at e1
  | succ k =>
    rw [lvUp_succ] at e1
    obtain ⟨rfl, e5⟩ := List.append_inj' e1 rfl
    injection e5 with e5
    subst e5
    unfold lastIx
    rw [lv_to (l := l) (s := s) k (by omega) e2, show l.length - k = (l.length - 1 - k) + 1 by omega, lastTo, lvAt_some (l := l) (j := l.length - 1 - k) (by omega), if_pos]
    simp only [Option.map_some, Option.some.injEq]
    exact e3
set_option maxRecDepth 100000 in
set_option maxHeartbeats 2000000 in
theorem lastVar_in (F : Fence) (n : Nat) (h4 : F.fn 72) (h6 : F.fn 97) (h8 : F.fn 119) (hro : F.round = none) (hn : 3 ≤ n) (a : Option Addr) (c : Nat) (l : List (ByteArray × Int)) (s : ByteArray) (hreach : l.length ≤ 1073741824) (w : World) (hI : Prs w.heap.size w a l) :
    CallsIn F n Tryz.prog 72 #[.slice a l.length c, .string s] w fun e W' => e = .returned (.int .i64 (lastIx s l)) ∧ Below w.heap.size w W' := by
  have h1 : 1 ≤ n := by omega
  refine callsIn_of_wp_marks Tryz.func72 rfl h4 ?_ hro
  simp only [Tryz.ntmps72, List.size_toArray, List.length_cons, List.length_nil, Nat.reduceAdd, Nat.reduceSub, Array.replicate_succ, Array.replicate_zero, List.push_toArray, List.append_toArray, List.nil_append, List.cons_append]
  gi_wp2_with (gi_at_call 97; refine (lv_back F (n - 1) h6 hro _ _ _ _).mono ?_; rintro e w' ⟨rfl, rfl⟩)
  have bN := ((Boxed.new w 9 (.string s)).alloc (.cells #[.int .i64 0] 3)).alloc (.cells #[.slice a l.length c] 44)
  have bR := (Boxed.new (w.alloc (.cells #[.string s] 9)) 3 (.int .i64 0)).alloc (.cells #[.slice a l.length c] 44)
  have bA := Boxed.new ((w.alloc (.cells #[.string s] 9)).alloc (.cells #[.int .i64 0] 3)) 44 (.slice a l.length c)
  simp only [World.size_alloc] at bR bA
  have hB0 : Below w.heap.size w (((w.alloc (.cells #[.string s] 9)).alloc (.cells #[.int .i64 0] 3)).alloc (.cells #[.slice a l.length c] 44)) := (((Below.refl _ w).alloc (Nat.le_refl _) _).alloc (by simp) _).alloc (by simp; omega) _
  have hsz : (((w.alloc (.cells #[.string s] 9)).alloc (.cells #[.int .i64 0] 3)).alloc (.cells #[.slice a l.length c] 44)).heap.size = w.heap.size + 3 := by simp
  obtain ⟨W0, hW0⟩ : ∃ W0, ((w.alloc (.cells #[.string s] 9)).alloc (.cells #[.int .i64 0] 3)).alloc (.cells #[.slice a l.length c] 44) = W0 := ⟨_, rfl⟩
  rw [hW0] at bN bR bA hB0 hsz ⊢
  clear hW0
  have hI0 : Prs W0.heap.size W0 a l := by
    rcases hI.below hB0 with h | ⟨b, off, e, hb, hc⟩
    · exact .inl h
    · exact .inr ⟨b, off, e, by omega, hc⟩
  refine wpIn_rangeFunc_ownH hro h1 (gf := 119) (lb := #[.pointer (some ⟨w.heap.size + 1 + 1, 0, none⟩)]) rfl h8 (enters_of Tryz.func119 (by kernel_rfl) rfl)
    (lv_stops F (n - 1) h8 hro (by omega) (w.heap.size + 1 + 1) W0.heap.size c l a hreach W0 (by omega) (Nat.le_refl _) bA.cell hI0) belowK_t (belowK_b (by omega)) (Below.refl _ _) (fun _ => rfl)
    (fun pre W => (((∀ p ∈ pre, p.2.1 ≠ s) ∧ Boxed W (w.heap.size + 1) 3 (.int .i64 0)) ∧ Boxed W w.heap.size 9 (.string s)) ∧ Below W0.heap.size W0 W)
    (fun c pre W => ((c = .ret ∧ ∃ ini last, pre = ini ++ [last] ∧ (∀ p ∈ ini, p.2.1 ≠ s) ∧ last.2.1 = s ∧ Boxed W (w.heap.size + 1) 3 (.int .i64 (last.1 : Int))) ∧ Boxed W w.heap.size 9 (.string s)) ∧ Below w.heap.size w W)
    (OwnFrom.and (OwnFrom.and (Own.from (fun st A B row hs hg hr => ⟨hs.1, boxed_own (w.heap.size + 1) 3 (fun (_ : Unit) => Value.int .i64 0) () A B row hs.2 hg hr⟩) _) (Own.from (boxed_own _ _ _) _)) (ownFrom_below (Nat.le_refl _) (Nat.le_refl _)))
    (fun c => OwnFrom.and (OwnFrom.and (Own.from (fun st A B row hs hg hr => by obtain ⟨e0, ini, last, e1, e2, e3, e4⟩ := hs; exact ⟨e0, ini, last, e1, e2, e3, boxed_own (w.heap.size + 1) 3 (fun (_ : Unit) => Value.int .i64 (last.1 : Int)) () A B row e4 hg hr⟩) _) (Own.from (boxed_own _ _ _) _)) (ownFrom_below (Nat.le_refl _) (by omega)))
    ⟨⟨⟨by simp, bR⟩, bN⟩, Below.refl _ _⟩
    (fun x a' W => ∃ q, W0.heap.size ≤ q ∧ W.cell? ⟨q, 0, none⟩ = some (.string x.2.1) ∧ a' = { tmps := #[.slice a l.length c, .string s, undef, .pointer (some ⟨w.heap.size, 0, none⟩), .pointer (some ⟨w.heap.size + 1, 0, none⟩), .int .i64 (x.1 : Int), .pointer (some ⟨q, 0, none⟩), .slice a l.length c, .func (.func 119) #[] #[.pointer (some ⟨w.heap.size + 1 + 1, 0, none⟩)], .int .i64 (x.1 : Int), .agg #[.string x.2.1, .int .i64 x.2.2], undef, undef, undef, undef, undef], defers := [] })
    (fun x a' _ X Y row hs hg hr => by obtain ⟨q, h1, h2, h3⟩ := hs; exact ⟨q, h1, cell_kept h2 hg (fun r e => (hr r e).2), h3⟩)
    ?assign ?body ?done ?stop
  case assign =>
    rintro t pre x W K ⟨⟨⟨hp, bR1⟩, bN1⟩, hB1⟩ hK
    gi_wp2
    have hsW := hB1.size
    exact hK _ _ ((KeepsOthers.alloc _ _).from _) ((Below.refl _ W).alloc hsW _) ⟨⟨⟨hp, bR1.alloc _⟩, bN1.alloc _⟩, hB1.alloc hsW _⟩ ⟨W.heap.size, hsW, by rw [World.cell?, World.alloc_heap_new]; rfl, rfl⟩
  case body =>
    rintro t pre x a' W ht _ ⟨⟨⟨hp, bR1⟩, bN1⟩, hB1⟩ ⟨q, hq, hcq, rfl⟩ hlt
    have cN := bN1.cell
    have cR := bR1.cell
    have fR := bR1.frozen
    have hB2 := hB0.trans (hB1.mono (by omega))
    gi_wp2
    · have hx : x.2.1 = s := lv_eq (by assumption)
      exact ⟨(KeepsOthers.setCell _ _ _).from _, ⟨⟨rfl, pre, x, rfl, hp, hx, bR1.set _⟩, bN1.other (by omega) _⟩, hB2.setCell (p := ⟨w.heap.size + 1, 0, none⟩) (by simp) _⟩
    · have hx : x.2.1 ≠ s := lv_ne (by assumption)
      exact ⟨KeepsFrom.refl _ _, Below.refl _ _, ⟨⟨⟨fun p hp' => (List.mem_append.1 hp').elim (hp p) (fun e => by simp at e; subst e; exact hx), bR1⟩, bN1⟩, hB1⟩⟩
  case done =>
    rintro D ys W hD rfl ⟨⟨⟨hne, bR1⟩, bN1⟩, hB1⟩ hK
    have cR := bR1.cell
    have fR := bR1.frozen
    have hB2 := hB0.trans (hB1.mono (by omega))
    gi_wp2
    have hK' := (KeepsOthers.setCell W ⟨w.heap.size + 1, 0, none⟩ (.int .i64 (-1))).same D _ hK rfl
    refine ⟨by simp, .inl ⟨_, _, rfl, run_takeDeferred hK', ?_⟩⟩
    have hc5 := cell_kept (World.cell?_setCell_same' W ⟨w.heap.size + 1, 0, none⟩ (.int .i64 (-1)) (by rw [cR]; rfl)) (grownBy_putObj' _ D (.deferred none)) (fun r e => by cases e; exact ⟨_, hK', rfl⟩)
    refine ⟨.int .i64 (-1), ?_, ?_, (hB2.setCell (p := ⟨w.heap.size + 1, 0, none⟩) (by simp) _).trans (belowK_b (w := w) (Nat.le_refl _) _ D _ _ (by omega) hK' rfl rfl)⟩
    · simp [results, Tryz.f72, go_sem, hc5]
    · rw [lv_none hne]
  case stop =>
    rintro D cc pre W hD ⟨k, hk, rfl⟩ ⟨⟨⟨rfl, ini, last, e1, e2, e3, bR1⟩, bN1⟩, hB1⟩ hK
    gi_wp2
    refine ⟨by simp, .inl ⟨_, _, rfl, run_takeDeferred hK, ?_⟩⟩
    have hc5 := cell_kept bR1.cell (grownBy_putObj' _ D (.deferred none)) (fun r e => by cases e; exact ⟨_, hK, rfl⟩)
    refine ⟨.int .i64 (last.1 : Int), ?_, ?_, hB1.trans (belowK_b (w := w) (Nat.le_refl _) W D _ _ (by omega) hK rfl rfl)⟩
    · simp [results, Tryz.f72, go_sem, hc5]
    · rw [lv_some hk e1 e2 e3]
theorem lastVar_calls (a : Option Addr) (c : Nat) (l : List (ByteArray × Int)) (s : ByteArray) (w : World) (hI : Prs w.heap.size w a l) (hreach : l.length ≤ 1073741824) :
    Calls Tryz.prog 72 #[.slice a l.length c, .string s] w fun e W' => e = .returned (.int .i64 (lastIx s l)) ∧ Below w.heap.size w W' :=
  (callsIn_wide (n := 3)).1 (lastVar_in Fence.wide 3 trivial trivial trivial rfl (Nat.le_refl _) a c l s hreach w hI)
end Go.G
