/- What listed package variables hold: arrays of texts, arrays of numbers. -/
import Derived.Test.YtoakhfnojbmhgaaGreatHMOpen
import Derived.OpenShut
import Derived.MakeChecks
import Derived.Stop.LaidErr
set_option linter.unusedVariables false
namespace Go.HM
open Go Go.ChangeShapes
theorem var_heap {P : Program} {W : World} {nm : String} {g : Nat} {cs : Array Value} (hg : P.globalNamed nm = some g) (hv : W.var? P nm = some cs) : ∃ t fz, W.heap[g]? = some (.cells cs t fz) := by
  unfold World.var? at hv
  rw [hg] at hv
  simp only [Option.bind_some] at hv
  split at hv
  · rename_i c t fz h
    injection hv with hv
    subst hv
    exact ⟨t, fz, h⟩
  · cases hv
theorem laid_cells {P : Program} {W : World} {nm : String} {g : Nat} {cs : Array Value} {n : Nat} {μ : Mu} {xs : List V} (hg : P.globalNamed nm = some g) (hv : W.var? P nm = some cs) (hn : cs.size = n) (hl : xs.length = n)
    (h : ∀ (i : Nat) x, xs[i]? = some x → ∃ y, cs[i]? = some y ∧ Rel μ x y ∧ y.oneCell' = true) : At W g 0 n μ xs false := by
  obtain ⟨t, fz, hh⟩ := var_heap hg hv
  exact ⟨cs, t, fz, hh, hn, by omega, fun i x hx => by rw [Nat.zero_add]; exact h i x hx, ⟨(fun hc => by cases hc), (fun hc => absurd rfl hc)⟩⟩
theorem one_cell {cs : Array Value} {i : Nat} {y : Value} (h : (cs.toList.drop i).take 1 = [y]) : cs[i]? = some y := by
  have h1 : ((cs.toList.drop i).take 1)[0]? = some y := by rw [h]; rfl
  rw [List.getElem?_take, List.getElem?_drop] at h1
  simpa using h1
theorem laid_strs {P : Program} {W : World} {nm : String} {g n fuel : Nat} {t e : TypeId} {cs : Array Value} {sp : Nat → Bool} {hb : Bool} {p : List MemPlace} {μ : Mu} (ws : List (List UInt8)) (hg : P.globalNamed nm = some g) (hv : W.var? P nm = some cs)
    (ht : P.underlying t = some (.array n e)) (he : P.underlying e = some .string) (hce : P.cellsOf e = 1) (hct : P.cellsOf t = n) (hd : DataW.trod (fun _ => ()) P W 0 sp hb fuel t cs.toList = some (.agg (ws.map fun w => .lit (.string w)), p)) :
    At W g 0 n μ (ws.map fun w => .str ⟨w.toArray⟩) false := by
  obtain ⟨xs, m, rfl, hx, hlen, hxn, hel⟩ := DataW.trod_array ht hd
  simp only [Prod.mk.injEq, DataW.agg.injEq] at hx
  have hws : ws.length = n := by
    have := congrArg List.length hx.1
    simp at this
    omega
  refine laid_cells hg hv (by rw [← hct, ← hlen]; simp) (by simpa using hws) fun i x hi => ?_
  rw [List.getElem?_map] at hi
  cases hw : ws[i]? with
  | none => rw [hw] at hi; cases hi
  | some w =>
    rw [hw] at hi
    injection hi with hi
    subst hi
    have hlt : i < n := by rw [← hws]; exact (List.getElem?_eq_some_iff.1 hw).1
    have h1 := hel i hlt
    rw [hce, Nat.mul_one] at h1
    have hxi : xs[i]? = some (xs[i]'(by omega)) := List.getElem?_eq_getElem (by omega)
    rw [hxi] at h1
    obtain ⟨s, e1, e2, _⟩ := DataW.trod_string he h1
    have h2 : (ws.map fun w => (DataW.lit (.string w) : DataW Unit))[i]? = (xs.map (·.1))[i]? := by rw [hx.1]
    rw [List.getElem?_map, List.getElem?_map, hw, hxi, e2] at h2
    simp at h2
    refine ⟨.string s, one_cell e1, ?_, rfl⟩
    subst h2
    exact .str _
theorem laid_ints {P : Program} {W : World} {nm : String} {g n fuel : Nat} {t e : TypeId} {k : IntKind} {cs : Array Value} {sp : Nat → Bool} {hb : Bool} {p : List MemPlace} {μ : Mu} (ws : List Int) (hg : P.globalNamed nm = some g) (hv : W.var? P nm = some cs)
    (ht : P.underlying t = some (.array n e)) (he : P.underlying e = some (.int k)) (hce : P.cellsOf e = 1) (hct : P.cellsOf t = n) (hd : DataW.trod (fun _ => ()) P W 0 sp hb fuel t cs.toList = some (.agg (ws.map fun w => .lit (.int k w)), p)) :
    At W g 0 n μ (ws.map fun w => .int k w) false := by
  obtain ⟨xs, m, rfl, hx, hlen, hxn, hel⟩ := DataW.trod_array ht hd
  simp only [Prod.mk.injEq, DataW.agg.injEq] at hx
  have hws : ws.length = n := by
    have := congrArg List.length hx.1
    simp at this
    omega
  refine laid_cells hg hv (by rw [← hct, ← hlen]; simp) (by simpa using hws) fun i x hi => ?_
  rw [List.getElem?_map] at hi
  cases hw : ws[i]? with
  | none => rw [hw] at hi; cases hi
  | some w =>
    rw [hw] at hi
    injection hi with hi
    subst hi
    have hlt : i < n := by rw [← hws]; exact (List.getElem?_eq_some_iff.1 hw).1
    have h1 := hel i hlt
    rw [hce, Nat.mul_one] at h1
    have hxi : xs[i]? = some (xs[i]'(by omega)) := List.getElem?_eq_getElem (by omega)
    rw [hxi] at h1
    obtain ⟨s, e1, e2, _⟩ := DataW.trod_int he h1
    have h2 : (ws.map fun w => (DataW.lit (.int k w) : DataW Unit))[i]? = (xs.map (·.1))[i]? := by rw [hx.1]
    rw [List.getElem?_map, List.getElem?_map, hw, hxi, e2] at h2
    simp at h2
    refine ⟨.int k s, one_cell e1, ?_, rfl⟩
    subst h2
    exact .int _ _
theorem trodVars_1 {H : Type} {enc : TypeId × Value → H} {P : Program} {w : World} {sp : Nat → Bool} {n1 : String} {gs : List (DataW H)} {ps : List MemPlace} (h : DataW.TrodVars enc P w sp [n1] gs ps) : ∃ g1, gs = [g1] := by
  rcases gs with _ | ⟨g1, gs⟩
  · exact h.elim
  rcases gs with _ | ⟨g2, gs⟩
  · exact ⟨_, rfl⟩
  · obtain ⟨_, _, _, _, _, _, _, _, _, _, h, _⟩ := h
    exact h.elim
theorem trodVars_2 {H : Type} {enc : TypeId × Value → H} {P : Program} {w : World} {sp : Nat → Bool} {n1 n2 : String} {gs : List (DataW H)} {ps : List MemPlace} (h : DataW.TrodVars enc P w sp [n1, n2] gs ps) : ∃ g1 g2, gs = [g1, g2] := by
  rcases gs with _ | ⟨g1, gs⟩
  · exact h.elim
  obtain ⟨_, _, _, _, _, _, _, _, _, _, h, _⟩ := h
  obtain ⟨g2, rfl⟩ := trodVars_1 h
  exact ⟨_, _, rfl⟩
/-- A variable that holds an error. -/
theorem Seen.sentinel {P : Program} {W : World} {μ : Mu} {σ : Heap} (h : Seen W μ σ) {nm : String} {g : Nat} {tp : TypeId} {a : Addr} {x : Value} (hg : g < σ.length) (hm : μ g = some ⟨g, 0, 1, 1⟩) (hgn : P.globalNamed nm = some g) (hv : W.var? P nm = some #[.iface tp (.pointer (some a))]) (hc : W.cell? a = some x) :
    ∃ μ', Le μ μ' ∧ Seen W μ' ((σ ++ [none]).set g (some ⟨[.iface tp (.ptr σ.length 0)], 1, true, 0⟩)) := by
  obtain ⟨_, _, _, hsp, _⟩ := cell_some hc
  have hle : Le μ (upd μ σ.length ⟨a.block, a.off, 1, 1⟩) := le_upd (h.sim.fresh _ (Nat.le_refl _))
  have hnone : ∀ (r : Nat) (row : Row), (σ ++ [none])[r]? = some (some row) → σ[r]? = some (some row) ∧ r < σ.length := fun r row hr => by
    rcases snoc_old hr with h1 | ⟨_, h1⟩
    · exact h1
    · cases h1
  have hold : ∀ {r : Nat} {L : Loc}, r < σ.length → upd μ σ.length ⟨a.block, a.off, 1, 1⟩ r = some L → μ r = some L := fun hr hL => by
    unfold upd at hL
    rw [if_neg (by omega)] at hL
    exact hL
  have h1 : Seen W (upd μ σ.length ⟨a.block, a.off, 1, 1⟩) (σ ++ [none]) := by
    refine ⟨⟨fun r hr => ?_, fun r row hr => ?_, fun r r' row row' L L' k1 k2 k3 k4 k5 k6 => ?_, fun g hg => let ⟨L, k1, k2⟩ := h.sim.glob g hg; ⟨L, hle _ _ k1, k2⟩, fun k row L hk hr hL => ?_⟩, fun r row hr => ?_⟩
    · simp at hr
      unfold upd
      rw [if_neg (by omega)]
      exact h.sim.fresh r (by omega)
    · obtain ⟨hr, hlt⟩ := hnone r row hr
      obtain ⟨L, k1, k2, k3, k4⟩ := h.sim.live r row hr
      exact ⟨L, hle _ _ k1, k2, k3.mono hle, k4⟩
    · obtain ⟨k1, l1⟩ := hnone _ _ k1
      obtain ⟨k2, l2⟩ := hnone _ _ k2
      exact h.sim.apart r r' row row' L L' k1 k2 k3 k4 (hold l1 k5) (hold l2 k6)
    · obtain ⟨hr, hlt⟩ := hnone _ _ hr
      exact h.sim.exact k row L hk hr (hold hlt hL)
    · exact h.ro _ _ (hnone _ _ hr).1
  refine ⟨_, hle, h1.glob (by simp; omega) (hle _ _ hm) (laid_cells hgn hv rfl rfl fun i z hz => ?_) rfl⟩
  match i, hz with
  | 0, hz =>
    injection hz with hz
    subst hz
    refine ⟨_, rfl, .iface ?_, rfl⟩
    have h2 : upd μ σ.length ⟨a.block, a.off, 1, 1⟩ σ.length = some ⟨a.block, a.off, 1, 1⟩ := by unfold upd; rw [if_pos rfl]
    have := Rel.ptr (off := 0) h2
    obtain ⟨b, o, sp⟩ := a
    simp only at hsp
    subst hsp
    exact this
end Go.HM
