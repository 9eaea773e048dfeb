/- What strings.Builder's copyCheck and String do to the small machine's memory. -/
import Derived.Test.YtoakhfnojbmhgaaGreatHMWp
import Derived.Lib.Builder
import Derived.Lib.UnsafeStr
import Derived.Laws.Externs
import Derived.Deep.Draws
set_option linter.unusedSimpArgs false
set_option linter.unusedVariables false
namespace Go.HM
/-- copyCheck: a builder that is used for the first time keeps its own address. -/
def hkCopy (T : Nat) (args : List V) (σ : Heap) : Option (V × Heap) := match args with
  | [.ptr b 0] => (match σ[b]? with
    | some (some row) => if row.ro = false ∧ row.ty = T + 1 then (match row.cells with
      | [.nilp, v] => some (.tuple [], σ.set b (some ⟨[.ptr b 0, v], row.esz, false, row.ty⟩))
      | [.ptr c 0, v] => if c = b then some (.tuple [], σ) else none
      | _ => none) else none
    | _ => none)
  | _ => none
/-- Cells that are bytes. -/
def u8s : List V → Option (List UInt8)
  | [] => some []
  | .int .u8 n :: cs => if 0 ≤ n ∧ n < 256 then (u8s cs).bind fun l => some (UInt8.ofNat n.toNat :: l) else none
  | _ => none
/-- String: the text of the builder's bytes; nobody writes them any more. -/
def hkText (T e : Nat) (args : List V) (σ : Heap) : Option (V × Heap) := match args with
  | [.ptr b 0] => (match σ[b]? with
    | some (some row) => if row.ro = false ∧ row.ty = T + 1 then (match row.cells with
      | [_, .nils] => some (.str ⟨#[]⟩, σ)
      | [_, .sl r 0 n lim] => (match σ[r]? with
        | some (some q) => if q.ro = false ∧ q.ty = e + 1 ∧ n ≠ 0 ∧ n ≤ q.cells.length ∧ n ≤ 4611686018427387904 then (u8s (q.cells.take n)).bind fun l => some (.str ⟨l.toArray⟩, σ.set r none) else none
        | _ => none)
      | _ => none) else none
    | _ => none)
  | _ => none
/-- A block that no row lies in any more is written. -/
theorem Base.left {C : Ctx} {μ : Mu} {σ : Heap} {w w' : World} {b : Nat} (h : Base C μ σ w) (hno : ∀ (r : Nat) row L, σ[r]? = some (some row) → μ r = some L → L.block ≠ b) (hb : C.okb true b) (g : Wrote b w w') : Base C μ σ w' where
  sim := ⟨h.sim.fresh, fun r row hr => by
    obtain ⟨L, h1, h2, h3, h4⟩ := h.sim.live r row hr
    exact ⟨L, h1, h2, h3.keep (g.block _ (hno r row L hr h1)), h4⟩, h.sim.apart, h.sim.glob, h.sim.exact⟩
  keep := ⟨g.os.trans h.keep.os, g.tape.trans h.keep.tape, g.output.trans h.keep.output, by rw [g.size]; exact h.keep.size, fun k hk hn => by
    rw [g.block k (fun he => by
      subst he
      rcases hb with h1 | h1
      · omega
      · exact hn h1)]
    exact h.keep.block k hk hn⟩
  le := h.le
  okb := h.okb
theorem Wrote.freeze (w : World) (g n : Nat) : Wrote g w (w.freeze ⟨g, 0, none⟩ n) := by
  unfold World.freeze
  split
  · exact ⟨rfl, rfl, rfl, rfl, fun _ _ => rfl⟩
  · exact ⟨rfl, rfl, rfl, by simp, fun k hk => by simp [Array.getElem?_modify, Ne.symm hk]⟩
theorem rel_ptr0 {μ : Mu} {b o : Nat} {y : Value} (h : Rel μ (.ptr b o) y) : ∃ L, μ b = some L ∧ y = .pointer (some ⟨L.block, L.base + o, none⟩) := by
  cases h with
  | ptr h1 => exact ⟨_, h1, rfl⟩
theorem rel_nilp {μ : Mu} {y : Value} (h : Rel μ .nilp y) : y = .pointer none := by cases h; rfl
theorem rel_nils {μ : Mu} {y : Value} (h : Rel μ .nils y) : y = .slice none 0 0 := by cases h; rfl
theorem rels_one' {μ : Mu} {x : V} {vs : Array Value} (h : Rels μ [x] vs.toList) : ∃ y, vs = #[y] ∧ Rel μ x y := by
  obtain ⟨h1, h2⟩ := h
  obtain ⟨l⟩ := vs
  match l, h1 with
  | [y], _ => exact ⟨y, rfl, h2 0 x y rfl rfl⟩
/-- Where a builder lies. -/
theorem builder_at {μ : Mu} {σ : Heap} {w : World} (h : Sim μ σ w) {b T : Nat} {L : Loc} {row : Row} {x v : V} (hL : μ b = some L) (hr : σ[b]? = some (some row)) (hro : row.ro = false) (hty : row.ty = T + 1) (hc : row.cells = [x, v]) :
    L.base = 0 ∧ ∃ (cs : Array Value) (y u : Value), w.heap[L.block]? = some (.cells cs T (0, 0)) ∧ 2 ≤ cs.size ∧ cs[0]? = some y ∧ Rel μ x y ∧ cs[1]? = some u ∧ Rel μ v u := by
  obtain ⟨M, h1, h2, h3, h4⟩ := h.live b row hr
  rw [hL] at h1
  injection h1 with h1
  subst h1
  have hb0 := h4 hro
  obtain ⟨cs, t, fz, k1, k2, k3, k4, k5, k6⟩ := h3
  have ht : t = T := by have := k6 (by rw [hty]; exact Nat.succ_ne_zero _); rw [hty] at this; exact Nat.add_right_cancel this
  subst ht
  have hf := k5 (by rw [hro]; rfl)
  subst hf
  rw [hc] at k3 k4
  obtain ⟨y, y1, y2, _⟩ := k4 0 x rfl
  obtain ⟨u, u1, u2, _⟩ := k4 1 v rfl
  rw [hb0] at y1 u1 k3
  exact ⟨hb0, cs, y, u, k1, by simp at k3; omega, by simpa using y1, y2, by simpa using u1, u2⟩
theorem hkCopy_sound {P : Program} {f T : Nat}
    (used : ∀ b w, w.cell? ⟨b, 0, none⟩ = some (.pointer (some ⟨b, 0, none⟩)) → Calls P f #[.pointer (some ⟨b, 0, none⟩)] w fun e w' => e = .returned (.tuple #[]) ∧ w' = w)
    (first : ∀ b n w, w.cell? ⟨b, 0, none⟩ = some (.pointer none) → w.shape? b = some (T, n) → 2 ≤ n → w.frozen? ⟨b, 0, none⟩ = false → Calls P f #[.pointer (some ⟨b, 0, none⟩)] w fun e w' => e = .returned (.tuple #[]) ∧ w' = w.setCell ⟨b, 0, none⟩ (.pointer (some ⟨b, 0, none⟩)))
    {args : List V} {σ σ' : Heap} {v : V} (h : hkCopy T args σ = some (v, σ')) {μ : Mu} {w : World} {vs : Array Value} (hs : Sim μ σ w) (hv : Rels μ args vs.toList) : Calls P f vs w (Post ⟨w, σ, μ, 0⟩ v σ') := by
  unfold hkCopy at h
  split at h
  · rename_i b
    obtain ⟨y, rfl, hy⟩ := rels_one' hv
    obtain ⟨L, hL, rfl⟩ := rel_ptr0 hy
    split at h
    · rename_i row hr
      split at h
      · rename_i hc
        split at h
        · rename_i x hcells
          injection h with h; injection h with h1 h2
          subst h1 h2
          obtain ⟨hb0, cs, y0, u0, k1, k2, k3, k4, k5, k6⟩ := builder_at hs hL hr hc.1 hc.2 hcells
          obtain rfl := rel_nilp k4
          rw [hb0]
          refine (first L.block cs.size w (by simp [World.cell?, k1, k3]) (by simp [World.shape?, k1]) k2 (by simp [World.frozen?, k1])).mono ?_
          rintro e w' ⟨rfl, rfl⟩
          have hat := (hs.live b row hr)
          obtain ⟨M, g1, g2, g3, g4⟩ := hat
          rw [hL] at g1
          injection g1 with g1
          subst g1
          rw [hb0, hc.1, hcells] at g3
          have hrc : RelC μ [.ptr b 0] [.pointer (some ⟨L.block, 0, none⟩)] := by
            refine ⟨rfl, fun i x y hx hy => ?_⟩
            cases i with
            | zero =>
              simp at hx hy
              subst hx hy
              have := Rel.ptr (off := 0) hL
              rw [hb0] at this
              exact ⟨this, rfl⟩
            | succ i => simp at hx
          have hat' := g3.store 0 [.ptr b 0] [.pointer (some ⟨L.block, 0, none⟩)] hrc (by simp)
          have hb := (hs.base 0).wrote hr hL hc.1 (Wrote.cells L.block 0 _ w) _ hat'
          exact ⟨μ, hb, Rel.tuple rfl (fun i x y hx => by simp at hx)⟩
        · rename_i c x hcells
          split at h
          · rename_i hcb
            subst hcb
            injection h with h; injection h with h1 h2
            subst h1 h2
            obtain ⟨hb0, cs, y0, u0, k1, k2, k3, k4, k5, k6⟩ := builder_at hs hL hr hc.1 hc.2 hcells
            obtain ⟨L', hL', rfl⟩ := rel_ptr0 k4
            rw [hL] at hL'
            injection hL' with hL'
            subst hL'
            rw [hb0] at k3 ⊢
            refine (used L.block w (by simp [World.cell?, k1, k3])).mono ?_
            rintro e w' ⟨rfl, rfl⟩
            exact ⟨μ, hs.base 0, Rel.tuple rfl (fun i x y hx => by simp at hx)⟩
          · cases h
        · cases h
      · cases h
    · cases h
  · cases h
theorem u8s_some : ∀ {cs : List V} {l : List UInt8}, u8s cs = some l → l.length = cs.length ∧ ∀ (j : Nat) (x : UInt8), l[j]? = some x → cs[j]? = some (.int .u8 x.toNat)
  | [], l, h => by
    simp [u8s] at h
    subst h
    exact ⟨rfl, fun j x hx => by simp at hx⟩
  | c :: cs, l, h => by
    cases c with
    | int k n =>
      cases k with
      | u8 =>
        simp only [u8s] at h
        split at h
        · rename_i hn
          obtain ⟨l', h1, h2⟩ := Option.bind_eq_some_iff.1 h
          injection h2 with h2
          subst h2
          obtain ⟨h3, h4⟩ := u8s_some h1
          refine ⟨by simp [h3], fun j x hx => ?_⟩
          cases j with
          | zero =>
            simp at hx
            subst hx
            have : (UInt8.ofNat n.toNat).toNat = n.toNat := by
              rw [UInt8.toNat_ofNat']
              omega
            simp [this]
            omega
          | succ j => simpa using h4 j x (by simpa using hx)
        · cases h
      | _ => simp [u8s] at h
    | _ => simp [u8s] at h
theorem rel_sl {μ : Mu} {r o n : Nat} {lim : Bool} {y : Value} (h : Rel μ (.sl r o n lim) y) : ∃ L c, μ r = some L ∧ y = .slice (some ⟨L.block, L.base + o, none⟩) n c ∧ n ≤ c := by
  cases h with
  | sl h1 h2 h3 h4 => exact ⟨_, _, h1, rfl, h2⟩
theorem hkText_sound {P : Program} {f T e : Nat}
    (none_ : ∀ b (cs : Array Value) p w, w.heap[b]? = some (.cells cs T (0, 0)) → cs[0]? = some p → cs[1]? = some (.slice none 0 0) → Calls P f #[.pointer (some ⟨b, 0, none⟩)] w fun e w' => e = .returned (.string ⟨#[]⟩) ∧ ∃ n, w' = w.drewN n)
    (some_ : ∀ b (cs : Array Value) g cap (cur : Array Value) (l : List UInt8) w, w.heap[b]? = some (.cells cs T (0, 0)) → cs[1]? = some (.slice (some ⟨g, 0, none⟩) l.length cap) → w.heap[g]? = some (.cells cur e (0, 0)) → l ≠ [] → l.length ≤ cap → l.length ≤ cur.size → l.length ≤ 4611686018427387904 → (∀ (j : Nat) (x : UInt8), l[j]? = some x → cur[j]? = some (Value.int .u8 (x.toNat : Int))) →
      Calls P f #[.pointer (some ⟨b, 0, none⟩)] w fun e w' => e = .returned (.string ⟨l.toArray⟩) ∧ ∃ n, w' = (w.drewN n).freeze ⟨g, 0, none⟩ l.length)
    {args : List V} {σ σ' : Heap} {v : V} (h : hkText T e args σ = some (v, σ')) {μ : Mu} {w : World} {vs : Array Value} (hs : Sim μ σ w) (hv : Rels μ args vs.toList) : Calls P f vs w (Post ⟨w, σ, μ, 0⟩ v σ') := by
  have drew : ∀ n, Grew w (w.drewN n) := fun n => ⟨rfl, rfl, rfl, Nat.le_refl _, fun _ _ => rfl⟩
  unfold hkText at h
  split at h
  · rename_i b
    obtain ⟨y, rfl, hy⟩ := rels_one' hv
    obtain ⟨L, hL, rfl⟩ := rel_ptr0 hy
    split at h
    · rename_i row hr
      split at h
      · rename_i hc
        split at h
        · rename_i x hcells
          injection h with h; injection h with h1 h2
          subst h1 h2
          obtain ⟨hb0, cs, y0, u0, k1, k2, k3, k4, k5, k6⟩ := builder_at hs hL hr hc.1 hc.2 hcells
          obtain rfl := rel_nils k6
          rw [hb0]
          refine (none_ L.block cs y0 w k1 k3 k5).mono ?_
          rintro e w' ⟨rfl, n, rfl⟩
          exact ⟨μ, (hs.base 0).grew (drew n), Rel.str _⟩
        · rename_i x r n lim hcells
          obtain ⟨hb0, cs, y0, u0, k1, k2, k3, k4, k5, k6⟩ := builder_at hs hL hr hc.1 hc.2 hcells
          obtain ⟨M, c, hM, rfl, hnc⟩ := rel_sl k6
          split at h
          · rename_i q hq
            split at h
            · rename_i hh
              obtain ⟨q1, q2, q3, q4, q5⟩ := hh
              obtain ⟨l, g1, g2⟩ := Option.bind_eq_some_iff.1 h
              injection g2 with g2
              injection g2 with g3 g4
              subst g3 g4
              obtain ⟨M', m1, m2, m3, m4⟩ := hs.live r q hq
              rw [hM] at m1
              injection m1 with m1
              subst m1
              have hM0 := m4 q1
              obtain ⟨cur, t, fz, t1, t2, t3, t4, t5, t6⟩ := m3
              have ht : t = e := by have := t6 (by rw [q2]; exact Nat.succ_ne_zero _); rw [q2] at this; exact Nat.add_right_cancel this
              subst ht
              have hf := t5 (by rw [q1]; rfl)
              subst hf
              obtain ⟨l1, l2⟩ := u8s_some g1
              have hlen : l.length = n := by rw [l1, List.length_take]; omega
              rw [hb0]
              rw [hM0, Nat.zero_add] at k5
              have hcell : ∀ (j : Nat) (x : UInt8), l[j]? = some x → cur[j]? = some (Value.int .u8 (x.toNat : Int)) := fun j x hx => by
                have h5 := l2 j x hx
                rw [List.getElem?_take] at h5
                split at h5
                · obtain ⟨y, y1, y2, _⟩ := t4 j _ h5
                  rw [hM0, Nat.zero_add] at y1
                  cases y2
                  exact y1
                · cases h5
              refine (some_ L.block cs M.block c cur l w k1 (by rw [hlen]; exact k5) t1 (by intro he; rw [he] at hlen; exact q3 hlen.symm) (by omega) (by omega) (by omega) hcell).mono ?_
              rintro e w' ⟨rfl, m, rfl⟩
              have hb1 := ((hs.base 0).forget r).grew (drew m)
              have hno : ∀ (k : Nat) row' L', (σ.set r none)[k]? = some (some row') → μ k = some L' → L'.block ≠ M.block := by
                intro k row' L' hk hL'
                rw [List.getElem?_set] at hk
                split at hk
                · split at hk <;> cases hk
                · rename_i hne
                  exact Ne.symm (hs.apart r k q row' M L' hq hk q1 hne hM hL')
              exact ⟨μ, hb1.left hno (.inr ⟨r, q, M, hq, hM, rfl, fun _ => q1⟩) (Wrote.freeze _ _ _), Rel.str _⟩
            · cases h
          · cases h
        · cases h
      · cases h
    · cases h
  · cases h
theorem enter_of {P : Program} {f : FuncId} {fn : Func} {c : Code} (hf : P.funcs[f]? = some fn) (hn : (fn.name == "runtime.NumGoroutine") = false) (hb : fn.body = some c) (vs : Array Value) (w : World) : (callFunc f vs).run P w = .ok (.enter f vs) w := by
  have hname' : ¬ fn.name = "runtime.NumGoroutine" := by simpa using hn
  simp [callFunc, hf, hname', hb]
/-- A function that is called by a contract. -/
theorem hook_runs {G : Glob} {f : FuncId} {h : List V → Heap → Option (V × Heap)} (hg : G.hook f = some h) {args : List V} {σ σ' : Heap} {v : V} (hr : h args σ = some (v, σ')) : Runs G f args σ v σ' :=
  Runs.mk (Ev.now fun k => by rw [hcall, hg]; exact hr)
end Go.HM
