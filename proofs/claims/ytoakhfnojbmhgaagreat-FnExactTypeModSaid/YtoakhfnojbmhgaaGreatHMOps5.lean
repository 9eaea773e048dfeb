/- Each operation of the small machine is one of the model's: builtins, calls, regions. -/
import Derived.Test.YtoakhfnojbmhgaaGreatHMOps4
import Derived.Deep.Upon
set_option linter.unusedSimpArgs false
set_option linter.unusedVariables false
namespace Go.HM

theorem grownCap_ge (w : World) (need old : Nat) (e : TypeId) : need ≤ grownCap w need old e := by
  unfold grownCap Question.cut
  exact Nat.le_add_right _ _

theorem drop_take_add (cs : List V) (o n : Nat) : (cs.drop o).take n = (cs.drop o).take n := rfl

section ops
variable {α : Type} {E : Env} {o : Oper} {t : List T} {σ : Heap} {K : List T → Heap → Option α} {r : α} {C : Ctx} {μ : Mu} {β : Nat → Nat} {a : Act} {w : World} {next : Act → World → Prop} {Q : Exit → Act → World → Prop}

theorem RelC.append {xs : List V} {ys : List Value} {xs' : List V} {ys' : List Value} (h : RelC μ xs ys) (k : RelC μ xs' ys') : RelC μ (xs ++ xs') (ys ++ ys') := by
  refine ⟨by rw [List.length_append, List.length_append, h.1, k.1], fun i x y hx hy => ?_⟩
  rcases Nat.lt_or_ge i xs.length with hlt | hge
  · rw [List.getElem?_append_left hlt] at hx
    rw [List.getElem?_append_left (by rw [← h.1]; exact hlt)] at hy
    exact h.2 i x y hx hy
  · rw [List.getElem?_append_right hge] at hx
    rw [List.getElem?_append_right (by rw [← h.1]; exact hge), ← h.1] at hy
    exact k.2 _ x y hx hy

theorem RelC.one {xs : List V} {ys : List Value} (h : RelC μ xs ys) : ∀ u ∈ ys, u.oneCell' = true := by
  intro u hu
  obtain ⟨i, hi, rfl⟩ := List.getElem_of_mem hu
  have hi' : i < xs.length := by rw [h.1]; exact hi
  exact (h.2 i xs[i] _ (List.getElem?_eq_getElem hi') (List.getElem?_eq_getElem hi)).2

/-- The result of an append. -/
structure Appended (C : Ctx) (v : V) (σ' : Heap) (y : Value) (w' : World) : Prop where
  st : ∃ μ', Base C μ' σ' w' ∧ Rel μ' v y

theorem append_growT (T : Nat) (st : St C μ β t σ a w) {ty tx rt e : TypeId} {i : TypeInfo} {zv : V} {z : Value} (hu : E.P.underlying ty = some (.slice e)) (hi : E.P.info? e = some i) (hz : i.zero = some z) (hzv : ofValue z = some zv) (hzl : zv.cells.length = i.size)
    {σ0 : Heap} (st0 : Base ⟨w, σ, μ, 0⟩ μ σ0 w) {base : Option Addr} {n c k : Nat} {ocs xs : List V} {olds news : List Value} {y : Value} (ho : RelC μ ocs olds) (hol : olds.length = n * i.size)
    (hold : (Builtin.firstCells i.size n (.slice base n c)).run E.P w.drew = .ok olds.toArray w.drew) (hs : Src E.P i.size tx y k news w) (hn : RelC μ xs news) (hT : T = 0 ∨ T = e + 1) (hg : c < n + k) (hb : (n + k) * i.bytes ≤ 2 ^ 46) (hb2 : n + k ≤ 2 ^ 46) :
    ∃ y' w', (Builtin.append_ #[ty, tx] rt #[.slice base n c, y]).run E.P w = .ok y' w' ∧ Appended ⟨w, σ, μ, 0⟩ (.sl σ0.length 0 (n + k) false) (hnewT σ0 T i.size (ocs ++ xs)) y' w' := by
  have e46 : (2 : Nat) ^ 46 = 70368744177664 := by decide
  rw [e46] at hb hb2
  have hgo := run_append_grow_src (P := E.P) w ty tx rt e i z hu hi hz base n c olds hold y k news hs hg (by omega) (growslice_fits hg (by omega))
  refine ⟨_, _, hgo, ?_⟩
  have hge := grownCap_ge w (n + k) c e
  generalize hcap : grownCap w (n + k) c e = cap at hge hgo ⊢
  let cells : Array Value := (olds ++ news).toArray ++ Builtin.zeroCells z.cells (cap - (n + k))
  have hsz : cells.size = cap * i.size := by
    have hz1 : z.cells.size = i.size := by
      have := (ofZero (μ := μ) hzv).1
      simp at this
      omega
    simp only [cells, Array.size_append, List.size_toArray, List.length_append, hol, hs.newsLen, Builtin.zeroCells, Array.size_map, Array.size_range, hz1]
    rw [← Nat.add_mul, ← Nat.add_mul]
    congr 1
    omega
  have hg1 : Grew w w.drew := Grew.drawn w _
  have hg2 : Grew w (w.drew.alloc (.cells cells e)) := hg1.trans (Grew.push _ _)
  have hrel := ho.append hn
  have hat : At (w.drew.alloc (.cells cells e)) w.heap.size 0 cells.size μ (ocs ++ xs) true T := by
    suffices key : At (w.drew.alloc (.cells cells e)) w.heap.size 0 cells.size μ (ocs ++ xs) true (e + 1) by
      rcases hT with rfl | rfl
      · exact key.any
      · exact key
    refine at_pushT (w := w.drew) e ?_ (fun j x hx => ?_)
    · have h1 := hrel.1
      simp only [List.length_append] at h1 ⊢
      rw [h1, hol, hs.newsLen, hsz, ← Nat.add_mul]
      exact Nat.mul_le_mul_right _ hge
    · obtain ⟨q, hq, hr⟩ := hrel.cell j x hx
      refine ⟨q, ?_, hr⟩
      have hjl : j < (olds ++ news).length := (List.getElem?_eq_some_iff.1 hq).1
      simp only [cells]
      rw [Array.getElem?_append_left (by simpa using hjl)]
      simpa using hq
  have st' := st0.newT hg2 T i.size cells.size (ocs ++ xs) w.heap.size (Nat.le_refl _) hat
  exact ⟨⟨_, st', rel_sl_new hge (by omega) (fun h => by cases h)⟩⟩

theorem append_grow (st : St C μ β t σ a w) {ty tx rt e : TypeId} {i : TypeInfo} {zv : V} {z : Value} (hu : E.P.underlying ty = some (.slice e)) (hi : E.P.info? e = some i) (hz : i.zero = some z) (hzv : ofValue z = some zv) (hzl : zv.cells.length = i.size)
    {σ0 : Heap} (st0 : Base ⟨w, σ, μ, 0⟩ μ σ0 w) {base : Option Addr} {n c k : Nat} {ocs xs : List V} {olds news : List Value} {y : Value} (ho : RelC μ ocs olds) (hol : olds.length = n * i.size)
    (hold : (Builtin.firstCells i.size n (.slice base n c)).run E.P w.drew = .ok olds.toArray w.drew) (hs : Src E.P i.size tx y k news w) (hn : RelC μ xs news) (hg : c < n + k) (hb : (n + k) * i.bytes ≤ 2 ^ 46) (hb2 : n + k ≤ 2 ^ 46) :
    ∃ y' w', (Builtin.append_ #[ty, tx] rt #[.slice base n c, y]).run E.P w = .ok y' w' ∧ Appended ⟨w, σ, μ, 0⟩ (.sl σ0.length 0 (n + k) false) (hnew σ0 i.size (ocs ++ xs)) y' w' :=
  append_growT (E := E) 0 st hu hi hz hzv hzl st0 ho hol hold hs hn (.inl rfl) hg hb hb2

theorem append_roomT (T : Nat) (st : St C μ β t σ a w) {ty tx rt e : TypeId} {i : TypeInfo} (hu : E.P.underlying ty = some (.slice e)) (hi : E.P.info? e = some i) {q : Nat} {row : Row} {L : Loc} (hr : σ[q]? = some (some row)) (hL : μ q = some L) (hro : row.ro = false)
    (hesz : row.esz = i.size) {n c k : Nat} {xs : List V} {news : List Value} {y : Value} (hlen : n * i.size ≤ row.cells.length) (hcap : c * L.esz ≤ L.size) (hs : Src E.P i.size tx y k news w) (hn : RelC μ xs news) (hT : T = 0 ∨ T = row.ty) (hroom : n + k ≤ c) (hnc : n ≤ c) :
    ∃ y' w', (Builtin.append_ #[ty, tx] rt #[.slice (some ⟨L.block, 0, none⟩) n c, y]).run E.P w = .ok y' w' ∧ Appended ⟨w, σ, μ, 0⟩ (.sl σ.length 0 (n + k) false) (hnewT (σ.set q none) T i.size (row.cells.take (n * i.size) ++ xs)) y' w' := by
  obtain ⟨he1, hat, hb0⟩ := st.base.sim.row hr hL
  rw [hro, Bool.not_false, hb0 hro] at hat
  obtain ⟨cs, ct, fz, h1, h2, h3, h4, h5⟩ := hat
  have hfz := h5.1 rfl
  have hEL : L.esz = i.size := by omega
  have hend : (n + k) * i.size ≤ L.size := Nat.le_trans (Nat.mul_le_mul_right _ hroom) (by rw [← hEL]; exact hcap)
  have hnl : news.length = k * i.size := hs.newsLen
  have hend' : n * i.size + news.length ≤ cs.size := by rw [hnl, ← Nat.add_mul, h2]; exact hend
  have hgo := run_append_room_src (P := E.P) w ty tx rt e i hu hi L.block 0 n c y k news hs hroom (fun j hj => by
      simp only [Nat.zero_add, World.cell?, h1]
      simp
      omega) (fun j hj => by simp [World.frozen?, h1, hfz])
  rw [Nat.zero_add] at hgo
  refine ⟨_, _, hgo, ?_⟩
  obtain ⟨cs', k1, k2, k3, k4⟩ := setCells_at L.block ct fz news (n * i.size) w cs h1 hend'
  have hat' : At (w.setCells L.block (n * i.size) news) L.block 0 L.size μ (row.cells.take (n * i.size) ++ xs) true row.ty := by
    refine ⟨cs', ct, fz, k1, by omega, ?_, fun j x hx => ?_, h5⟩
    · rw [List.length_append, List.length_take, hn.1]
      omega
    · rw [Nat.zero_add]
      have htl : (row.cells.take (n * i.size)).length = n * i.size := by rw [List.length_take]; omega
      rcases Nat.lt_or_ge j (n * i.size) with hlt | hge
      · rw [List.getElem?_append_left (by omega), List.getElem?_take, if_pos hlt] at hx
        obtain ⟨y0, hy0, hrel⟩ := h4 j x hx
        rw [Nat.zero_add] at hy0
        exact ⟨y0, by rw [k4 j (.inl hlt)]; exact hy0, hrel⟩
      · rw [List.getElem?_append_right (by omega), htl] at hx
        obtain ⟨y0, hy0, hrel⟩ := hn.cell _ x hx
        have := k3 _ y0 hy0
        rw [show n * i.size + (j - n * i.size) = j by omega] at this
        exact ⟨y0, this, hrel⟩
  have st1 := (st.base.sim.base 0).wrote hr hL hro (Wrote.cells L.block (n * i.size) news w) _ hat'
  have hlt : q < σ.length := (List.getElem?_eq_some_iff.1 hr).1
  have st2 := st1.moved (r := q) (row := ⟨row.cells.take (n * i.size) ++ xs, row.esz, false, row.ty⟩) (L := L) (by simp [hlt]) hL rfl _ T (by rcases hT with rfl | rfl; exact hat'.any; exact hat')
  simp only [List.set_set, List.length_set, hesz] at st2
  refine ⟨⟨_, st2, ?_⟩⟩
  have := Rel.sl (μ := upd μ σ.length L) (r := σ.length) (off := 0) (len := n + k) (c := c) (lim := false) (L := L) (by unfold upd; rw [if_pos rfl]) hroom (by intro _; rw [hb0 hro]; omega) (fun h => by cases h)
  rw [hb0 hro] at this
  exact this
theorem append_room (st : St C μ β t σ a w) {ty tx rt e : TypeId} {i : TypeInfo} (hu : E.P.underlying ty = some (.slice e)) (hi : E.P.info? e = some i) {q : Nat} {row : Row} {L : Loc} (hr : σ[q]? = some (some row)) (hL : μ q = some L) (hro : row.ro = false)
    (hesz : row.esz = i.size) {n c k : Nat} {xs : List V} {news : List Value} {y : Value} (hlen : n * i.size ≤ row.cells.length) (hcap : c * L.esz ≤ L.size) (hs : Src E.P i.size tx y k news w) (hn : RelC μ xs news) (hroom : n + k ≤ c) (hnc : n ≤ c) :
    ∃ y' w', (Builtin.append_ #[ty, tx] rt #[.slice (some ⟨L.block, 0, none⟩) n c, y]).run E.P w = .ok y' w' ∧ Appended ⟨w, σ, μ, 0⟩ (.sl σ.length 0 (n + k) false) (hnew (σ.set q none) i.size (row.cells.take (n * i.size) ++ xs)) y' w' :=
  append_roomT (E := E) 0 st hu hi hr hL hro hesz hlen hcap hs hn (.inl rfl) hroom hnc

theorem vappend_some (st : St C μ β t σ a w) {ty tx rt e : TypeId} {i : TypeInfo} {zv : V} {z : Value} (hu : E.P.underlying ty = some (.slice e)) (hi : E.P.info? e = some i) (hz : i.zero = some z) (hzv : ofValue z = some zv) (hzl : zv.cells.length = i.size)
    (hi0 : i.size ≠ 0) {s : V} {x : Value} (rs : Rel μ s x) {k : Nat} {xs : List V} {news : List Value} {y : Value} (hs : Src E.P i.size tx y k news w) (hn : RelC μ xs news) {v : V} {σ' : Heap} (h : vappend i.size i.bytes σ s k xs = some (v, σ')) :
    ∃ y' w', (Builtin.append_ #[ty, tx] rt #[x, y]).run E.P w = .ok y' w' ∧ Appended ⟨w, σ, μ, 0⟩ v σ' y' w' := by
  have hk0 : k = 0 → news = [] := fun hk => by
    have := hs.newsLen
    rw [hk, Nat.zero_mul] at this
    exact List.eq_nil_of_length_eq_zero this
  unfold vappend at h
  split at h
  · cases rs
    split at h
    · rename_i hk
      injection h with h
      injection h with h1 h2
      subst h1 h2
      have hs' := hs
      rw [hk0 hk, hk] at hs'
      exact ⟨_, w, run_append_nothing w ty tx rt e i hu hi none 0 0 (Nat.le_refl _) y hs', ⟨_, st.base.sim.base 0, Rel.nils⟩⟩
    · rename_i hk
      split at h
      · rename_i hb
        injection h with h
        injection h with h1 h2
        subst h1 h2
        have := append_grow (E := E) (rt := rt) st hu hi hz hzv hzl (st.base.sim.base 0) (base := none) (n := 0) (c := 0) (k := k) (ocs := []) (olds := []) ⟨rfl, fun i x y hx => by simp at hx⟩ (by simp) (run_firstCells_none w.drew i.size 0 0 0) hs hn (by omega) (by simpa using hb.1) (by simpa using hb.2)
        simpa using this
      · cases h
  · rename_i q off n lim
    split at h
    · rename_i row hrow
      split at h
      · rename_i hb
        obtain ⟨hb1, hb2, hb3, hb4⟩ := hb
        cases rs with
        | sl hm hlc hcap hlim =>
          rename_i c L
          obtain ⟨he1, hat, hb0⟩ := st.base.sim.row hrow hm
          obtain ⟨olds, hol, hor, hoc⟩ := hat.range off (n * i.size) hb2
          have hold : (Builtin.firstCells i.size n (.slice (some ⟨L.block, L.base + off, none⟩) n c)).run E.P w.drew = .ok olds.toArray w.drew :=
            run_firstCells_some w.drew i.size n _ n c olds hol (by simpa using hoc)
          split at h
          · rename_i hlm
            have hcn := hlim hlm
            split at h
            · rename_i hk
              injection h with h
              injection h with h1 h2
              subst h1 h2
              have hs' := hs
              rw [hk0 hk, hk] at hs'
              exact ⟨_, w, run_append_nothing w ty tx rt e i hu hi _ n c hlc y hs', ⟨_, st.base.sim.base 0, Rel.sl hm hlc hcap hlim⟩⟩
            · rename_i hk
              injection h with h
              injection h with h1 h2
              subst h1 h2
              have hold' : (Builtin.firstCells i.size n (.slice (some ⟨L.block, L.base + off, none⟩) n c)).run E.P w.drew = .ok olds.toArray w.drew := hold
              exact append_grow (E := E) (rt := rt) st hu hi hz hzv hzl (st.base.sim.base 0) hor hol hold' hs hn (by omega) hb3 hb4
          · split at h
            · rename_i hro
              obtain ⟨hro, ho0⟩ := hro
              subst ho0
              injection h with h
              injection h with h1 h2
              subst h1 h2
              have hbase := hb0 hro
              rcases Nat.lt_or_ge c (n + k) with hg | hroom
              · rw [List.drop_zero] at hor
                have := append_grow (E := E) (rt := rt) st hu hi hz hzv hzl ((st.base.sim.base 0).forget q) hor hol hold hs hn hg hb3 hb4
                simpa using this
              · have hcap' := hcap rfl
                rw [hbase, Nat.zero_add] at hcap'
                have := append_room (E := E) (rt := rt) st hu hi hrow hm hro hb1 (by simpa using hb2) hcap' hs hn hroom hlc
                rw [hbase]
                exact this
            · cases h
      · cases h
    · cases h
  · cases h

theorem vappendT_some (st : St C μ β t σ a w) {ty tx rt e : TypeId} {i : TypeInfo} {zv : V} {z : Value} (hu : E.P.underlying ty = some (.slice e)) (hi : E.P.info? e = some i) (hz : i.zero = some z) (hzv : ofValue z = some zv) (hzl : zv.cells.length = i.size)
    (hi0 : i.size ≠ 0) {s : V} {x : Value} (rs : Rel μ s x) {k : Nat} {xs : List V} {news : List Value} {y : Value} (hs : Src E.P i.size tx y k news w) (hn : RelC μ xs news) {v : V} {σ' : Heap} (h : vappendT (e + 1) i.size i.bytes σ s k xs = some (v, σ')) :
    ∃ y' w', (Builtin.append_ #[ty, tx] rt #[x, y]).run E.P w = .ok y' w' ∧ Appended ⟨w, σ, μ, 0⟩ v σ' y' w' := by
  have hk0 : k = 0 → news = [] := fun hk => by
    have := hs.newsLen
    rw [hk, Nat.zero_mul] at this
    exact List.eq_nil_of_length_eq_zero this
  unfold vappendT at h
  split at h
  · cases rs
    split at h
    · rename_i hk
      injection h with h
      injection h with h1 h2
      subst h1 h2
      have hs' := hs
      rw [hk0 hk, hk] at hs'
      exact ⟨_, w, run_append_nothing w ty tx rt e i hu hi none 0 0 (Nat.le_refl _) y hs', ⟨_, st.base.sim.base 0, Rel.nils⟩⟩
    · rename_i hk
      split at h
      · rename_i hb
        injection h with h
        injection h with h1 h2
        subst h1 h2
        have := append_growT (E := E) (rt := rt) (e + 1) st hu hi hz hzv hzl (st.base.sim.base 0) (base := none) (n := 0) (c := 0) (k := k) (ocs := []) (olds := []) ⟨rfl, fun i x y hx => by simp at hx⟩ (by simp) (run_firstCells_none w.drew i.size 0 0 0) hs hn (.inr rfl) (by omega) (by simpa using hb.1) (by simpa using hb.2)
        simpa using this
      · cases h
  · rename_i q off n lim
    split at h
    · rename_i row hrow
      split at h
      · rename_i hb
        obtain ⟨hb1, hb2, hb3, hb4⟩ := hb
        cases rs with
        | sl hm hlc hcap hlim =>
          rename_i c L
          obtain ⟨he1, hat, hb0⟩ := st.base.sim.row hrow hm
          obtain ⟨olds, hol, hor, hoc⟩ := hat.range off (n * i.size) hb2
          have hold : (Builtin.firstCells i.size n (.slice (some ⟨L.block, L.base + off, none⟩) n c)).run E.P w.drew = .ok olds.toArray w.drew :=
            run_firstCells_some w.drew i.size n _ n c olds hol (by simpa using hoc)
          split at h
          · rename_i hlm
            have hcn := hlim hlm
            split at h
            · rename_i hk
              injection h with h
              injection h with h1 h2
              subst h1 h2
              have hs' := hs
              rw [hk0 hk, hk] at hs'
              exact ⟨_, w, run_append_nothing w ty tx rt e i hu hi _ n c hlc y hs', ⟨_, st.base.sim.base 0, Rel.sl hm hlc hcap hlim⟩⟩
            · rename_i hk
              injection h with h
              injection h with h1 h2
              subst h1 h2
              have hold' : (Builtin.firstCells i.size n (.slice (some ⟨L.block, L.base + off, none⟩) n c)).run E.P w.drew = .ok olds.toArray w.drew := hold
              exact append_growT (E := E) (rt := rt) (e + 1) st hu hi hz hzv hzl (st.base.sim.base 0) hor hol hold' hs hn (.inr rfl) (by omega) hb3 hb4
          · split at h
            · rename_i hro
              obtain ⟨hro, ho0, hty⟩ := hro
              subst ho0
              injection h with h
              injection h with h1 h2
              subst h1 h2
              have hbase := hb0 hro
              rcases Nat.lt_or_ge c (n + k) with hg | hroom
              · rw [List.drop_zero] at hor
                have := append_growT (E := E) (rt := rt) (e + 1) st hu hi hz hzv hzl ((st.base.sim.base 0).forget q) hor hol hold hs hn (.inr rfl) hg hb3 hb4
                simpa using this
              · have hcap' := hcap rfl
                rw [hbase, Nat.zero_add] at hcap'
                have := append_roomT (E := E) (rt := rt) (e + 1) st hu hi hrow hm hro hb1 (by simpa using hb2) hcap' hs hn (.inr hty.symm) hroom hlc
                rw [hbase]
                exact this
            · cases h
      · cases h
    · cases h
  · cases h

theorem vappendE_some (st : St C μ β t σ a w) {ty tx rt e : TypeId} {i : TypeInfo} {zv : V} {z : Value} (hu : E.P.underlying ty = some (.slice e)) (hi : E.P.info? e = some i) (hz : i.zero = some z) (hzv : ofValue z = some zv) (hzl : zv.cells.length = i.size)
    (hi0 : i.size ≠ 0) {s : V} {x : Value} (rs : Rel μ s x) {k : Nat} {xs : List V} {news : List Value} {y : Value} (hs : Src E.P i.size tx y k news w) (hn : RelC μ xs news) {v : V} {σ' : Heap} (h : vappendE E e i.size i.bytes σ s k xs = some (v, σ')) :
    ∃ y' w', (Builtin.append_ #[ty, tx] rt #[x, y]).run E.P w = .ok y' w' ∧ Appended ⟨w, σ, μ, 0⟩ v σ' y' w' := by
  unfold vappendE at h
  cases ht : E.tyd e with
  | true => rw [ht, cond_true] at h; exact vappendT_some (E := E) (rt := rt) st hu hi hz hzv hzl hi0 rs hs hn h
  | false => rw [ht, cond_false] at h; exact vappend_some (E := E) (rt := rt) st hu hi hz hzv hzl hi0 rs hs hn h

theorem src_slice (st : St C μ β t σ a w) {tx e' : TypeId} {sz : Nat} (hk : E.P.underlying tx = some (.slice e')) {v : V} {y : Value} (rv : Rel μ v y) {n : Nat} {cs : List V} (h : vcells σ sz v = some (n, cs)) :
    ∃ news, Src E.P sz tx y n news w ∧ RelC μ cs news := by
  unfold vcells at h
  split at h
  · rename_i q off m lim
    obtain ⟨cs', h1, h2⟩ := Option.bind_eq_some_iff.1 h
    injection h2 with h2
    injection h2 with h2 h3
    subst h2 h3
    obtain ⟨row, hrow, hle, rfl⟩ := rdc_some h1
    cases rv with
    | sl hm hlc hcap hlim =>
      obtain ⟨_, hat, _⟩ := st.base.sim.row hrow hm
      obtain ⟨news, h4, h5, h6⟩ := hat.range off _ hle
      exact ⟨news, Src.ofSlice w hk _ _ _ news h4 h6 h5.one, h5⟩
  · injection h with h
    injection h with h1 h2
    subst h1 h2
    cases rv
    exact ⟨[], Src.ofNil w hk 0, rfl, fun i x y hx => by simp at hx⟩
  · injection h with h
    injection h with h1 h2
    subst h1 h2
    cases rv
    exact ⟨[], Src.ofSlice w hk _ 0 _ [] (by simp) (fun j u hu => by simp at hu) (fun u hu => by cases hu), rfl, fun i x y hx => by simp at hx⟩
  · cases h

theorem pure_builtin {S : World → Prop} (st : St C μ β t σ a w) {b : Builtin} {ats : Array TypeId} {args : Array Operand} (ho : o.op = .call { callee := .builtin b, args := args, argTypes := ats }) (hb : b ≠ .append) (hb' : b ≠ .copy)
    (h : hbuiltin E b ats.toList args.toList t σ (fun x σ => K (putT o.dst x t) σ) = some r) : PureStep E o t σ μ β K r a w S := by
  unfold hbuiltin at h
  split at h
  · rename_i ty x hty hx
    obtain ⟨v, h1, rv⟩ := evV_some st h
    have hats : ats = #[ty] := Array.toList_inj.mp (by simpa using hty)
    have hargs : args = #[x] := Array.toList_inj.mp (by simpa using hx)
    split at h1
    · rename_i hu
      obtain ⟨s, rfl, h2⟩ := castStr_some h1
      have hv := rel_str rv
      exact pure_v (Rel.int _ _) h2 (fun w' _ => by simp [execOp, ho, resolve, hargs, hats, invoke, builtin, Builtin.len_, run_underlying hu, hv, goInt])
    · rename_i e hu
      obtain ⟨n, hn, h2⟩ := Option.bind_eq_some_iff.1 h1
      have : ∃ A c, a.eval x = .slice A n c := by
        generalize a.eval x = y at rv
        cases rv <;> simp [vlen] at hn <;> subst hn <;> exact ⟨_, _, rfl⟩
      obtain ⟨A, c, hv⟩ := this
      exact pure_v (Rel.int _ _) h2 (fun w' _ => by simp [execOp, ho, resolve, hargs, hats, invoke, builtin, Builtin.len_, run_underlying hu, hv, goInt])
    · cases h1
  · rename_i t1 t2 x y hty hx
    obtain ⟨v, h1, rv⟩ := evV_some st h
    obtain ⟨u, h2, ru⟩ := evV_some st h1
    obtain ⟨m, rfl, h3⟩ := castInt_some h2
    obtain ⟨n, rfl, h4⟩ := castInt_some h3
    have hats : ats = #[t1, t2] := Array.toList_inj.mp (by simpa using hty)
    have hargs : args = #[x, y] := Array.toList_inj.mp (by simpa using hx)
    have hv := rel_int rv
    have hu := rel_int ru
    exact pure_v (Rel.int _ _) h4 (fun w' _ => by simp [execOp, ho, resolve, hargs, hats, invoke, builtin, Builtin.max_, Builtin.max2, hv, hu])
  · exact absurd rfl hb
  · exact absurd rfl hb'
  · cases h

theorem goes_append (st : St C μ β t σ a w) {ats : Array TypeId} {args : Array Operand} (ho : o.op = .call { callee := .builtin .append, args := args, argTypes := ats })
    (h : hbuiltin E .append ats.toList args.toList t σ (fun x σ => K (putT o.dst x t) σ) = some r) : Goes E o t σ μ β K r C a w next Q := by
  unfold hbuiltin at h
  split at h
  · rename_i h1 _ _; cases h1
  · rename_i h1 _ _; cases h1
  · rename_i ty tx x y _ hty hx
    have hats : ats = #[ty, tx] := Array.toList_inj.mp (by simpa using hty)
    have hargs : args = #[x, y] := Array.toList_inj.mp (by simpa using hx)
    obtain ⟨e, he, h1⟩ := Option.bind_eq_some_iff.1 h
    obtain ⟨i, hi, h2⟩ := Option.bind_eq_some_iff.1 h1
    obtain ⟨z, hz, h3⟩ := Option.bind_eq_some_iff.1 h2
    have hu := elemT_some he
    obtain ⟨i2, zy, hi2, hzr, hzv⟩ := zeros_some hz
    rw [hi] at hi2
    injection hi2 with hi2
    subst hi2
    split at h3
    · cases h3
    · rename_i hb
      have hb1 : i.size ≠ 0 := fun hc => hb (.inl hc)
      have hb2 : z.cells.length = i.size := by
        rcases Nat.decEq z.cells.length i.size with h1 | h1
        · exact absurd (.inr h1) hb
        · exact h1
      obtain ⟨s, h4, rs⟩ := evV_some st h3
      have fin : ∀ {k : Nat} {xs : List V} {news : List Value} {v : V} {σ' : Heap}, Src E.P i.size tx (a.eval y) k news w → RelC μ xs news → vappendE E e i.size i.bytes σ s k xs = some (v, σ') → K (putT o.dst (.v v) t) σ' = some r → Goes E o t σ μ β K r C a w next Q := by
        intro k xs news v σ' hs hn hv hK hk
        obtain ⟨y', w', hrun, ⟨μ', st', hr⟩⟩ := vappendE_some (E := E) (rt := o.type) st hu hi hzr hzv hb2 hb1 rs hs hn hv
        exact goes_base st st' hr hK (by simp [execOp, ho, resolve, hargs, hats, invoke, builtin, hrun]) hk
      split at h4
      · rename_i e' hux
        rcases st.ev y with ⟨j, cs, n, g1, g2, g3, g4⟩ | ⟨g1, g2, g3⟩
        · rw [g1] at h4
          simp only at h4
          split at h4
          · rename_i hl
            obtain ⟨p, hp, h5⟩ := Option.bind_eq_some_iff.1 h4
            obtain ⟨news, h6, h7, h8⟩ := g4.range 0 cs.length (by omega)
            rw [List.drop_zero, List.take_length] at h7
            have hsrc : Src E.P i.size tx (a.eval y) n news w := by
              rw [g3]
              exact Src.ofSlice w hux _ _ _ news (by omega) (by simpa using h8) h7.one
            exact fin hsrc h7 (by rw [hp]) h5
          · cases h4
        · split at h4
          · rename_i v hv
            rw [hv] at g3
            obtain ⟨p, hp, h5⟩ := Option.bind_eq_some_iff.1 h4
            obtain ⟨q, hq, h6⟩ := Option.bind_eq_some_iff.1 h5
            obtain ⟨news, hs, hn⟩ := src_slice (E := E) st hux g3 (n := p.1) (cs := p.2) (by rw [hp])
            exact fin hs hn (by rw [hq]) h6
          · rename_i cs n hv
            rw [hv] at g2
            cases g2
          · cases h4
      · rename_i hux
        obtain ⟨v, h5, rv⟩ := evV_some st h4
        obtain ⟨b, rfl, h6⟩ := castStr_some h5
        split at h6
        · rename_i h1
          obtain ⟨q, hq, h7⟩ := Option.bind_eq_some_iff.1 h6
          have hv := rel_str rv
          have hsrc : Src E.P i.size tx (a.eval y) b.size (byteCells b) w := by
            rw [hv, h1]
            exact Src.ofString w hux b
          refine fin hsrc (xs := b.data.toList.map fun c => .int .u8 c.toNat) ?_ (by rw [h1, hq]) h7
          refine ⟨by simp [byteCells], fun j x y hx hy => ?_⟩
          simp only [byteCells, List.getElem?_map, Option.map_eq_some_iff] at hx hy
          obtain ⟨c, hc, rfl⟩ := hx
          obtain ⟨c', hc', rfl⟩ := hy
          rw [hc] at hc'
          injection hc' with hc'
          subst hc'
          exact ⟨Rel.int _ _, rfl⟩
        · cases h6
      · cases h4
  · rename_i h1 _ _; cases h1
  · cases h

theorem goes_copy (st : St C μ β t σ a w) {ats : Array TypeId} {args : Array Operand} (ho : o.op = .call { callee := .builtin .copy, args := args, argTypes := ats })
    (h : hbuiltin E .copy ats.toList args.toList t σ (fun x σ => K (putT o.dst x t) σ) = some r) : Goes E o t σ μ β K r C a w next Q := by
  unfold hbuiltin at h
  split at h
  · rename_i h1 _ _; cases h1
  · rename_i h1 _ _; cases h1
  · rename_i h1 _ _; cases h1
  · rename_i ty tx x y _ hty hx
    have hats : ats = #[ty, tx] := Array.toList_inj.mp (by simpa using hty)
    have hargs : args = #[x, y] := Array.toList_inj.mp (by simpa using hx)
    obtain ⟨e, he, h1⟩ := Option.bind_eq_some_iff.1 h
    obtain ⟨sz, hsz, h2⟩ := Option.bind_eq_some_iff.1 h1
    have hu := elemT_some he
    obtain ⟨i, hi, his⟩ := esize_some hsz
    obtain ⟨d, h3, rd⟩ := evV_some st h2
    obtain ⟨s, h4, rs⟩ := evV_some st h3
    split at h4
    · rename_i e' hux
      obtain ⟨p, hp, h5⟩ := Option.bind_eq_some_iff.1 h4
      unfold vcopy at hp
      split at hp
      · rename_i qd od nd ld qs os ms ls
        obtain ⟨cs, hc, hp1⟩ := Option.bind_eq_some_iff.1 hp
        obtain ⟨σ', hw, hp2⟩ := Option.bind_eq_some_iff.1 hp1
        injection hp2 with hp2
        subst hp2
        obtain ⟨row, hrow, hle, hcs⟩ := rdc_some hc
        generalize hys : a.eval y = vy at rs
        generalize hyd : a.eval x = vx at rd
        cases rs with
        | sl hm hlc hcap hlim =>
        rename_i csrc Ls
        cases rd with
        | sl hmd hlcd hcapd hlimd =>
        rename_i cdst Ld
        obtain ⟨_, hat, _⟩ := st.base.sim.row hrow hm
        obtain ⟨news, h6, h7, h8⟩ := hat.range os (min ms nd * sz) hle
        unfold wrc at hw
        split at hw
        · rename_i rowd hrowd
          split at hw
          · rename_i hled
            injection hw with hw
            obtain ⟨hesz, hatd, hb0⟩ := st.base.sim.row hrowd hmd
            have hbase := hb0 hled.1
            rw [hled.1, Bool.not_false, hbase] at hatd
            rw [hbase, Nat.zero_add] at hyd
            have hrc : RelC μ cs news := by rw [hcs]; exact h7
            have hst := run_store_at (P := E.P) hatd od _ _ hrc hled.2
            have hat' := hatd.store od _ _ hrc hled.2
            have hb := (st.base.sim.base 0).wrote hrowd hmd hled.1 (Wrote.cells Ld.block od _ w) _ hat'
            have hσ : σ' = σ.set qd (some ⟨setCells rowd.cells od cs, rowd.esz, false, rowd.ty⟩) := by
              rw [← hw, ← hled.1]
            rw [← hσ] at hb
            have hfc := run_firstCells_some (P := E.P) (w := w) sz (min ms nd) ⟨Ls.block, Ls.base + os, none⟩ ms csrc news h6 h8
            have hso : (sizeOf e).run E.P w = .ok sz w := by simp [sizeOf, typeInfo, hi, his]
            refine goes_base st hb (Rel.int _ _) h5 ?_
            have hmin : Nat.min ms nd = min ms nd := rfl
            simp [execOp, ho, resolve, hats, hargs, invoke, builtin, Builtin.copy_, run_underlying hu, hyd, hys, Builtin.lenOf, hmin, hso, hfc, hst, goInt]
          · cases hw
        · cases hw
      · cases hp
    · cases h4
  · cases h

theorem goes_call (ok : EnvOk E) (st : St C μ β t σ a w) {f : Operand} {ats : Array TypeId} {args : Array Operand} (ho : o.op = .call { callee := .value f, args := args, argTypes := ats })
    (h : (evV t f fun f => castFn f fun f cap => evs t args.toList fun args => (E.call f (args ++ cap) σ).bind fun q => castTy E.P o.type q.1 fun v => K (putT o.dst (.v v) t) q.2) = some r) : Goes E o t σ μ β K r C a w next Q := by
  obtain ⟨v, h1, rv⟩ := evV_some st h
  obtain ⟨fid, cap, rfl, h2⟩ := castFn_some h1
  obtain ⟨xs, h3, rx⟩ := evs_some st h2
  obtain ⟨q, hq, h4⟩ := Option.bind_eq_some_iff.1 h3
  have h5 := castTy_some h4
  generalize hv : a.eval f = y at rv
  cases rv with
  | fn hl hr =>
    rename_i vs
    have hrels : Rels μ (xs ++ cap) ((args.map a.eval) ++ vs).toList := by
      refine ⟨?_, fun i x y hx hy => ?_⟩
      · rw [Array.toList_append, List.length_append, List.length_append, rx.1]
        simp [hl]
      · rw [Array.toList_append] at hy
        have hlen : xs.length = (args.map a.eval).toList.length := by rw [rx.1]; simp
        rcases Nat.lt_or_ge i xs.length with hlt | hge
        · rw [List.getElem?_append_left hlt] at hx
          rw [List.getElem?_append_left (by omega)] at hy
          exact rx.2 i x y hx (by simpa using hy)
        · rw [List.getElem?_append_right hge] at hx
          rw [List.getElem?_append_right (by omega), ← hlen] at hy
          exact hr _ x y hx (by simpa using hy)
    obtain ⟨hcf, hcalls⟩ := ok.call fid (xs ++ cap) σ q.1 q.2 hq μ w _ st.base.sim hrels
    intro hk
    unfold Oper.wp
    have hrun : (execOp a.eval o).run E.P w = .ok (.enter fid ((args.map a.eval) ++ vs)) w := by
      simp [execOp, ho, resolve, Deferred.ofValue, hv, invoke, hcf]
    rw [hrun, Oper.upon_enter]
    refine hcalls.mono fun e w' hp => ?_
    cases e with
    | returned y =>
      obtain ⟨μ', hb, hrel⟩ := hp
      exact hk _ _ _ _ _ _ ((st.call hb).put o.dst (.v q.1) y rfl hrel) (Step.ofBase st hb (.v q.1) rfl) h5
    | panicked c => exact hp.elim
    | outgrown => exact hp.elim
theorem goes_bytes (st : St C μ β t σ a w) {src dst : TypeId} {x : Operand} (ho : o.op = .convert src dst x) (hs : isSlice E.P src = true) (h : hop E o t σ K = some r) : Goes E o t σ μ β K r C a w next Q := by
  simp only [hop, ho, hs, cond_true, hbytes] at h
  split at h
  · rename_i e hu hd
    split at h
    · rename_i he
      have run : ∀ (A : Addr) (n c : Nat) (news : List Value) (cs : List V) (s : ByteArray), a.eval x = .slice (some A) n c → news.length = n → (∀ j v, news[j]? = some v → w.cell? (A.add j) = some v) → RelC μ cs news → bytesOf cs .empty = some s →
          (execOp a.eval o).run E.P w = .ok (.value (.string s)) w := by
        intro A n c news cs s hx hl hc hr hb
        have hload := run_loadCells_list (P := E.P) w A news hc
        rw [hl] at hload
        simp only [execOp, ho, hx, convert, Sem.run_bind, run_underlying hu, run_underlying hd, run_underlying he, Result.andThen_ok, Conv.bytesToString, hload]
        rw [← Array.forIn_toList]
        rw [bytes_loop (P := E.P) (μ := μ) _ (fun n s w => rfl) cs news .empty s hr hb]
        rfl
      rcases st.ev x with ⟨j, cs, n, g1, g2, g3, g4⟩ | ⟨g1, g2, g3⟩
      · rw [g1] at h
        simp only at h
        split at h
        · rename_i hl
          obtain ⟨s, hs1, h1⟩ := Option.bind_eq_some_iff.1 h
          obtain ⟨news, h6, h7, h8⟩ := g4.range 0 cs.length (by omega)
          rw [List.drop_zero, List.take_length] at h7
          exact goes_v st (Rel.str s) h1 (run _ n n news cs s g3 (by omega) (by simpa using h8) h7 hs1)
        · cases h
      · split at h
        · rename_i v hv
          rw [hv] at g3
          have g3' : Rel μ v (a.eval x) := g3
          obtain ⟨p, hp, h1⟩ := Option.bind_eq_some_iff.1 h
          obtain ⟨s, hs1, h2⟩ := Option.bind_eq_some_iff.1 h1
          unfold vcells at hp
          split at hp
          · rename_i q off m lim
            obtain ⟨cs', h3, h4⟩ := Option.bind_eq_some_iff.1 hp
            injection h4 with h4
            subst h4
            obtain ⟨row, hrow, hle, rfl⟩ := rdc_some h3
            generalize hx : a.eval x = y at g3'
            cases g3' with
            | sl hm hlc hcap hlim =>
              obtain ⟨_, hat, _⟩ := st.base.sim.row hrow hm
              obtain ⟨news, k1, k2, k3⟩ := hat.range off _ hle
              exact goes_v st (Rel.str s) h2 (run _ _ _ news _ s hx (by omega) k3 k2 hs1)
          · injection hp with hp
            subst hp
            have hx : a.eval x = .slice none 0 0 := by generalize a.eval x = y at g3'; cases g3'; rfl
            simp [bytesOf] at hs1
            subst hs1
            exact goes_v st (Rel.str _) h2 (by simp [execOp, ho, hx, convert, run_underlying hu, run_underlying hd, run_underlying he, Conv.bytesToString])
          · injection hp with hp
            subst hp
            generalize hx : a.eval x = y at g3'
            cases g3' with
            | emp =>
              exact goes_v st (Rel.str s) h2 (run _ _ _ [] [] s hx rfl (fun j v hv => by simp at hv) ⟨rfl, fun i x y hx => by simp at hx⟩ hs1)
          · cases hp
        · rename_i cs n hv
          rw [hv] at g2
          cases g2
        · cases h
    · cases h
  · cases h

theorem goes_makeSlice (st : St C μ β t σ a w) {ty : TypeId} {l c : Operand} (ho : o.op = .makeSlice ty l c) (h : hop E o t σ K = some r) : Goes E o t σ μ β K r C a w next Q := by
  simp only [hop, ho] at h
  split at h
  · rename_i i j
    cases hij : (i == j) with
    | false => rw [hij] at h; cases h
    | true =>
      rw [hij, cond_true] at h
      have hij' : i = j := by simpa using hij
      subst hij'
      obtain ⟨e, he, h1⟩ := Option.bind_eq_some_iff.1 h
      obtain ⟨f, hf, h2⟩ := Option.bind_eq_some_iff.1 h1
      obtain ⟨z, hz, h3⟩ := Option.bind_eq_some_iff.1 h2
      have hu := elemT_some he
      obtain ⟨f2, y, hf2, hzr, hzv⟩ := zeros_some hz
      rw [hf] at hf2
      injection hf2 with hf2
      subst hf2
      split at h3
      · cases h3
      · rename_i hb
        have hb1 : f.size ≠ 0 := fun hc => hb (.inl hc)
        have hb2 : z.cells.length = f.size := by
          rcases Nat.decEq z.cells.length f.size with h1 | h1
          · exact absurd (.inr h1) hb
          · exact h1
        obtain ⟨v, h4, rv⟩ := evV_some st h3
        obtain ⟨n, rfl, h5⟩ := castInt_some h4
        have hv := rel_int rv
        split at h5
        · rename_i hn
          have e46 : (2 : Int) ^ 46 = 70368744177664 := by decide
          rw [e46] at hn
          obtain ⟨hn0, hn1, hn2⟩ := hn
          have hzc := ofZero (μ := μ) hzv
          have hysz : y.cells.size = f.size := by have := hzc.1; simp at this; omega
          have hrow : RelC μ (List.replicate n.toNat z.cells).flatten ((Array.range (n.toNat * y.cells.size)).map (y.cells[· % y.cells.size]!)).toList := by
            rw [range_cells _ _ (by omega)]
            exact relC_replicate hzc n.toNat
          have hrun := run_make (P := E.P) w ty e f y hu hf hzr .i64 .i64 n n hn0 (Int.le_refl _) (by rw [Int.mul_comm]; omega) (by omega)
          have hmade : madeCells y.cells (n.toNat * f.size) = (Array.range (n.toNat * y.cells.size)).map (y.cells[· % y.cells.size]!) := by
            rw [hysz]
            unfold madeCells
            simp [hysz]
          rw [hmade] at hrun
          refine goes_newRow st f.size hrow (rel_sl_new (Nat.le_refl _) ?_ (fun _ => rfl)) h5 (by simp only [execOp, ho, Act.eval] at hv ⊢; simp only [Sem.run_bind, hv, hrun, Result.andThen_ok, Sem.run_pure]; rfl)
          simp [hysz]
        · cases h5
  · cases h
end ops
end Go.HM
