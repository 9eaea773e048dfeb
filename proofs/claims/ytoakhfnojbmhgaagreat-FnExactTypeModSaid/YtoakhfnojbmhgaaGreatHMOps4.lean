/- Each operation of the small machine is one of the model's: slices, structs, appends, calls. -/
import Derived.Test.YtoakhfnojbmhgaaGreatHMOps3
import Derived.Laws.Append
set_option linter.unusedSimpArgs false
set_option linter.unusedVariables false
namespace Go.HM

theorem run_bound {P : Program} {w : World} {k : IntKind} {i : Int} {y : Nat} {code : BoundsCode} (h0 : 0 ≤ i) (h1 : i ≤ y) : (Instr.sliceBound (.int k i) y code).run P w = .ok i.toNat w := by
  simp [Instr.sliceBound, asIntOf, h0, h1]

theorem run_bounds {P : Program} {w : World} (isSlice : Bool) (len cap : Nat) (lo hi : Option Int) (h0 : 0 ≤ lo.getD 0) (h1 : lo.getD 0 ≤ hi.getD len) (h2 : hi.getD len ≤ cap) :
    (Instr.sliceBounds isSlice len cap (lo.map (Value.int .i64)) (hi.map (Value.int .i64)) none).run P w = .ok ((lo.getD 0).toNat, (hi.getD len).toNat, cap) w := by
  cases hi with
  | none =>
    cases lo with
    | none => simp [Instr.sliceBounds]
    | some l =>
      simp at h0 h1 h2
      simp [Instr.sliceBounds, run_bound h0 h1]
  | some h =>
    simp at h1 h2
    have hh : 0 ≤ h := Int.le_trans h0 h1
    cases lo with
    | none => simp [Instr.sliceBounds, run_bound hh h2]
    | some l =>
      simp at h0 h1
      have hl : l ≤ (h.toNat : Int) := by omega
      simp [Instr.sliceBounds, run_bound hh h2, run_bound h0 hl]

section ops
variable {α : Type} {E : Env} {o : Oper} {t : List T} {σ : Heap} {K : List T → Heap → Option α} {r : α} {C : Ctx} {μ : Mu} {β : Nat → Nat} {a : Act} {w : World} {next : Act → World → Prop} {Q : Exit → Act → World → Prop}

theorem evOpt_some (st : St C μ β t σ a w) {x : Option Operand} {K : Option Int → Option α} (h : evOpt t x K = some r) : ∃ n, K n = some r ∧ x.map a.eval = n.map (Value.int .i64) := by
  cases x with
  | none => exact ⟨none, h, rfl⟩
  | some x =>
    obtain ⟨v, h1, rv⟩ := evV_some st h
    obtain ⟨n, rfl, h2⟩ := castInt_some h1
    exact ⟨some n, h2, by simp [rel_int rv]⟩

theorem pure_slice {S : World → Prop} (st : St C μ β t σ a w) {ty : TypeId} {x : Operand} {lo hi : Option Operand} (ho : o.op = .slice ty x lo hi none) (h : hop E o t σ K = some r) : PureStep E o t σ μ β K r a w S := by
  simp only [hop, ho] at h
  obtain ⟨u, h1, ru⟩ := evV_some st h
  obtain ⟨l, h2, hl⟩ := evOpt_some st h1
  obtain ⟨hh, h3, hhv⟩ := evOpt_some st h2
  split at h3
  · rename_i hu
    obtain ⟨s, rfl, h4⟩ := castStr_some h3
    obtain ⟨s', hs', h5⟩ := Option.bind_eq_some_iff.1 h4
    unfold ssub at hs'
    simp only at hs'
    split at hs'
    · rename_i hb
      injection hs' with hs'
      have hx := rel_str ru
      refine pure_v (Rel.str _) h5 (fun w' _ => ?_)
      have := run_bounds (P := E.P) (w := w') false s.size s.size l hh hb.1 hb.2.1 (by exact_mod_cast hb.2.2)
      simp [execOp, ho, hx, hl, hhv, Instr.sliceAt, Instr.slice, run_underlying hu, this, hs']
    · cases hs'
  · rename_i e hu
    obtain ⟨sz, hsz, h4⟩ := Option.bind_eq_some_iff.1 h3
    obtain ⟨ii, hi, hn⟩ := esize_some hsz
    obtain ⟨v, hv, h5⟩ := Option.bind_eq_some_iff.1 h4
    unfold vslice at hv
    split at hv
    · rename_i q off len lim
      simp only at hv
      split at hv
      · rename_i hb
        generalize hx : a.eval x = z at ru
        cases ru with
        | sl hm hlc hcap hlim =>
          rename_i c L
          have hb3 : hh.getD (len : Int) ≤ (c : Int) := by have := hb.2.2; omega
          have hexec : ∀ w, (execOp a.eval o).run E.P w = .ok (.value (.slice (if c = (l.getD 0).toNat then some ⟨L.block, L.base + off, none⟩ else some ⟨L.block, L.base + off + (l.getD 0).toNat * sz, none⟩) ((hh.getD (len : Int)).toNat - (l.getD 0).toNat) (c - (l.getD 0).toNat))) w := by
            intro w
            have hrun := run_bounds (P := E.P) (w := w) true len c l hh hb.1 hb.2.1 hb3
            simp [execOp, ho, hx, hl, hhv, Instr.sliceAt, Instr.slice, run_underlying hu, hrun, sizeOf, typeInfo, hi, hn, Addr.add_mid]
          split at hv
          · rename_i hz
            injection hv with hv
            subst hv
            refine pure_v ?_ h5 (fun w' _ => hexec w')
            have : (hh.getD (len : Int)).toNat - (l.getD 0).toNat = 0 := by rw [← hz.2]; omega
            rw [this]
            split
            · exact Rel.emp
            · exact Rel.emp
          · rename_i hz
            injection hv with hv
            subst hv
            refine pure_v ?_ h5 (fun w' _ => hexec w')
            have hlen : (hh.getD (len : Int)).toNat - (l.getD 0).toNat = (hh.getD (len : Int) - l.getD 0).toNat := by omega
            rw [hlen]
            have hpos : ∀ {A B : Option Addr}, (c = (l.getD 0).toNat → A = B) → (if c = (l.getD 0).toNat then A else B) = B := by
              intro A B hAB; split <;> simp_all
            rw [hpos]
            · rw [Nat.add_assoc]
              have hb1 := hb.1
              have hb2 := hb.2.1
              refine Rel.sl hm (by omega) ?_ ?_
              · intro hz0
                have h00 : off = 0 := by omega
                have := hcap h00
                have : (c - (l.getD 0).toNat) * L.esz ≤ c * L.esz := Nat.mul_le_mul_right _ (Nat.sub_le _ _)
                omega
              · intro hlm
                simp only [Bool.and_eq_true, decide_eq_true_eq] at hlm
                have := hlim hlm.1
                omega
            · intro hc
              have hb1 := hb.1
              have hb2 := hb.2.1
              have hb4 := hb.2.2
              have : l.getD 0 = hh.getD (len : Int) := by omega
              have h0 : ¬ 0 < l.getD 0 := fun hlt => hz ⟨hlt, this⟩
              have : (l.getD 0).toNat = 0 := by omega
              rw [this]; simp
      · cases hv
    · split at hv
      · rename_i hb
        injection hv with hv
        subst hv
        have hx : a.eval x = .slice none 0 0 := by generalize a.eval x = xx at ru; cases ru; rfl
        have hrun := fun w => run_bounds (P := E.P) (w := w) true 0 0 l hh (by omega) (by have := hb.2; simp at this ⊢; omega) (by have := hb.2; simp at this ⊢; omega)
        refine pure_v Rel.nils h5 (fun w' _ => ?_)
        have e1 : (l.getD 0).toNat = 0 := by omega
        have e2 : (hh.getD ((0 : Nat) : Int)).toNat = 0 := by have := hb.2; simp at this ⊢; omega
        rw [e1, e2] at hrun
        simp [execOp, ho, hx, hl, hhv, Instr.sliceAt, Instr.slice, run_underlying hu, hrun, sizeOf, typeInfo, hi, hn]
      · cases hv
    · cases hv
  · rename_i n e hu
    obtain ⟨v, hv, h5⟩ := Option.bind_eq_some_iff.1 h3
    unfold vwhole at hv
    split at hv
    · obtain ⟨sz, hsz, hv2⟩ := Option.bind_eq_some_iff.1 hv
      obtain ⟨ii, hi, hn⟩ := esize_some hsz
      obtain ⟨q, off, rfl, h6⟩ := castPtr_some hv2
      unfold gwhole at h6
      split at h6
      · rename_i row hrow
        have h7 := h6
        split at h7
        · rename_i hb
          obtain ⟨rfl, hb1, hb2, hb3, hb4⟩ := hb
          injection h7 with h7
          subst h7
          generalize hx : a.eval x = z at ru
          cases ru with
          | ptr hm =>
            rename_i L
            obtain ⟨he1, hat, hb0⟩ := st.base.sim.row hrow hm
            obtain ⟨cs, ct, fz, g1, g2, g3, g4, g5⟩ := hat
            have hn0 : ¬ n = 0 := hb3
            have hrun := fun w => run_bounds (P := E.P) (w := w) false n n none none (by simp) (by simp) (by simp)
            simp only [Option.getD_none, Option.map_none] at hrun
            refine pure_v (Rel.sl (c := n) hm (Nat.le_refl _) (fun _ => ?_) (fun _ => rfl)) h5 (fun w' _ => ?_)
            · have : n * L.esz = row.cells.length := by rw [hb2, ← hb1, he1]
              omega
            · simp at hl hhv
              simp [execOp, ho, hx, hl, hhv, Instr.sliceAt, Instr.sureAddr, run_underlying hu, hrun, sizeOf, typeInfo, hi, hn, hn0, Addr.add_mid]
        · cases h7
      · cases h6
    · cases hv
  · cases h3
theorem evParts_some (st : St C μ β t σ a w) {P : Program} {tyOf : Nat → Option TypeId} : ∀ {ps : List (Nat × Operand)} {K : List (Nat × List V) → Option α} {r : α}, evParts P tyOf t ps K = some r →
    ∃ xs, K xs = some r ∧ xs.length = ps.length ∧ ∀ (i : Nat) (n : Nat) v (m : Nat) q, xs[i]? = some (n, v) → ps[i]? = some (m, q) → n = m ∧ RelC μ v (a.eval q).cells.toList
  | [], K, r, h => ⟨[], h, rfl, fun i n v m q hx => by simp at hx⟩
  | (k, q0) :: ps, K, r, h => by
    obtain ⟨x0, h1, rx0⟩ := evV_some st h
    obtain ⟨ty0, _, h1⟩ := Option.bind_eq_some_iff.1 h1
    obtain ⟨htu, h1⟩ := cellsT_some h1
    obtain ⟨xs, h2, h3, h4⟩ := evParts_some st h1
    have rx := rx0.cells htu
    refine ⟨(k, x0.cells) :: xs, h2, by simp [h3], fun i n v m q hx hp => ?_⟩
    cases i with
    | zero => simp at hx hp; obtain ⟨rfl, rfl⟩ := hx; obtain ⟨rfl, rfl⟩ := hp; exact ⟨rfl, rx⟩
    | succ i => exact h4 i n v m q (by simpa using hx) (by simpa using hp)

def arrSet (cs : Array Value) (off : Nat) : List Value → Array Value
  | [] => cs
  | v :: vs => arrSet (cs.setIfInBounds off v) (off + 1) vs

theorem foldl_arrSet : ∀ (vs : List Value) (k off : Nat) (cs : Array Value), (vs.zipIdx k).foldl (fun cs (p : Value × Nat) => cs.setIfInBounds (off + p.2) p.1) cs = arrSet cs (off + k) vs
  | [], _, _, _ => rfl
  | v :: vs, k, off, cs => by
    rw [List.zipIdx_cons, List.foldl_cons, foldl_arrSet vs (k + 1) off, arrSet, Nat.add_assoc]

theorem arrSet_rel : ∀ (xs : List V) (vs : List Value) (off : Nat) (cs : List V) (ds : Array Value), RelC μ xs vs → RelC μ cs ds.toList → off + xs.length ≤ cs.length → RelC μ (setCells cs off xs) (arrSet ds off vs).toList
  | [], [], off, cs, ds, h, hc, _ => hc
  | [], _ :: _, _, _, _, h, _, _ => by have := h.1; simp at this
  | _ :: _, [], _, _, _, h, _, _ => by have := h.1; simp at this
  | x :: xs, v :: vs, off, cs, ds, h, hc, hl => by
    rw [setCells, arrSet]
    refine arrSet_rel xs vs (off + 1) _ _ ⟨by have := h.1; simpa using this, fun i a b ha hb => h.2 (i + 1) a b (by simpa using ha) (by simpa using hb)⟩ ?_ (by simp at hl ⊢; omega)
    refine ⟨by simpa using hc.1, fun i a b ha hb => ?_⟩
    rw [List.getElem?_set] at ha
    simp only [Array.getElem?_toList, Array.getElem?_setIfInBounds] at hb
    split at ha
    · rename_i he
      subst he
      split at ha
      · injection ha with ha
        subst ha
        rw [if_pos rfl] at hb
        split at hb
        · injection hb with hb
          subst hb
          exact h.2 0 _ _ rfl rfl
        · cases hb
      · cases ha
    · rename_i he
      rw [if_neg he] at hb
      exact hc.2 i a b ha (by simpa using hb)

theorem fill_rel {place : Nat → Option (Nat × Nat)} {place' : Nat → Option (Nat × Nat)} : ∀ (xs : List (Nat × List V)) (ps : List (Nat × Value)) (cs : List V) (ds : Array Value) (out : List V),
    xs.length = ps.length → (∀ (i : Nat) n v m q, xs[i]? = some (n, v) → ps[i]? = some (m, q) → n = m ∧ RelC μ v q.cells.toList) → (∀ i p, place i = some p → place' i = some p) → RelC μ cs ds.toList → fillV place cs xs = some out →
    ∃ os, Instr.fill place' ds ps = some os ∧ RelC μ out os.toList
  | [], [], cs, ds, out, _, _, _, hc, h => by simp [fillV] at h; subst h; exact ⟨ds, rfl, hc⟩
  | [], _ :: _, _, _, _, h, _, _, _, _ => by simp at h
  | _ :: _, [], _, _, _, h, _, _, _, _ => by simp at h
  | (i, v) :: xs, (j, q) :: ps, cs, ds, out, hl, hp, hpl, hc, h => by
    obtain ⟨rfl, hr⟩ := hp 0 i v j q rfl rfl
    rw [fillV] at h
    split at h
    · rename_i off size hplace
      split at h
      · rename_i hb
        have hq := hr
        have hds : ds.size = cs.length := by have := hc.1; simp at this; omega
        have hqs : q.cells.size = size := by have := hq.1; simp at this; omega
        have hqs' : q.cells.toList.length = size := by simpa using hqs
        obtain ⟨os, h1, h2⟩ := fill_rel xs ps _ _ out (by simpa using hl) (fun k n u m z hx hz => hp (k + 1) n u m z (by simpa using hx) (by simpa using hz)) hpl (arrSet_rel v q.cells.toList off cs ds hq hc (by rw [hb.1]; exact hb.2)) h
        refine ⟨os, ?_, h2⟩
        rw [Instr.fill, hpl _ _ hplace]
        simp only
        have hcond : (decide (q.cells.size ≠ size) || decide (off + q.cells.size > ds.size)) = false := by
          simp [hqs]; omega
        rw [hcond]
        simp only [Bool.false_eq_true, if_false]
        rw [← h1]
        congr 1
        have hfold := foldl_arrSet q.cells.toList 0 off ds
        rw [Nat.add_zero] at hfold
        rw [← hfold, ← Array.foldl_toList]
        simp
      · cases h
    · cases h

theorem run_places {P : Program} (fs : List Field) (hs : ∀ f ∈ fs, ∃ i, P.info? f.type = some i) :
    (fs.mapM fun f => do pure (f.offset, ← sizeOf f.type) : Sem (List (Nat × Nat))).run P w = .ok (fs.map fun f => (f.offset, nsize P f.type)) w := by
  induction fs with
  | nil => rfl
  | cons f fs ih =>
    obtain ⟨i, hi⟩ := hs f (by simp)
    rw [List.mapM_cons]
    have := ih (fun g hg => hs g (by simp [hg]))
    simp only [Sem.run_bind] at this ⊢
    simp only [sizeOf, typeInfo, Sem.run_bind, run_program, hi, Result.andThen_ok, Sem.run_pure, this, nsize_of hi, List.map_cons]
    have h2 := this
    simp only [sizeOf, typeInfo] at h2
    rw [h2]
    rfl

theorem pure_build {S : World → Prop} (st : St C μ β t σ a w) {ty : TypeId} {parts : Array (Nat × Operand)} (ho : o.op = .build ty parts) (h : hop E o t σ K = some r) : PureStep E o t σ μ β K r a w S := by
  simp only [hop, ho] at h
  split at h
  · rename_i fs hu
    obtain ⟨ps, h1, hlen, hps⟩ := evParts_some st h
    cases hall : fs.toList.all (fun f => (E.P.info? f.type).isSome) with
    | false => rw [hall] at h1; cases h1
    | true =>
    rw [hall, cond_true] at h1
    obtain ⟨z, hz, h2⟩ := Option.bind_eq_some_iff.1 h1
    obtain ⟨i, y, hi, hzr, hzv⟩ := zeros_some hz
    obtain ⟨cs, hcs, h3⟩ := Option.bind_eq_some_iff.1 h2
    have hplaces : ∀ w, (fs.mapM fun f => do pure (f.offset, ← sizeOf f.type) : Sem (Array (Nat × Nat))).run E.P w = .ok (fs.map fun f => (f.offset, nsize E.P f.type)) w := by
      intro w
      have := run_places (P := E.P) (w := w) fs.toList (fun f hf => by
        have := List.all_eq_true.1 hall f hf
        exact Option.isSome_iff_exists.1 this)
      rw [Array.mapM_eq_mapM_toList, Sem.run_map, this]
      show Result.ok _ _ = _
      congr 1
      apply Array.ext'
      simp
    have hvals : ∀ (k n : Nat) v (m : Nat) q, ps[k]? = some (n, v) → ((parts.map fun (i, x) => (i, a.eval x)).toList)[k]? = some (m, q) → n = m ∧ RelC μ v q.cells.toList := by
      intro k n v m q h4 h5
      simp only [Array.toList_map, List.getElem?_map, Option.map_eq_some_iff] at h5
      obtain ⟨⟨m', q'⟩, h6, h7⟩ := h5
      injection h7 with h7 h8
      subst h7 h8
      exact hps k n v m' q' h4 h6
    obtain ⟨os, h4, h5⟩ := fill_rel (μ := μ) (place' := fun j => (fs.map fun f => (f.offset, nsize E.P f.type))[j]?) ps _ z.cells y.cells cs (by simp [hlen]) hvals (fun j p hp => by simpa using hp) (ofZero hzv) hcs
    refine pure_v (RelC.agg h5) h3 (fun w' _ => ?_)
    simp only [execOp, ho, Instr.build, Sem.run_bind, zeroValue, typeInfo, run_program, hi, hzr, Result.andThen_ok, Sem.run_pure, run_underlying hu, hplaces]
    simp only [h4]
    rfl
  · rename_i n e hu
    obtain ⟨sz, hsz, h0⟩ := Option.bind_eq_some_iff.1 h
    obtain ⟨ii, hii, hn⟩ := esize_some hsz
    obtain ⟨ps, h1, hlen, hps⟩ := evParts_some st h0
    obtain ⟨z, hz, h2⟩ := Option.bind_eq_some_iff.1 h1
    obtain ⟨i, y, hi, hzr, hzv⟩ := zeros_some hz
    obtain ⟨cs, hcs, h3⟩ := Option.bind_eq_some_iff.1 h2
    have hvals : ∀ (k n : Nat) v (m : Nat) q, ps[k]? = some (n, v) → ((parts.map fun (i, x) => (i, a.eval x)).toList)[k]? = some (m, q) → n = m ∧ RelC μ v q.cells.toList := by
      intro k n v m q h4 h5
      simp only [Array.toList_map, List.getElem?_map, Option.map_eq_some_iff] at h5
      obtain ⟨⟨m', q'⟩, h6, h7⟩ := h5
      injection h7 with h7 h8
      subst h7 h8
      exact hps k n v m' q' h4 h6
    obtain ⟨os, h4, h5⟩ := fill_rel (μ := μ) (place' := fun i => some (i * sz, sz)) ps _ z.cells y.cells cs (by simp [hlen]) hvals (fun j p hp => hp) (ofZero hzv) hcs
    refine pure_v (RelC.agg h5) h3 (fun w' _ => ?_)
    simp only [execOp, ho, Instr.build, Sem.run_bind, zeroValue, typeInfo, run_program, hi, hzr, Result.andThen_ok, Sem.run_pure, run_underlying hu, sizeOf, hii, hn]
    simp only [h4]
    rfl
  · cases h
theorem relC_replicate {z : List V} {ys : List Value} (h : RelC μ z ys) : ∀ n, RelC μ (List.replicate n z).flatten (List.replicate n ys).flatten
  | 0 => ⟨rfl, fun i x y hx => by simp at hx⟩
  | n + 1 => by
    obtain ⟨h1, h2⟩ := relC_replicate h n
    rw [List.replicate_succ, List.replicate_succ, List.flatten_cons, List.flatten_cons]
    refine ⟨by rw [List.length_append, List.length_append, h.1, h1], fun i x y hx hy => ?_⟩
    rcases Nat.lt_or_ge i z.length with hlt | hge
    · rw [List.getElem?_append_left hlt] at hx
      rw [List.getElem?_append_left (by rw [← h.1]; exact hlt)] at hy
      exact h.2 i x y hx hy
    · rw [List.getElem?_append_right hge] at hx
      rw [List.getElem?_append_right (by rw [← h.1]; exact hge), ← h.1] at hy
      exact h2 _ x y hx hy

theorem range_cells (z : Array Value) (n : Nat) (hz : 0 < z.size) : ((Array.range (n * z.size)).map (z[· % z.size]!)).toList = (List.replicate n z.toList).flatten := by
  apply List.ext_getElem?
  intro i
  have hlen : ((List.replicate n z.toList).flatten).length = n * z.size := by simp
  rcases Nat.lt_or_ge i (n * z.size) with hlt | hge
  · have hmod : i % z.size < z.size := Nat.mod_lt _ hz
    have e1 : ((Array.range (n * z.size)).map (z[· % z.size]!)).toList[i]? = some z[i % z.size] := by
      simp only [Array.getElem?_toList, Array.getElem?_map]
      rw [Array.getElem?_eq_getElem (by simpa using hlt)]
      simp [hmod]
    have e2 : ∀ (m j : Nat), j < m * z.size → (List.replicate m z.toList).flatten[j]? = some (z[j % z.size]'(Nat.mod_lt _ hz)) := by
      intro m
      induction m with
      | zero => intro j hj; simp at hj
      | succ m ih =>
        intro j hj
        rw [List.replicate_succ, List.flatten_cons]
        rcases Nat.lt_or_ge j z.size with h1 | h1
        · rw [List.getElem?_append_left (by simpa using h1)]
          simp [Nat.mod_eq_of_lt h1, h1]
        · rw [List.getElem?_append_right (by simpa using h1)]
          have h2 : j - z.size < m * z.size := by rw [Nat.succ_mul] at hj; omega
          have h3 := ih (j - z.size) h2
          rw [Array.length_toList, h3]
          congr 1
          have : (j - z.size) % z.size = j % z.size := by
            rw [Nat.mod_eq_sub_mod h1]
          simp [this]
    rw [e1, e2 n i hlt]
  · rw [List.getElem?_eq_none (by simp; exact hge), List.getElem?_eq_none (by rw [hlen]; exact hge)]

theorem rel_sl_new {σ : Heap} {b esz n cap size : Nat} {lim : Bool} (h1 : n ≤ cap) (h2 : cap * esz ≤ size) (h3 : lim = true → cap = n) : Rel (upd μ σ.length ⟨b, 0, esz, size⟩) (.sl σ.length 0 n lim) (.slice (some ⟨b, 0, none⟩) n cap) := by
  have := Rel.sl (μ := upd μ σ.length ⟨b, 0, esz, size⟩) (r := σ.length) (off := 0) (len := n) (c := cap) (lim := lim) (L := ⟨b, 0, esz, size⟩) (by unfold upd; rw [if_pos rfl]) h1 (by intro _; simpa using h2) h3
  simpa using this

/-- A private array. -/
theorem goes_newArr (st : St C μ β t σ a w) {xs : List V} {ys : Array Value} {ty : TypeId} (hc : RelC μ xs ys.toList) {d n : Nat} (hd : o.dst = some d) (hK : K (putT o.dst (.arr xs n) (killRefs d t)) σ = some r)
    (he : (execOp a.eval o).run E.P w = .ok (.value (.slice (some ⟨w.heap.size, 0, none⟩) n n)) { w with heap := w.heap.push (.cells ys ty) }) : Goes E o t σ μ β K r C a w next Q := fun hk => by
  have hsz : ys.size = xs.length := by have := hc.1; simp at this; omega
  have st' := st.newOwn (Grew.push w (.cells ys ty)) d (.arr xs n) (.slice (some ⟨w.heap.size, 0, none⟩) n n) w.heap.size (Nat.le_refl _) rfl (fun β' hb => by
    refine ⟨by rw [hb], ?_⟩
    rw [hb, ← hsz]
    exact at_new hc)
  rw [show ((killRefs d t).set d (.arr xs n)) = putT o.dst (.arr xs n) (killRefs d t) from by rw [hd]; rfl, ← hd] at st'
  exact wp_value he (hk _ _ _ _ _ _ st' (Step.newOwn st (Grew.push w (.cells ys ty)) hd _ _ (Nat.le_refl _)) hK)

theorem run_buildSlice {P : Program} {ty e : TypeId} {n : Nat} {parts : Array (Nat × Value)} {i : TypeInfo} {y : Value} {os : Array Value} (hu : P.underlying ty = some (.slice e)) (hi : P.info? e = some i) (hz : i.zero = some y) (hb : ¬ n * i.size > 2 ^ 24)
    (hf : Instr.fill (fun j => some (j * i.size, i.size)) ((Array.range (n * i.size)).map ((if n * i.size = 0 then #[] else y.cells)[· % (if n * i.size = 0 then #[] else y.cells).size]!)) parts.toList = some os) :
    (Instr.buildSlice ty n parts).run P w = .ok (.slice (some ⟨w.heap.size, 0, none⟩) n n) { w with heap := w.heap.push (.cells os e) } := by
  unfold Instr.buildSlice
  rw [Sem.run_bind, run_underlying hu, Result.andThen_ok]
  simp only [Sem.run_bind, sizeOf, typeInfo, run_program, hi, Result.andThen_ok, Sem.run_pure, if_neg hb]
  by_cases h0 : n * i.size = 0
  · simp only [h0, if_true] at hf ⊢
    simp only [pure_bind, hf]
    rfl
  · simp only [if_neg h0, zeroValue, typeInfo, Sem.run_bind, run_program, hi, hz, Sem.run_pure, Result.andThen_ok] at hf ⊢
    simp only [Sem.run_bind, run_program, hi, hz, Sem.run_pure, Result.andThen_ok, hf]
    rfl

theorem goes_buildSlice (st : St C μ β t σ a w) {ty : TypeId} {n : Nat} {parts : Array (Nat × Operand)} (ho : o.op = .buildSlice ty n parts) (h : hop E o t σ K = some r) : Goes E o t σ μ β K r C a w next Q := by
  simp only [hop, ho] at h
  obtain ⟨e, he, h⟩ := Option.bind_eq_some_iff.1 h
  obtain ⟨sz, hsz, h⟩ := Option.bind_eq_some_iff.1 h
  obtain ⟨z, hz, h⟩ := Option.bind_eq_some_iff.1 h
  have hu := elemT_some he
  obtain ⟨ii, hi, hn⟩ := esize_some hsz
  obtain ⟨i2, y, hi2, hzr, hzv⟩ := zeros_some hz
  rw [hi] at hi2
  injection hi2 with hi2
  subst hi2
  split at h
  · cases h
  · rename_i hb
    have hb1 : ¬ n * sz > 2 ^ 24 := fun hc => hb (.inl hc)
    have hb2 : z.cells.length = sz := by
      rcases Nat.decEq z.cells.length sz with h1 | h1
      · exact absurd (.inr (.inl h1)) hb
      · exact h1
    have hb3 : sz ≠ 0 := fun hc => hb (.inr (.inr hc))
    obtain ⟨ps, h1, hlen, hps⟩ := evParts_some st h
    obtain ⟨cs, hcs, h3⟩ := Option.bind_eq_some_iff.1 h1
    have hvals : ∀ (k n : Nat) v (m : Nat) q, ps[k]? = some (n, v) → ((parts.map fun (i, x) => (i, a.eval x)).toList)[k]? = some (m, q) → n = m ∧ RelC μ v q.cells.toList := by
      intro k n v m q h4 h5
      simp only [Array.toList_map, List.getElem?_map, Option.map_eq_some_iff] at h5
      obtain ⟨⟨m', q'⟩, h6, h7⟩ := h5
      injection h7 with h7 h8
      subst h7 h8
      exact hps k n v m' q' h4 h6
    have hzc := ofZero (μ := μ) hzv
    have hysz : y.cells.size = sz := by have := hzc.1; simp at this; omega
    have hrow : RelC μ (List.replicate n z.cells).flatten ((Array.range (n * y.cells.size)).map (y.cells[· % y.cells.size]!)).toList := by
      rw [range_cells _ _ (by omega)]
      exact relC_replicate hzc n
    obtain ⟨os, h4, h5⟩ := fill_rel (μ := μ) (place' := fun j => some (j * sz, sz)) ps _ _ _ cs (by simp [hlen]) hvals (fun j p hp => hp) hrow hcs
    have hcells : ((Array.range (n * sz)).map ((if n * sz = 0 then #[] else y.cells)[· % (if n * sz = 0 then #[] else y.cells).size]!)) = ((Array.range (n * y.cells.size)).map (y.cells[· % y.cells.size]!)) := by
      rw [hysz]
      split
      · rename_i h0; rw [h0]; simp
      · rw [hysz]
    have hfin : (execOp a.eval o).run E.P w = .ok (.value (.slice (some ⟨w.heap.size, 0, none⟩) n n)) { w with heap := w.heap.push (.cells os e) } := by
      have hgo := run_buildSlice (P := E.P) (w := w) (parts := parts.map fun (i, x) => (i, a.eval x)) (n := n) (os := os) hu hi hzr (by rw [hn]; exact hb1) (by rw [hn, hcells]; exact h4)
      simp only [execOp, ho, Sem.run_bind, hgo, Result.andThen_ok]
      rfl
    have hos : os.size = n * sz := by
      have h6 := h5.1
      simp at h6
      have : ∀ (pl : Nat → Option (Nat × Nat)) (xs : List (Nat × List V)) (c out : List V), fillV pl c xs = some out → out.length = c.length := by
        intro pl xs
        induction xs with
        | nil => intro c out hh; simp [fillV] at hh; rw [hh]
        | cons p xs ih =>
          intro c out hh
          obtain ⟨i, v⟩ := p
          rw [fillV] at hh
          split at hh
          · split at hh
            · rw [ih _ _ hh, setCellsL_length]
            · cases hh
          · cases hh
      rw [← h6, this _ _ _ _ hcs]
      simp [hb2]
    split at h3
    · rename_i hl
      cases hd : o.dst with
      | none => simp [isLocal, hd] at hl
      | some d =>
        rw [hd] at h3
        exact goes_newArr st h5 hd (by rw [hd]; exact h3) hfin
    · exact goes_newRow st sz h5 (rel_sl_new (Nat.le_refl _) (by omega) (fun _ => rfl)) h3 hfin
end ops
end Go.HM
