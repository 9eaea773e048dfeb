/- strings.Split, by the shelf's contract. -/
import Derived.Test.YtiefmflpmmgoaaaGreatDoorHMHook
import Derived.Test.YtiefmflpmmgoaaaGreatDoorHMDoor
import Derived.Lib.SplitLaws
import Derived.Lib.CountLaws
import Derived.Shelf.Vars
import Derived.HandedShaped
set_option linter.unusedSimpArgs false
set_option linter.unusedVariables false
namespace Go.HM
open Classical Go.RowKit Go.Lib
/-- strings.Split, where what is cut at is not empty and the variable g (internal/bytealg.MaxLen) holds some number. -/
noncomputable def hkSplit (g : Nat) (args : List V) (σ : Heap) : Option (V × Heap) := match args with
  | [.str s, .str sep] => if s.size < 4294967281 ∧ 1 ≤ sep.size ∧ ∃ m, σ[g]? = some (some ⟨[.int .i64 m], 1, true, 0⟩) then
      some (.sl σ.length 0 (Lib.splitB sep 0 (Lib.countB s sep) s).length false, hnew σ 1 ((Lib.splitB sep 0 (Lib.countB s sep) s).map .str)) else none
  | _ => none
theorem hkSplit_sound {P : Program} {f : FuncId} {g : Nat} {t : TypeId} (hg : P.globalNamed "internal/bytealg.MaxLen" = some g) (hlt : g < 64)
    (hc : ∀ (s sep : ByteArray) (m : Int) (w : World), s.size < 4294967281 → w.cell? ⟨g, 0, none⟩ = some (.int .i64 m) → 1 ≤ sep.size → Calls P f #[.string s, .string sep] w fun e w' =>
      e = .returned (.slice (some ⟨w.heap.size, 0, none⟩) (Lib.countB s sep + 1) (Lib.countB s sep + 1)) ∧ w' = w.alloc (.cells ((Lib.splitB sep 0 (Lib.countB s sep) s).map Value.string).toArray t))
    {args : List V} {σ σ' : Heap} {v : V} (h : hkSplit g args σ = some (v, σ')) {μ : Mu} {w : World} {vs : Array Value} (hs : Sim μ σ w) (hv : Rels μ args vs.toList) : Calls P f vs w (Post ⟨w, σ, μ, 0⟩ v σ') := by
  unfold hkSplit at h
  split at h
  · rename_i s sep
    obtain ⟨y1, y2, rfl, k1, k2⟩ := rels_two' hv
    cases k1
    cases k2
    split at h
    · rename_i hh
      injection h with h
      injection h with e1 e2
      subst e1 e2
      obtain ⟨h1, h2, m, hm⟩ := hh
      have hcell : w.cell? ⟨g, 0, none⟩ = some (.int .i64 m) := by
        obtain ⟨cs, c1, c2, c3⟩ := var_cells hs hg hlt hm
        obtain ⟨y, y1, y2⟩ := c3 0 _ rfl
        cases y2
        unfold World.var? at c1
        rw [hg] at c1
        simp only [Option.bind_some] at c1
        simp only [World.cell?]
        split at c1
        · rename_i c t fz hh
          injection c1 with c1
          subst c1
          rw [hh]
          exact y1
        · cases c1
      have hlen : (Lib.splitB sep 0 (Lib.countB s sep) s).length = Lib.countB s sep + 1 := Lib.splitB_all sep h2 0 _ s rfl
      refine (hc s sep m w h1 hcell h2).mono ?_
      generalize Lib.splitB sep 0 (Lib.countB s sep) s = xs at hlen ⊢
      rw [← hlen]
      rintro e w' ⟨rfl, rfl⟩
      have hgr : Grew w (w.alloc (.cells (xs.map Value.string).toArray t)) := Grew.push w _
      refine ⟨_, (hs.base 0).newT hgr 0 1 xs.length (xs.map .str) w.heap.size (Nat.le_refl _) ⟨(xs.map Value.string).toArray, t, (0, 0), push_eq w _, by simp, by simp, fun i x hx => ?_, fun _ => rfl, fun hc => absurd rfl hc⟩, ?_⟩
      · rw [List.getElem?_map] at hx
        cases hy : xs[i]? with
        | none => rw [hy] at hx; cases hx
        | some b =>
          rw [hy] at hx
          injection hx with hx
          subst hx
          refine ⟨.string b, ?_, .str _, rfl⟩
          simp [hy]
      · have hu : upd μ σ.length ⟨w.heap.size, 0, 1, xs.length⟩ σ.length = some ⟨w.heap.size, 0, 1, xs.length⟩ := by unfold upd; rw [if_pos rfl]
        have := Rel.sl (off := 0) (len := xs.length) (c := xs.length) (lim := false) hu (Nat.le_refl _) (fun _ => by show 0 + xs.length * 1 ≤ xs.length; omega) (fun h => by cases h)
        simpa using this
    · cases h
  · cases h
variable {H : Type} {enc : TypeId × Value → H}
/-- A listed variable's cells and the world's shape, both kept for the contract. -/
theorem handed_shaped {a : Assume} {C : Checked} {os : Os} {f : FuncId} {fn : Func} {s : ChangeSpec} {conds : List PathCond} {apart fresh handsOn again : Bool} {X : World → Array Value → Prop}
    (hX : ∀ (w w' : World) (args : Array Value), w.heap = w'.heap → X w args → X w' args)
    (own : ownKnob C.prog.godebug = none) (started : os.Started) (noInit : C.prog.inits.idxOf? f = none) (hfn : C.prog.funcs[f]? = some fn)
    (witness : ∃ (w : World) (tape : Tape) (i : Input), w.os = os ∧ (w.forCall tape i).Shaped C.prog ∧ i.vars = [] ∧ Input.okWide C.prog (w.forCall tape i) .any w.heap.size f i ∧
      ((s.pre enc C.prog fn conds apart (w.forCall tape i).memory i.args ∧ X (w.forCall tape i).memory i.args) ∧ sizedMet enc C.prog fn (OpenSpec.ofChange s) apart (w.forCall tape i).memory i.args) ∧ a.holds C.prog (lone (Frame.enter C.prog f i.args .normal) [] (w.forCall tape i)))
    (contract : ∀ (W : World) (base : Nat) (args : Array Value) (ds gs : List (DataW H)) (before : List MemPlace),
      (∀ (j : Nat) t v, fn.params[j]? = some t → args[j]? = some v → Value.okWide C.prog W .any base t v) →
      DataW.Whole enc C.prog fn.params.toList s.vars apart W args.toList ds gs before →
      conds.all (PathCond.test C.prog ⟨fn.params.toList, ds, s.plain.varTypes C.prog, gs⟩) = true →
      (DataW.weightsEach C.prog (fn.params.toList ++ s.plain.varTypes C.prog) (ds ++ gs)).all (· ≤ reachBytes) = true → X W args → W.ShapedOpen C.prog →
      a.holds C.prog (lone (Frame.enter C.prog f args .normal) [] W) →
      Calls C.prog f args W fun e W' => ∃ v, e = .returned v ∧ s.post enc C.prog fn apart fresh handsOn again W args v W') :
    ReturnsInHanded a C os f .any (fun w args => (s.pre enc C.prog fn conds apart w args ∧ X w args) ∧ sizedMet enc C.prog fn (OpenSpec.ofChange s) apart w args) (s.post enc C.prog fn apart fresh handsOn again) := by
  refine returnsInHanded_of_calls own started noInit witness ?_
  intro w tape i _ hsh _ hok hpre hholds
  obtain ⟨_, _, _, fn', hfn', _, _, _, _, hval⟩ := hok
  have e : fn' = fn := Option.some.inj (hfn'.symm.trans hfn)
  subst e
  obtain ⟨⟨⟨ds, gs, before, hw, hc⟩, hx⟩, hz⟩ := hpre
  have hw' := DataW.Whole.of_heap (w' := w.forCall tape i) (by rfl) hw
  refine (contract (w.forCall tape i) w.heap.size i.args ds gs before hval hw' hc (hz.weights hw) (hX _ _ _ (by rfl) hx) hsh hholds).mono fun e W' ⟨v, he, hp⟩ => ?_
  subst he
  exact ChangeSpec.post_blind hp
/-- The variable that holds some number, shown in the small heap. -/
theorem int_at {P : Program} {W : World} {g : Nat} {t : TypeId} {zero : Array Value} (hW : W.ShapedOpen P) (hg : g < P.globals.size) (h0 : ((begin P (fun _ _ => 0) default).world.heap[g]?).bind Obj.row? = some (zero, t)) (hz : zero.size = 1)
    (hb : P.buildable t = true) (hc : P.cellTypes P.depth t = some [t]) (hu : P.underlying t = some (.int .i64)) : ∃ m, ∀ μ, At W g 0 1 μ [.int .i64 m] false := by
  obtain ⟨m, h⟩ := Go.Proofs.cell_of_shapedOpen_int hW hg h0 hz hb hc hu
  obtain ⟨cs, hh, hn, _⟩ := hW.1 g zero t hg h0
  refine ⟨m, fun μ => ⟨cs, t, _, hh, by omega, by simp, fun i x hx => ?_, ⟨(fun hc => by cases hc), (fun hc => absurd rfl hc)⟩⟩⟩
  match i, hx with
  | 0, hx =>
    injection hx with hx
    subst hx
    simp only [World.cell?, hh] at h
    exact ⟨.int .i64 m, by simpa using h, .int _ _, rfl⟩
end Go.HM
