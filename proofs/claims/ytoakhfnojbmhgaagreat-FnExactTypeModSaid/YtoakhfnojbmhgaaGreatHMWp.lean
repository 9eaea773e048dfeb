/- A calculus for contracts: what a code comes to, step for step. -/
import Derived.Test.YtoakhfnojbmhgaaGreatHMLoop
set_option linter.unusedSimpArgs false
set_option linter.unusedVariables false
namespace Go.HM
abbrev Cmp (ι : Type) := Nat → ι → Option (V × Heap)
/-- A code comes to a good end, or to one of those that may come next. -/
def W {ι : Type} (Good : V → Heap → Prop) (Next : Cmp ι → Prop) (c : Cmp ι) : Prop :=
  (∃ v σ, Good v σ ∧ Ev fun k => ∀ m, c k m = some (v, σ)) ∨ (∃ d, Next d ∧ Ev fun k => ∀ m, c k m = d k m)
/-- What a call comes to. -/
def Ends (G : Glob) (f : FuncId) (args : List V) (σ : Heap) (P : V → Heap → Prop) : Prop := ∃ v σ', P v σ' ∧ Runs G f args σ v σ'
theorem Ends.mono {G : Glob} {f : FuncId} {args : List V} {σ : Heap} {P Q : V → Heap → Prop} (h : Ends G f args σ P) (g : ∀ v σ', P v σ' → Q v σ') : Ends G f args σ Q := by
  obtain ⟨v, σ', p, r⟩ := h
  exact ⟨v, σ', g _ _ p, r⟩
theorem Gives.ends {G : Glob} {f : FuncId} {args : List V} {σ : Heap} {v : V} (h : Gives G f args σ v) : Ends G f args σ (fun w σ' => w = v ∧ Lh σ σ') := by
  obtain ⟨σ', l, r⟩ := h
  exact ⟨v, σ', ⟨rfl, l⟩, r⟩
theorem Ends.gives {G : Glob} {f : FuncId} {args : List V} {σ : Heap} {v : V} (h : Ends G f args σ (fun w σ' => w = v ∧ Lh σ σ')) : Gives G f args σ v := by
  obtain ⟨w, σ', ⟨rfl, l⟩, r⟩ := h
  exact ⟨σ', l, r⟩
theorem Runs.ends {G : Glob} {f : FuncId} {args : List V} {σ σ1 : Heap} {v : V} (h : Runs G f args σ v σ1) : Ends G f args σ (fun w σ' => w = v ∧ σ' = σ1) := ⟨v, σ1, ⟨rfl, rfl⟩, h⟩
theorem Ends.runs {G : Glob} {f : FuncId} {args : List V} {σ σ1 : Heap} {v : V} (h : Ends G f args σ (fun w σ' => w = v ∧ σ' = σ1)) : Runs G f args σ v σ1 := by
  obtain ⟨w, σ', ⟨rfl, rfl⟩, r⟩ := h
  exact r
section
variable {ι : Type} {Good : V → Heap → Prop} {Next : Cmp ι → Prop} {G : Glob}
theorem W.ret {v : V} {σ : Heap} (h : Good v σ) : W Good Next (fun _ _ => some (v, σ)) := .inl ⟨v, σ, h, Ev.now fun _ _ => rfl⟩
theorem W.next {d : Cmp ι} (h : Next d) : W Good Next d := .inr ⟨d, h, Ev.now fun _ _ => rfl⟩
theorem W.ev {c d : Cmp ι} (e : Ev fun k => ∀ m, c k m = d k m) (h : W Good Next d) : W Good Next c := by
  rcases h with ⟨v, σ, g, h⟩ | ⟨d', n, h⟩
  · exact .inl ⟨v, σ, g, (e.and h).mono fun k ⟨a, b⟩ m => (a m).trans (b m)⟩
  · exact .inr ⟨d', n, (e.and h).mono fun k ⟨a, b⟩ m => (a m).trans (b m)⟩
theorem W.to {c d : Cmp ι} (e : ∀ k m, c k m = d k m) (h : W Good Next d) : W Good Next c := h.ev (Ev.now e)
theorem W.mono {Good' : V → Heap → Prop} {c : Cmp ι} (h : W Good' Next c) (g : ∀ v σ, Good' v σ → Good v σ) : W Good Next c := by
  rcases h with ⟨v, σ, a, h⟩ | h
  · exact .inl ⟨v, σ, g _ _ a, h⟩
  · exact .inr h
theorem W.call {f : FuncId} {args : List V} {σ : Heap} {P : V → Heap → Prop} {K : Nat → ι → V × Heap → Option (V × Heap)} (h : Ends G f args σ P) (g : ∀ v σ', P v σ' → W Good Next (fun k m => K k m (v, σ'))) :
    W Good Next (fun k m => (hcall G k f args σ).bind (K k m)) := by
  obtain ⟨v, σ', p, r⟩ := h
  exact (g v σ' p).ev (Ev.mono r fun k e m => by rw [e]; rfl)
theorem W.run {f : FuncId} {args : List V} {σ σ1 : Heap} {v : V} {K : Nat → ι → V × Heap → Option (V × Heap)} (h : Runs G f args σ v σ1) (g : W Good Next (fun k m => K k m (v, σ1))) :
    W Good Next (fun k m => (hcall G k f args σ).bind (K k m)) := g.ev (Ev.mono h fun k e m => by rw [e]; rfl)
theorem W.give {f : FuncId} {args : List V} {σ : Heap} {v : V} {K : Nat → ι → V × Heap → Option (V × Heap)} (h : Gives G f args σ v) (g : ∀ σ', Lh σ σ' → W Good Next (fun k m => K k m (v, σ'))) :
    W Good Next (fun k m => (hcall G k f args σ).bind (K k m)) := by
  obtain ⟨σ', l, r⟩ := h
  exact W.run r (g σ' l)
/-- A call in the last place. -/
theorem W.tail {f : FuncId} {args : List V} {σ : Heap} (h : Ends G f args σ Good) : W Good Next (fun k _ => hcall G k f args σ) := by
  obtain ⟨v, σ', p, r⟩ := h
  exact .inl ⟨v, σ', p, Ev.mono r fun k e _ => e⟩
theorem W.cond {b : Bool} {c d : Cmp ι} (h1 : b = true → W Good Next c) (h2 : b = false → W Good Next d) : W Good Next (fun k m => bif b then c k m else d k m) := by
  cases b
  · exact h2 rfl
  · exact h1 rfl
theorem W.ite {p : Prop} [Decidable p] {c d : Cmp ι} (h1 : p → W Good Next c) (h2 : ¬ p → W Good Next d) : W Good Next (fun k m => bif decide p then c k m else d k m) :=
  W.cond (fun h => h1 (of_decide_eq_true h)) (fun h => h2 (of_decide_eq_false h))
theorem W.iff {p : Prop} [Decidable p] {c d : Cmp ι} (h1 : p → W Good Next c) (h2 : ¬ p → W Good Next d) : W Good Next (fun k m => if p then c k m else d k m) := by
  by_cases h : p
  · simpa only [if_pos h] using h1 h
  · simpa only [if_neg h] using h2 h
theorem W.bind {α : Type} {x : Option α} {a : α} {K : Nat → ι → α → Option (V × Heap)} (h : x = some a) (g : W Good Next (fun k m => K k m a)) : W Good Next (fun k m => x.bind (K k m)) := by
  subst h
  exact g
/-- What may come next within a loop: what may come next behind it, and its next steps. -/
def Nxt {S : Type} (Next : Cmp ι → Prop) (L : Nat → Nat → List T → Heap → Option (Ex × List T × Heap)) (A : Nat → ι → Ex × List T × Heap → Option (V × Heap)) (Inv : S → Prop) (vals : S → List T) (hp : S → Heap) (far : S → Nat) (n : Nat) (d : Cmp (Nat × ι)) : Prop :=
  (∃ d', Next d' ∧ d = fun k jm => d' k jm.2) ∨ ∃ s', Inv s' ∧ far s' < n ∧ d = fun k jm => (L k jm.1 (vals s') (hp s')).bind (A k jm.2)
/-- A loop: each step ends well, goes on to what may come next, or comes nearer to the loop's end. -/
theorem W.loop {S : Type} {L : Nat → Nat → List T → Heap → Option (Ex × List T × Heap)} {A : Nat → ι → Ex × List T × Heap → Option (V × Heap)} (Inv : S → Prop) (vals : S → List T) (hp : S → Heap) (far : S → Nat)
    (h : ∀ s, Inv s → W (ι := Nat × ι) Good (Nxt Next L A Inv vals hp far (far s)) (fun k jm => (L k (jm.1 + 1) (vals s) (hp s)).bind (A k jm.2)))
    (s : S) (hs : Inv s) : W Good Next (fun k m => (L k k (vals s) (hp s)).bind (A k m)) := by
  have key : ∀ n s, far s ≤ n → Inv s → W (ι := Nat × ι) Good (fun d => (∃ d', Next d' ∧ d = fun k jm => d' k jm.2)) (fun k jm => (L k (jm.1 + n + 1) (vals s) (hp s)).bind (A k jm.2)) := by
    intro n
    induction n with
    | zero =>
      intro s hf hi
      rcases h s hi with ⟨v, σ', g, e⟩ | ⟨d, n | ⟨s', _, hlt, _⟩, e⟩
      · exact .inl ⟨v, σ', g, e⟩
      · exact .inr ⟨d, n, e⟩
      · omega
    | succ n ih =>
      intro s hf hi
      rcases h s hi with ⟨v, σ', g, e⟩ | ⟨d, nx | ⟨s', hi', hlt, rfl⟩, e⟩
      · exact .inl ⟨v, σ', g, e.mono fun k e m => e (m.1 + (n + 1), m.2)⟩
      · obtain ⟨d', nx, rfl⟩ := nx
        exact .inr ⟨_, ⟨d', nx, rfl⟩, e.mono fun k e m => e (m.1 + (n + 1), m.2)⟩
      · rcases ih s' (by omega) hi' with ⟨v, σ', g, e'⟩ | ⟨d, nx, e'⟩
        · refine .inl ⟨v, σ', g, (e.and e').mono fun k ⟨e, e'⟩ m => ?_⟩
          have := e (m.1 + (n + 1), m.2)
          have h2 := e' m
          exact this.trans h2
        · refine .inr ⟨d, nx, (e.and e').mono fun k ⟨e, e'⟩ m => ?_⟩
          have := e (m.1 + (n + 1), m.2)
          have h2 := e' m
          exact this.trans h2
  rcases key (far s) s (Nat.le_refl _) hs with ⟨v, σ', g, e⟩ | ⟨d, ⟨d', nx, rfl⟩, e⟩
  · refine .inl ⟨v, σ', g, (Ev.far (far s) e).mono fun k ⟨e, hk⟩ m => ?_⟩
    have := e (k - far s - 1, m)
    have hh : k - far s - 1 + far s + 1 = k := by omega
    simp only [hh] at this
    exact this
  · refine .inr ⟨d', nx, (Ev.far (far s) e).mono fun k ⟨e, hk⟩ m => ?_⟩
    have := e (k - far s - 1, m)
    have hh : k - far s - 1 + far s + 1 = k := by omega
    simp only [hh] at this
    exact this
/-- On to the loop's next step. -/
theorem W.again {S : Type} {L : Nat → Nat → List T → Heap → Option (Ex × List T × Heap)} {A : Nat → ι → Ex × List T × Heap → Option (V × Heap)} {Inv : S → Prop} {vals : S → List T} {hp : S → Heap} {far : S → Nat} {n : Nat} (s' : S) {ts : List T} {σ : Heap}
    (hi : Inv s') (hf : far s' < n) (hv : ts = vals s') (hh : σ = hp s') :
    W (ι := Nat × ι) Good (Nxt Next L A Inv vals hp far n) (fun k jm => (L k jm.1 ts σ).bind (A k jm.2)) := by
  subst hv hh
  exact W.next (.inr ⟨s', hi, hf, rfl⟩)
/-- Out of the loop, to what may come next. -/
theorem W.out {S : Type} {L : Nat → Nat → List T → Heap → Option (Ex × List T × Heap)} {A : Nat → ι → Ex × List T × Heap → Option (V × Heap)} {Inv : S → Prop} {vals : S → List T} {hp : S → Heap} {far : S → Nat} {n : Nat} {c : Cmp ι} (h : W Good Next c) :
    W (ι := Nat × ι) Good (Nxt Next L A Inv vals hp far n) (fun k jm => c k jm.2) := by
  rcases h with ⟨v, σ', g, e⟩ | ⟨d, nx, e⟩
  · exact .inl ⟨v, σ', g, e.mono fun k e m => e m.2⟩
  · exact .inr ⟨_, .inl ⟨d, nx, rfl⟩, e.mono fun k e m => e m.2⟩
theorem W.out' {S : Type} {L : Nat → Nat → List T → Heap → Option (Ex × List T × Heap)} {A : Nat → ι → Ex × List T × Heap → Option (V × Heap)} {Inv : S → Prop} {vals : S → List T} {hp : S → Heap} {far : S → Nat} {n : Nat} {c' : Cmp (Nat × ι)} (c : Cmp ι) (h : W Good Next c) (e : ∀ k j m, c' k (j, m) = c k m) :
    W (ι := Nat × ι) Good (Nxt Next L A Inv vals hp far n) c' := W.to (fun k jm => e k jm.1 jm.2) (W.out h)
end
theorem Gives.of {G : Glob} {f : FuncId} {args : List V} {σ : Heap} {v : V} (h : W (ι := Unit) (fun w σ' => w = v ∧ Lh σ σ') (fun _ => False) (fun k _ => hcall G (k + 1) f args σ)) : Gives G f args σ v := by
  rcases h with ⟨w, σ', ⟨rfl, l⟩, e⟩ | ⟨_, h, _⟩
  · exact ⟨σ', l, Runs.mk (e.mono fun k e => e ())⟩
  · exact h.elim
theorem Runs.of {G : Glob} {f : FuncId} {args : List V} {σ σ1 : Heap} {v : V} (h : W (ι := Unit) (fun w σ' => w = v ∧ σ' = σ1) (fun _ => False) (fun k _ => hcall G (k + 1) f args σ)) : Runs G f args σ v σ1 := by
  rcases h with ⟨w, σ', ⟨rfl, rfl⟩, e⟩ | ⟨_, h, _⟩
  · exact Runs.mk (e.mono fun k e => e ())
  · exact h.elim
/-- A contract, out of the function's equation. -/
theorem Ends.mk {G : Glob} {f : FuncId} {args : List V} {σ : Heap} {P : V → Heap → Prop} (h : W (ι := Unit) P (fun _ => False) (fun k _ => hcall G (k + 1) f args σ)) : Ends G f args σ P := by
  rcases h with ⟨v, σ', g, e⟩ | ⟨_, h, _⟩
  · exact ⟨v, σ', g, Runs.mk (e.mono fun k e => e ())⟩
  · exact h.elim
end Go.HM
namespace Go.HM
/-! What takes a value apart, within what follows. -/
section
variable {α β : Type}
@[simp] theorem castInt_bind (k : IntKind) (c : V) (K : Int → Option α) (f : α → Option β) : (castInt k c K).bind f = castInt k c fun n => (K n).bind f := by
  unfold castInt; split <;> (try split) <;> rfl
@[simp] theorem castBool_bind (c : V) (K : Bool → Option α) (f : α → Option β) : (castBool c K).bind f = castBool c fun n => (K n).bind f := by
  unfold castBool; split <;> rfl
@[simp] theorem castStr_bind (c : V) (K : ByteArray → Option α) (f : α → Option β) : (castStr c K).bind f = castStr c fun n => (K n).bind f := by
  unfold castStr; split <;> rfl
@[simp] theorem castPtr_bind (c : V) (K : Nat → Nat → Option α) (f : α → Option β) : (castPtr c K).bind f = castPtr c fun n m => (K n m).bind f := by
  unfold castPtr; split <;> rfl
@[simp] theorem castFn_bind (c : V) (K : FuncId → List V → Option α) (f : α → Option β) : (castFn c K).bind f = castFn c fun n m => (K n m).bind f := by
  unfold castFn; split <;> rfl
@[simp] theorem castAgg_bind (c : V) (K : List V → Option α) (f : α → Option β) : (castAgg c K).bind f = castAgg c fun n => (K n).bind f := by
  unfold castAgg; split <;> rfl
@[simp] theorem castTuple_bind (c : V) (K : List V → Option α) (f : α → Option β) : (castTuple c K).bind f = castTuple c fun n => (K n).bind f := by
  unfold castTuple; split <;> rfl
@[simp] theorem uncons_bind (c : List V) (K : V → List V → Option α) (f : α → Option β) : (uncons c K).bind f = uncons c fun n m => (K n m).bind f := by
  unfold uncons; split <;> rfl
@[simp] theorem isNil_bind (c : List V) (K : Option α) (f : α → Option β) : (isNil c K).bind f = isNil c (K.bind f) := by
  unfold isNil; split <;> rfl
@[simp] theorem one_bind (v : V) (K : Option α) (f : α → Option β) : (one v K).bind f = one v (K.bind f) := by
  unfold one; cases v.flat <;> rfl
@[simp] theorem cond_bind (b : Bool) (x y : Option α) (f : α → Option β) : (bif b then x else y).bind f = bif b then x.bind f else y.bind f := by
  cases b <;> rfl
@[simp] theorem ite_bind_ (p : Prop) [Decidable p] (x y : Option α) (f : α → Option β) : (if p then x else y).bind f = if p then x.bind f else y.bind f := by
  split <;> rfl
end
theorem take_next' {α : Type} {l : List α} {i : Nat} {x : α} (h : l[i]? = some x) : l.take (i + 1) = l.take i ++ [x] := by
  rw [List.take_add_one, h]
  rfl
theorem lt_of_get {α : Type} {l : List α} {i : Nat} {x : α} (h : l[i]? = some x) : i < l.length := (List.getElem?_eq_some_iff.1 h).1
section
variable {ι : Type} {Good : V → Heap → Prop} {Next : Cmp ι → Prop} {α : Type} {esz : Nat} {P : List V → α → Prop} {σ σ' : Heap} {v : V} {l : List α}
/-- An element of a slice. -/
theorem W.at {i : Nat} {K : Nat → ι → Nat × Nat → Option (V × Heap)} (h : RepS esz P σ v l) (hl : Lh σ σ') (hi : i < l.length)
    (g : ∀ r o cs x, l[i]? = some x → rdc σ' r o esz = some cs → P cs x → W Good Next (fun k m => K k m (r, o))) : W Good Next (fun k m => (vidx esz v (i : Int)).bind (K k m)) := by
  obtain ⟨r, o, hv, cs, hr, hP⟩ := h.at hi
  exact W.bind hv (g r o cs _ (List.getElem?_eq_getElem hi) (hl.rdc hr) hP)
theorem W.atI {i : Int} {K : Nat → ι → Nat × Nat → Option (V × Heap)} (h : RepS esz P σ v l) (hl : Lh σ σ') (hi : 0 ≤ i ∧ i < l.length)
    (g : ∀ r o cs x, l[i.toNat]? = some x → rdc σ' r o esz = some cs → P cs x → W Good Next (fun k m => K k m (r, o))) : W Good Next (fun k m => (vidx esz v i).bind (K k m)) := by
  obtain ⟨j, rfl⟩ : ∃ j : Nat, i = j := ⟨i.toNat, by omega⟩
  exact W.at h hl (by omega) g
/-- The length of a slice. -/
theorem W.len {K : Nat → ι → Nat → Option (V × Heap)} (h : RepS esz P σ v l) (g : W Good Next (fun k m => K k m l.length)) : W Good Next (fun k m => (vlen v).bind (K k m)) := W.bind h.vlen g
/-- An element put behind a slice that grows. -/
theorem W.app {b bytes n : Nat} {cs : List V} {ys : List α} {K : Nat → ι → V × Heap → Option (V × Heap)} (h : Grown b esz P σ v l) (hc : Chunks esz P cs ys) (hn : n = ys.length) (h1 : (l.length + ys.length) * bytes ≤ 2 ^ 46) (h2 : l.length + ys.length ≤ 2 ^ 46)
    (g : ∀ v' σ', Grown b esz P σ' v' (l ++ ys) → (∀ σe : Heap, σe.length ≤ b → Lh σe σ → Lh σe σ') → W Good Next (fun k m => K k m (v', σ'))) : W Good Next (fun k m => (vappend esz bytes σ v n cs).bind (K k m)) := by
  subst hn
  obtain ⟨v', σ', ha, hg, hk⟩ := h.app hc h1 h2
  exact W.bind ha (g v' σ' hg hk)
/-- A sub-slice from the front. -/
theorem W.first {i : Int} {K : Nat → ι → V → Option (V × Heap)} (h : RepS esz P σ v l) (hi : 0 ≤ i ∧ i < l.length)
    (g : ∀ u, RepS esz P σ u (l.take i.toNat) → W Good Next (fun k m => K k m u)) : W Good Next (fun k m => (vslice esz v none (some i)).bind (K k m)) := by
  obtain ⟨j, rfl⟩ : ∃ j : Nat, i = j := ⟨i.toNat, by omega⟩
  have hj : j < l.length := by omega
  obtain ⟨u, hu, hR⟩ := h.first hj
  exact W.bind hu (g u (by simpa using hR))
theorem W.cells {σ' : Heap} {K : Nat → ι → Nat × List V → Option (V × Heap)} (h : RepS esz P σ v l) (g : ∀ cs, Chunks esz P cs l → W Good Next (fun k m => K k m (l.length, cs))) : W Good Next (fun k m => (vcells σ esz v).bind (K k m)) := by
  obtain ⟨cs, h1, h2⟩ := h.cells
  exact W.bind h1 (g cs h2)
theorem W.byte {s : ByteArray} {i : Nat} {K : Nat → ι → Int → Option (V × Heap)} (h : i < s.size) (g : W Good Next (fun k m => K k m (s[i].toNat : Int))) : W Good Next (fun k m => (sbyte s (i : Int)).bind (K k m)) := W.bind (sbyte_at h) g
end
theorem wrap_next {i n : Nat} (h : i < n) (hn : n ≤ 4611686018427387904) : IntKind.wrap .i64 ((i : Int) + 1) = ((i + 1 : Nat) : Int) := wrap_succ h hn
end Go.HM
namespace Go.HM
theorem Ends.true {G : Glob} {f : FuncId} {args : List V} {σ : Heap} (h : Ends G f args σ (fun v _ => v = .bool true)) : ∃ σ', Runs G f args σ (.bool Bool.true) σ' := by
  obtain ⟨v, σ', rfl, r⟩ := h
  exact ⟨σ', r⟩
end Go.HM
namespace Go.HM
/-! The same words, not to be unfolded by the kernel: a step by one of them is an equation, not a computation. -/
section
variable {α β : Type}
theorem q_bind_some (a : α) (f : α → Option β) : (some a).bind f = f a := Eq.trans rfl rfl
theorem q_castBool (b : Bool) (K : Bool → Option α) : castBool (.bool b) K = K b := Eq.trans rfl rfl
theorem q_castStr (b : ByteArray) (K : ByteArray → Option α) : castStr (.str b) K = K b := Eq.trans rfl rfl
theorem q_castPtr (r o : Nat) (K : Nat → Nat → Option α) : castPtr (.ptr r o) K = K r o := Eq.trans rfl rfl
theorem q_castFn (f : FuncId) (cs : List V) (K : FuncId → List V → Option α) : castFn (.fn f cs) K = K f cs := Eq.trans rfl rfl
theorem q_castAgg (cs : List V) (K : List V → Option α) : castAgg (.agg cs) K = K cs := Eq.trans rfl rfl
theorem q_castTuple (cs : List V) (K : List V → Option α) : castTuple (.tuple cs) K = K cs := Eq.trans rfl rfl
theorem q_uncons (c : V) (cs : List V) (K : V → List V → Option α) : uncons (c :: cs) K = K c cs := Eq.trans rfl rfl
theorem q_isNil (K : Option α) : isNil [] K = K := Eq.trans rfl rfl
theorem q_sl (r o n : Nat) (lim : Bool) (K : Option α) : one (.sl r o n lim) K = K := Eq.trans rfl rfl
theorem q_nils (K : Option α) : one .nils K = K := Eq.trans rfl rfl
theorem q_emp (K : Option α) : one .emp K = K := Eq.trans rfl rfl
theorem q_ptr (r o : Nat) (K : Option α) : one (.ptr r o) K = K := Eq.trans rfl rfl
theorem q_nilp (K : Option α) : one .nilp K = K := Eq.trans rfl rfl
theorem q_fn (f : FuncId) (cs : List V) (K : Option α) : one (.fn f cs) K = K := Eq.trans rfl rfl
theorem q_cond_true (a b : Option α) : (bif true then a else b) = a := Eq.trans rfl rfl
theorem q_cond_false (a b : Option α) : (bif false then a else b) = b := Eq.trans rfl rfl
end
end Go.HM
