/- Words for contracts over the small machine's equations: what of a heap stays, lists in a heap, calls from some fuel on. -/
import Derived.Test.YtoakhfnojbmhgaaGreatHMRun
set_option linter.unusedSimpArgs false
set_option linter.unusedVariables false
namespace Go.HM

/-- Every row of the one lies in the other. -/
structure Lh (σ σ' : Heap) : Prop where
  len : σ.length ≤ σ'.length
  row : ∀ (j : Nat) (row : Row), σ[j]? = some (some row) → σ'[j]? = some (some row)
theorem Lh.refl (σ : Heap) : Lh σ σ := ⟨Nat.le_refl _, fun _ _ h => h⟩
theorem Lh.trans {a b c : Heap} (h : Lh a b) (g : Lh b c) : Lh a c := ⟨Nat.le_trans h.len g.len, fun j r x => g.row j r (h.row j r x)⟩
theorem get_lt {σ : Heap} {j : Nat} {x} (h : σ[j]? = some x) : j < σ.length := (List.getElem?_eq_some_iff.1 h).1
theorem Lh.append (σ ρ : Heap) : Lh σ (σ ++ ρ) := ⟨by simp, fun j r h => by rw [List.getElem?_append_left (get_lt h)]; exact h⟩
theorem Lh.new (σ : Heap) (esz : Nat) (cs : List V) : Lh σ (hnew σ esz cs) := Lh.append _ _
theorem Lh.setNone (σ : Heap) (r : Nat) : Lh (σ.set r none) σ := ⟨by simp, fun j row h => by
  rw [List.getElem?_set] at h
  split at h
  · split at h <;> cases h
  · exact h⟩
theorem Lh.set {σ σ' : Heap} (h : Lh σ σ') {r : Nat} (hr : σ.length ≤ r) (x : Option Row) : Lh σ (σ'.set r x) := ⟨by simpa using h.len, fun j row hj => by
  have := get_lt hj
  rw [List.getElem?_set, if_neg (by omega)]
  exact h.row j row hj⟩
theorem Lh.setNoneLe (σ : Heap) (r : Nat) (x : Option Row) : Lh (σ.set r none) (σ.set r x) := ⟨by simp, fun j row h => by
  rw [List.getElem?_set] at h ⊢
  split at h
  · split at h <;> cases h
  · rename_i hne
    rw [if_neg hne]
    exact h⟩
theorem Lh.setBoth {σ σ' : Heap} (h : Lh σ σ') (r : Nat) : Lh (σ.set r none) (σ'.set r none) := ⟨by simpa using h.len, fun j row hj => by
  rw [List.getElem?_set] at hj ⊢
  split at hj
  · split at hj <;> cases hj
  · rename_i hne
    rw [if_neg hne]
    exact h.row _ _ hj⟩
/-- The heap without its first rows, and without those that may not be written. -/
def wipe (n : Nat) (σ : Heap) : Heap := List.replicate (min n σ.length) none ++ (σ.drop n).map fun
  | some row => if row.ro then none else some row
  | none => none
theorem wipe_length (n : Nat) (σ : Heap) : (wipe n σ).length = σ.length := by simp [wipe]; omega
theorem wipe_get {n : Nat} {σ : Heap} {j : Nat} {row : Row} : (wipe n σ)[j]? = some (some row) ↔ n ≤ j ∧ σ[j]? = some (some row) ∧ row.ro = false := by
  unfold wipe
  rcases Nat.lt_or_ge j (min n σ.length) with h | h
  · rw [List.getElem?_append_left (by simpa using h)]
    simp [h]
    omega
  · rw [List.getElem?_append_right (by simpa using h)]
    simp only [List.length_replicate, List.getElem?_map, List.getElem?_drop, Option.map_eq_some_iff]
    constructor
    · rintro ⟨x, hx, hr⟩
      have hl := get_lt hx
      rcases Nat.lt_or_ge σ.length n with h1 | h1
      · omega
      · have : n + (j - min n σ.length) = j := by omega
        rw [this] at hx
        cases x with
        | none => cases hr
        | some r =>
          simp only at hr
          split at hr
          · cases hr
          · rename_i hro
            injection hr with hr
            subst hr
            exact ⟨by omega, hx, by simpa using hro⟩
    · rintro ⟨h1, hx, hro⟩
      have hl := get_lt hx
      have : n + (j - min n σ.length) = j := by omega
      rw [this]
      exact ⟨_, hx, by simp [hro]⟩
theorem Lh.wipe (n : Nat) (σ : Heap) : Lh (wipe n σ) σ := ⟨by rw [wipe_length]; exact Nat.le_refl _, fun j row h => (wipe_get.1 h).2.1⟩
theorem Lh.wipeBoth {σ σ' : Heap} (h : Lh σ σ') (n : Nat) : Lh (HM.wipe n σ) (HM.wipe n σ') := ⟨by rw [wipe_length, wipe_length]; exact h.len, fun j row hj => wipe_get.2 ⟨(wipe_get.1 hj).1, h.row j row (wipe_get.1 hj).2.1, (wipe_get.1 hj).2.2⟩⟩
theorem Lh.wipeLess {m n : Nat} (σ : Heap) (h : n ≤ m) : Lh (HM.wipe m σ) (HM.wipe n σ) := ⟨by rw [wipe_length, wipe_length]; exact Nat.le_refl _, fun j row hj => wipe_get.2 ⟨Nat.le_trans h (wipe_get.1 hj).1, (wipe_get.1 hj).2⟩⟩
theorem Lh.wipeSet {n r : Nat} (σ : Heap) (h : r < n) (x : Option Row) : Lh (HM.wipe n σ) (σ.set r x) := ⟨by rw [wipe_length]; simp, fun j row hj => by
  obtain ⟨h1, h2, _⟩ := wipe_get.1 hj
  rw [List.getElem?_set, if_neg (by omega)]
  exact h2⟩
theorem Lh.rdc {σ σ' : Heap} (h : Lh σ σ') {r o n : Nat} {cs : List V} (hr : rdc σ r o n = some cs) : rdc σ' r o n = some cs := by
  obtain ⟨row, h1, h2, h3⟩ := rdc_some hr
  rw [HM.rdc, h.row _ _ h1]
  simp [h2, h3]

/-! What takes a value apart. -/
section
variable {α : Type}
@[simp] theorem castInt_int (k : IntKind) (n : Int) (K : Int → Option α) : castInt k (.int k n) K = K n := by simp [castInt]
@[simp] theorem castBool_bool (b : Bool) (K : Bool → Option α) : castBool (.bool b) K = K b := rfl
@[simp] theorem castStr_str (b : ByteArray) (K : ByteArray → Option α) : castStr (.str b) K = K b := rfl
@[simp] theorem castPtr_ptr (r o : Nat) (K : Nat → Nat → Option α) : castPtr (.ptr r o) K = K r o := rfl
@[simp] theorem castFn_fn (f : FuncId) (cs : List V) (K : FuncId → List V → Option α) : castFn (.fn f cs) K = K f cs := rfl
@[simp] theorem castAgg_agg (cs : List V) (K : List V → Option α) : castAgg (.agg cs) K = K cs := rfl
@[simp] theorem castTuple_tuple (cs : List V) (K : List V → Option α) : castTuple (.tuple cs) K = K cs := rfl
@[simp] theorem uncons_cons (c : V) (cs : List V) (K : V → List V → Option α) : uncons (c :: cs) K = K c cs := rfl
@[simp] theorem isNil_nil (K : Option α) : isNil [] K = K := rfl
theorem one_of {v : V} (h : v.flat = true) (K : Option α) : one v K = K := by simp [one, h]
@[simp] theorem one_sl (r o n : Nat) (lim : Bool) (K : Option α) : one (.sl r o n lim) K = K := rfl
@[simp] theorem one_nils (K : Option α) : one .nils K = K := rfl
@[simp] theorem one_emp (K : Option α) : one .emp K = K := rfl
@[simp] theorem one_ptr (r o : Nat) (K : Option α) : one (.ptr r o) K = K := rfl
@[simp] theorem one_nilp (K : Option α) : one .nilp K = K := rfl
@[simp] theorem one_fn (f : FuncId) (cs : List V) (K : Option α) : one (.fn f cs) K = K := rfl
end

/-! From some fuel on. -/
def Ev (p : Nat → Prop) : Prop := ∃ k0, ∀ k, k0 ≤ k → p k
theorem Ev.now {p : Nat → Prop} (h : ∀ k, p k) : Ev p := ⟨0, fun k _ => h k⟩
theorem Ev.and {p q : Nat → Prop} (h : Ev p) (g : Ev q) : Ev fun k => p k ∧ q k := by
  obtain ⟨a, h⟩ := h
  obtain ⟨b, g⟩ := g
  exact ⟨max a b, fun k hk => ⟨h k (by omega), g k (by omega)⟩⟩
theorem Ev.mono {p q : Nat → Prop} (h : Ev p) (g : ∀ k, p k → q k) : Ev q := by
  obtain ⟨a, h⟩ := h
  exact ⟨a, fun k hk => g k (h k hk)⟩
theorem Ev.next {p : Nat → Prop} (h : Ev fun k => p (k + 1)) : Ev p := by
  obtain ⟨a, h⟩ := h
  refine ⟨a + 1, fun k hk => ?_⟩
  obtain ⟨j, rfl⟩ : ∃ j, k = j + 1 := ⟨k - 1, by omega⟩
  exact h j (by omega)
/-- For all of a list at once. -/
theorem Ev.all {α : Type} {p : α → Nat → Prop} : ∀ (l : List α), (∀ x, x ∈ l → Ev (p x)) → Ev fun k => ∀ x, x ∈ l → p x k
  | [], _ => ⟨0, fun k _ x hx => by cases hx⟩
  | y :: l, h => by
    obtain ⟨a, ha⟩ := h y (by simp)
    obtain ⟨b, hb⟩ := Ev.all l (fun x hx => h x (by simp [hx]))
    refine ⟨max a b, fun k hk x hx => ?_⟩
    rcases List.mem_cons.1 hx with rfl | hx
    · exact ha k (by omega)
    · exact hb k (by omega) x hx
/-- Loops: their steps are fuel too. -/
theorem Ev.far {p : Nat → Prop} (n : Nat) (h : Ev p) : Ev fun k => p k ∧ n < k := by
  obtain ⟨a, h⟩ := h
  exact ⟨max a (n + 1), fun k hk => ⟨h k (by omega), by omega⟩⟩

/-- A call comes back, from some fuel on. -/
def Runs (G : Glob) (f : FuncId) (args : List V) (σ : Heap) (v : V) (σ' : Heap) : Prop := Ev fun k => hcall G k f args σ = some (v, σ')
theorem Runs.mk {G : Glob} {f : FuncId} {args : List V} {σ : Heap} {v : V} {σ' : Heap} (h : Ev fun k => hcall G (k + 1) f args σ = some (v, σ')) : Runs G f args σ v σ' := Ev.next h

/-! Numbers. -/
theorem wrap_id {n : Int} (h1 : -9223372036854775808 ≤ n) (h2 : n ≤ 9223372036854775807) : IntKind.wrap .i64 n = n := by
  have hb : IntKind.i64.bits = 64 := rfl
  have hs : IntKind.i64.signed = true := rfl
  have e1 : (2 ^ 64 : Int) = 18446744073709551616 := by decide
  have e2 : (2 ^ (64 - 1) : Int) = 9223372036854775808 := by decide
  unfold IntKind.wrap
  simp only [hb, hs, e1, e2, Bool.true_and, decide_eq_true_eq]
  split <;> omega
theorem wrap_succ {i n : Nat} (h : i < n) (hn : n ≤ 4611686018427387904) : IntKind.wrap .i64 ((i : Int) + 1) = ((i + 1 : Nat) : Int) := by
  rw [wrap_id (by omega) (by omega)]
  rfl

/-! Lists in a heap. -/
inductive RepS {α : Type} (esz : Nat) (P : List V → α → Prop) (σ : Heap) : V → List α → Prop where
  | nils : RepS esz P σ .nils []
  | emp : RepS esz P σ .emp []
  | sl (r o n : Nat) (lim : Bool) (row : Row) (l : List α) : n = l.length → σ[r]? = some (some row) → row.esz = esz → o + l.length * esz ≤ row.cells.length →
    (∀ (i : Nat) (x : α), l[i]? = some x → P ((row.cells.drop (o + i * esz)).take esz) x) → RepS esz P σ (.sl r o n lim) l
section
variable {α : Type} {esz : Nat} {P Q : List V → α → Prop} {σ σ' : Heap} {v : V} {l : List α}
theorem RepS.mono (h : RepS esz P σ v l) (hl : Lh σ σ') (hP : ∀ cs x, x ∈ l → P cs x → Q cs x) : RepS esz Q σ' v l := by
  cases h with
  | nils => exact .nils
  | emp => exact .emp
  | sl r o n lim row l h1 h2 h3 h4 h5 => exact .sl r o n lim row l h1 (hl.row _ _ h2) h3 h4 fun i x hx => hP _ _ (List.mem_of_getElem? hx) (h5 i x hx)
theorem RepS.le (h : RepS esz P σ v l) (hl : Lh σ σ') : RepS esz P σ' v l := h.mono hl fun _ _ _ h => h
theorem RepS.flat (h : RepS esz P σ v l) : v.flat = true := by cases h <;> rfl
theorem RepS.vlen (h : RepS esz P σ v l) : vlen v = some l.length := by
  cases h with
  | nils => rfl
  | emp => rfl
  | sl r o n lim row l h1 h2 h3 h4 h5 => rw [HM.vlen, h1]
theorem RepS.at (h : RepS esz P σ v l) {i : Nat} (hi : i < l.length) : ∃ r o, vidx esz v (i : Int) = some (r, o) ∧ ∃ cs, rdc σ r o esz = some cs ∧ P cs l[i] := by
  cases h with
  | nils => simp at hi
  | emp => simp at hi
  | sl r o n lim row l h1 h2 h3 h4 h5 =>
    have hm : i * esz + esz ≤ l.length * esz := by
      have := Nat.mul_le_mul_right esz (Nat.succ_le_of_lt hi)
      rw [Nat.succ_mul] at this
      exact this
    subst h1
    refine ⟨r, o + i * esz, ?_, (row.cells.drop (o + i * esz)).take esz, ?_, h5 i _ (List.getElem?_eq_getElem hi)⟩
    · simp [vidx, hi]
    · rw [HM.rdc, h2]
      simp only
      rw [if_pos (by omega)]
end

/-! A list that is being written, place for place. -/
theorem setCells_len : ∀ (xs cs : List V) (off : Nat), (setCells cs off xs).length = cs.length
  | [], _, _ => rfl
  | x :: xs, cs, off => by rw [setCells, setCells_len xs, List.length_set]
theorem setCells_get : ∀ (xs cs : List V) (off j : Nat), off + xs.length ≤ cs.length → (setCells cs off xs)[j]? = if off ≤ j ∧ j < off + xs.length then xs[j - off]? else cs[j]?
  | [], cs, off, j, h => by
    rw [setCells, if_neg (by simp <;> omega)]
  | x :: xs, cs, off, j, h => by
    simp only [List.length_cons] at h ⊢
    rw [setCells, setCells_get xs _ _ _ (by rw [List.length_set]; omega), List.getElem?_set]
    by_cases h1 : off + 1 ≤ j ∧ j < off + 1 + xs.length
    · rw [if_pos h1, if_pos (by omega)]
      obtain ⟨q, rfl⟩ : ∃ q, j = off + 1 + q := ⟨j - (off + 1), by omega⟩
      have e1 : off + 1 + q - (off + 1) = q := by omega
      have e2 : off + 1 + q - off = q + 1 := by omega
      rw [e1, e2]
      simp
    · rw [if_neg h1]
      by_cases h2 : off = j
      · subst h2
        rw [if_pos rfl, if_pos (by omega), if_pos (by omega)]
        simp
      · rw [if_neg h2, if_neg (by omega)]
theorem chunk_get {cs : List V} {o n j : Nat} : ((cs.drop o).take n)[j]? = if j < n then cs[o + j]? else none := by
  rw [List.getElem?_take]
  split
  · rw [List.getElem?_drop]
  · rfl
theorem chunk_set_same {cs xs : List V} {o : Nat} (h : o + xs.length ≤ cs.length) : ((setCells cs o xs).drop o).take xs.length = xs := by
  apply List.ext_getElem?
  intro j
  rw [chunk_get]
  split
  · rename_i hj
    rw [setCells_get _ _ _ _ h, if_pos (by omega)]
    congr 1
    omega
  · rw [List.getElem?_eq_none (by omega)]
theorem chunk_set_other {cs xs : List V} {o q n : Nat} (h : o + xs.length ≤ cs.length) (hd : q + n ≤ o ∨ o + xs.length ≤ q) : ((setCells cs o xs).drop q).take n = (cs.drop q).take n := by
  apply List.ext_getElem?
  intro j
  rw [chunk_get, chunk_get]
  split
  · rw [setCells_get _ _ _ _ h, if_neg (by omega)]
  · rfl
def Under {α : Type} (esz : Nat) (Q : List V → α → Prop) (σ : Heap) (r i : Nat) (l : List α) : Prop :=
  ∃ row, σ[r]? = some (some row) ∧ row.ro = false ∧ row.esz = esz ∧ row.cells.length = l.length * esz ∧ ∀ j x, j < i → l[j]? = some x → Q ((row.cells.drop (j * esz)).take esz) x
section
variable {α : Type} {esz : Nat} {P Q : List V → α → Prop} {σ σ' : Heap} {v : V} {l : List α} {r i : Nat}
theorem Under.new (cs : List V) (h : cs.length = l.length * esz) : Under esz Q (hnew σ esz cs) σ.length 0 l :=
  ⟨⟨cs, esz, false, 0⟩, by simp [hnew], rfl, rfl, h, fun j x hj => absurd hj (by omega)⟩
theorem Under.mono (h : Under esz P σ r i l) (hl : Lh σ σ') (hP : ∀ cs x, x ∈ l → P cs x → Q cs x) : Under esz Q σ' r i l := by
  obtain ⟨row, h1, h2, h3, h4, h5⟩ := h
  exact ⟨row, hl.row _ _ h1, h2, h3, h4, fun j x hj hx => hP _ _ (List.mem_of_getElem? hx) (h5 j x hj hx)⟩
theorem Under.step (h : Under esz Q σ r i l) {cs : List V} {x : α} (hx : l[i]? = some x) (hc : cs.length = esz) (hQ : Q cs x) :
    ∃ row, wrc σ r (i * esz) cs = some (σ.set r (some row)) ∧ Under esz Q (σ.set r (some row)) r (i + 1) l := by
  obtain ⟨row, h1, h2, h3, h4, h5⟩ := h
  have hi : i < l.length := (List.getElem?_eq_some_iff.1 hx).1
  have hm : i * esz + esz ≤ l.length * esz := by
    have := Nat.mul_le_mul_right esz (Nat.succ_le_of_lt hi)
    rw [Nat.succ_mul] at this
    exact this
  have hb : i * esz + cs.length ≤ row.cells.length := by omega
  refine ⟨{ row with cells := setCells row.cells (i * esz) cs }, ?_, { row with cells := setCells row.cells (i * esz) cs }, ?_, h2, h3, ?_, ?_⟩
  · rw [wrc, h1]
    simp only
    rw [if_pos ⟨h2, hb⟩]
  · rw [List.getElem?_set_self (get_lt h1)]
  · rw [← h4]; exact setCells_len _ _ _
  · intro j y hj hy
    show Q (((setCells row.cells (i * esz) cs).drop (j * esz)).take esz) y
    by_cases hij : j = i
    · subst hij
      rw [hx] at hy
      injection hy with hy
      subst hy
      have := chunk_set_same hb
      rw [hc] at this
      rw [this]
      exact hQ
    · have hm2 : j * esz + esz ≤ i * esz := by
        have := Nat.mul_le_mul_right esz (show j + 1 ≤ i by omega)
        rw [Nat.succ_mul] at this
        exact this
      rw [chunk_set_other hb (.inl hm2)]
      exact h5 j y (by omega) hy
theorem Under.done (h : Under esz Q σ r l.length l) (hr : ∀ row : Row, row.ro = false → σ[r]? = some (some row) → σ'[r]? = some (some row)) (lim : Bool) : RepS esz Q σ' (.sl r 0 l.length lim) l := by
  obtain ⟨row, h1, h2, h3, h4, h5⟩ := h
  refine .sl r 0 l.length lim row l rfl (hr _ h2 h1) h3 (by omega) fun i x hx => ?_
  rw [Nat.zero_add]
  exact h5 i x (List.getElem?_eq_some_iff.1 hx).1 hx
end
/-- What was made on the way is there in the end. -/
theorem Lh.fresh {σ σ1 σ2 σ3 : Heap} (h : Lh σ σ1) (g : Lh σ2 σ3) : Lh (HM.wipe σ1.length σ2) (HM.wipe σ.length σ3) := (Lh.wipeLess σ2 h.len).trans (g.wipeBoth _)
theorem wipe_set {n r : Nat} {σ : Heap} (h : r < n) (x : Option Row) : wipe n (σ.set r x) = wipe n σ := by
  unfold wipe
  rw [List.length_set, List.drop_set_of_lt h]

/-! Sizes, as the laws count them. -/
def totS {α : Type} (f : α → Nat) : List α → Nat
  | [] => 0
  | x :: xs => f x + totS f xs
theorem totS_mem {α : Type} (f : α → Nat) {x : α} : ∀ {l : List α}, x ∈ l → f x ≤ totS f l
  | y :: l, h => by
    rw [totS]
    rcases List.mem_cons.1 h with rfl | h
    · omega
    · have := totS_mem f h
      omega
theorem totS_zero {α : Type} (f : α → Nat) (h : ∀ x, f x = 0) : ∀ l, totS f l = 0
  | [] => rfl
  | x :: l => by rw [totS, h, totS_zero f h l]
/-- What is left of a budget. -/
def sub (b : Int) (n : Nat) : Int := if b < n then -1 else b - n
theorem sub_cases (b : Int) (n : Nat) : (sub b n = -1 ∧ b < n) ∨ (sub b n = b - n ∧ (n : Int) ≤ b) := by
  unfold sub
  split
  · exact .inl ⟨rfl, by assumption⟩
  · exact .inr ⟨rfl, by omega⟩
theorem sub_add (b : Int) (m n : Nat) : (if sub b m < 0 then -1 else sub (sub b m) n) = sub b (m + n) := by
  unfold sub
  split <;> split <;> (try split) <;> omega
end Go.HM
