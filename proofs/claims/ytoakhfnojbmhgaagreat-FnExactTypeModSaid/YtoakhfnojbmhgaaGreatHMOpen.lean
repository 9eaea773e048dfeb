/- From arguments that can be read in a world to a heap of the small machine that shows them. -/
import Derived.Test.YtoakhfnojbmhgaaGreatHMRep
import Derived.ChangeArms
import Derived.Deep.Slices
import Derived.ChangeShapes
import Derived.Below
set_option linter.unusedSimpArgs false
set_option linter.unusedVariables false
namespace Go.HM
/-- Rows that nobody writes. -/
structure Seen (W : World) (μ : Mu) (σ : Heap) : Prop where
  sim : Sim μ σ W
  ro : ∀ (r : Nat) (row : Row), σ[r]? = some (some row) → row.ro = true
/-- Where the package variables lie: the first 64 rows are theirs. -/
def mu0 (gs : Nat → Nat × Nat) : Mu := fun g => if g < 64 then some ⟨g, 0, (gs g).1, (gs g).2⟩ else none
def sig0 : Heap := List.replicate 64 none
theorem sig0_get {r : Nat} {row : Row} (h : sig0[r]? = some (some row)) : False := by
  unfold sig0 at h
  rw [List.getElem?_replicate] at h
  split at h <;> cases h
theorem Seen.nil (W : World) (gs : Nat → Nat × Nat) : Seen W (mu0 gs) sig0 :=
  ⟨⟨fun r hr => by
    have : 64 ≤ r := by simpa [sig0] using hr
    simp [mu0]; omega, fun r row h => (sig0_get h).elim, fun r r' row row' L L' h => (sig0_get h).elim, fun g hg => ⟨⟨g, 0, (gs g).1, (gs g).2⟩, by simp [mu0, hg], rfl, rfl⟩, fun g row L _ h => (sig0_get h).elim⟩, fun r row h => (sig0_get h).elim⟩
/-- What a package variable holds. -/
theorem Seen.glob {W : World} {μ : Mu} {σ : Heap} (h : Seen W μ σ) {g esz size : Nat} (hg : g < σ.length) (hm : μ g = some ⟨g, 0, esz, size⟩) {cells : List V} (hat : At W g 0 size μ cells false) (hsz : cells.length = size) :
    Seen W μ (σ.set g (some ⟨cells, esz, true, 0⟩)) := by
  have hget : ∀ (k : Nat) row', (σ.set g (some ⟨cells, esz, true, 0⟩))[k]? = some (some row') → (k = g ∧ row' = ⟨cells, esz, true, 0⟩) ∨ (k ≠ g ∧ σ[k]? = some (some row')) := by
    intro k row' hk
    rw [List.getElem?_set] at hk
    split at hk
    · have : some (some (⟨cells, esz, true, 0⟩ : Row)) = some (some row') := by
        first | exact hk | (split at hk; exact hk; cases hk)
      injection this with this; injection this with this; exact .inl ⟨by omega, this.symm⟩
    · exact .inr ⟨by omega, hk⟩
  refine ⟨⟨fun r hr => h.sim.fresh r (by simpa using hr), fun r row hr => ?_, fun r r' row row' L L' h1 h2 h3 => ?_, h.sim.glob, fun k row' M hk hr hM => by
    rcases hget k row' hr with ⟨rfl, rfl⟩ | ⟨_, hr'⟩
    · rw [hm] at hM
      injection hM with hM
      rw [← hM]
      exact ⟨rfl, hsz⟩
    · exact h.sim.exact k row' M hk hr' hM⟩, fun r row hr => ?_⟩
  · rcases hget r row hr with ⟨rfl, rfl⟩ | ⟨_, hr⟩
    · exact ⟨_, hm, rfl, hat, fun hc => by cases hc⟩
    · exact h.sim.live r row hr
  · rcases hget r row h1 with ⟨rfl, rfl⟩ | ⟨_, h1⟩
    · cases h3
    · rw [h.ro _ _ h1] at h3; cases h3
  · rcases hget r row hr with ⟨rfl, rfl⟩ | ⟨_, hr⟩
    · rfl
    · exact h.ro _ _ hr
theorem snoc_old {σ : Heap} {x : Option Row} {r : Nat} {row : Row} (h : (σ ++ [x])[r]? = some (some row)) : (σ[r]? = some (some row) ∧ r < σ.length) ∨ (r = σ.length ∧ x = some row) := by
  rcases Nat.lt_or_ge r σ.length with hlt | hge
  · rw [List.getElem?_append_left hlt] at h
    exact .inl ⟨h, hlt⟩
  · rw [List.getElem?_append_right hge] at h
    have hr : r - σ.length = 0 := by
      have := get_lt h
      simp at this
      omega
    rw [hr] at h
    simp at h
    exact .inr ⟨by omega, h⟩
theorem Seen.push {W : World} {μ : Mu} {σ : Heap} (h : Seen W μ σ) {cells : List V} {b base esz size : Nat} (hat : At W b base size μ cells false) :
    Seen W (upd μ σ.length ⟨b, base, esz, size⟩) (σ ++ [some ⟨cells, esz, true, 0⟩]) := by
  have hle : Le μ (upd μ σ.length ⟨b, base, esz, size⟩) := le_upd (h.sim.fresh _ (Nat.le_refl _))
  refine ⟨⟨fun r hr => ?_, fun r row hr => ?_, fun r r' row row' L L' h1 h2 h3 => ?_, fun g hg => let ⟨L, h1, h2⟩ := h.sim.glob g hg; ⟨L, hle _ _ h1, h2⟩, fun g row M hg hr hM => by
    rcases snoc_old hr with ⟨hr, hlt⟩ | ⟨rfl, _⟩
    · unfold upd at hM
      rw [if_neg (by omega)] at hM
      exact h.sim.exact g row M hg hr hM
    · obtain ⟨N, n1, _⟩ := h.sim.glob _ hg
      rw [h.sim.fresh _ (Nat.le_refl _)] at n1
      cases n1⟩, fun r row hr => ?_⟩
  · simp at hr
    unfold upd
    rw [if_neg (by omega)]
    exact h.sim.fresh r (by omega)
  · rcases snoc_old hr with ⟨hr, hlt⟩ | ⟨rfl, hx⟩
    · obtain ⟨L, k1, k2, k3, k4⟩ := h.sim.live r row hr
      exact ⟨L, hle _ _ k1, k2, k3.mono hle, k4⟩
    · injection hx with hx
      subst hx
      exact ⟨⟨b, base, esz, size⟩, by unfold upd; rw [if_pos rfl], rfl, hat.mono hle, fun hc => by cases hc⟩
  · rcases snoc_old h1 with ⟨k, _⟩ | ⟨_, hx⟩
    · rw [h.ro _ _ k] at h3; cases h3
    · injection hx with hx
      rw [← hx] at h3; cases h3
  · rcases snoc_old hr with ⟨k, _⟩ | ⟨_, hx⟩
    · exact h.ro _ _ k
    · injection hx with hx
      rw [← hx]

section
variable {H : Type} {P : Program} {W : World} {α : Type}
/-- Whatever is read as a value of type t, by at most so many steps, can be shown in a heap, and it fits. -/
def Lays (enc : TypeId × Value → H) (P : Program) (W : World) (t : TypeId) {α : Type} (R : Heap → List V → α → Prop) (fit : α → Prop) (m : Nat) : Prop :=
  ∀ (base : Nat) (hd : Bool) (fuel : Nat) (cs : List Value) (x : DataW H × List MemPlace), fuel ≤ m → DataW.trod enc P W base (fun _ => true) hd fuel t cs = some x →
    ∃ y, fit y ∧ ∀ μ σ, Seen W μ σ → ∃ μ' σ' xs, Seen W μ' σ' ∧ Le μ μ' ∧ Lh σ σ' ∧ RelC μ' xs cs ∧ R σ' xs y
theorem relC_one {μ : Mu} {x : V} {y : Value} (h : Rel μ x y) (h1 : y.oneCell' = true) : RelC μ [x] [y] := ⟨rfl, fun i a b ha hb => by
  cases i with
  | zero => simp at ha hb; subst ha hb; exact ⟨h, h1⟩
  | succ i => simp at ha⟩
def I64R (_ : Heap) (xs : List V) (n : Int) : Prop := xs = [.int .i64 n]
def BoolR (_ : Heap) (xs : List V) (b : Bool) : Prop := xs = [.bool b]
def StrR (_ : Heap) (xs : List V) (s : ByteArray) : Prop := xs = [.str s]
def SlR {α : Type} (sz : Nat) (R : Heap → List V → α → Prop) (σ : Heap) (xs : List V) (l : List α) : Prop := ∃ v, xs = [v] ∧ RepS sz (R σ) σ v l
def PairR {α β : Type} (A : Heap → List V → α → Prop) (B : Heap → List V → β → Prop) (σ : Heap) (xs : List V) (y : α × β) : Prop := ∃ a b, xs = a ++ b ∧ A σ a y.1 ∧ B σ b y.2
def Grows {α : Type} (R : Heap → List V → α → Prop) : Prop := ∀ σ σ' xs y, Lh σ σ' → R σ xs y → R σ' xs y
def U8R (_ : Heap) (xs : List V) (n : Int) : Prop := xs = [.int .u8 n]
theorem grows_u8 : Grows U8R := fun _ _ _ _ _ h => h
theorem grows_i64 : Grows I64R := fun _ _ _ _ _ h => h
theorem grows_bool : Grows BoolR := fun _ _ _ _ _ h => h
theorem grows_str : Grows StrR := fun _ _ _ _ _ h => h
theorem Grows.sl {sz : Nat} {R : Heap → List V → α → Prop} (h : Grows R) : Grows (SlR sz R) := fun σ σ' xs y hl ⟨v, h1, h2⟩ => ⟨v, h1, h2.mono hl fun cs x _ hc => h _ _ _ _ hl hc⟩
theorem Grows.pair {β : Type} {A : Heap → List V → α → Prop} {B : Heap → List V → β → Prop} (h : Grows A) (g : Grows B) : Grows (PairR A B) :=
  fun σ σ' xs y hl ⟨a, b, h1, h2, h3⟩ => ⟨a, b, h1, h _ _ _ _ hl h2, g _ _ _ _ hl h3⟩
def fitI (n : Int) : Prop := -9223372036854775808 ≤ n ∧ n ≤ 9223372036854775807
def fitU8 (n : Int) : Prop := 0 ≤ n ∧ n ≤ 255
def fitB (_ : Bool) : Prop := True
def fitT (s : ByteArray) : Prop := s.size ≤ 9223372036854775807
def fitL {α : Type} (fit : α → Prop) (l : List α) : Prop := l.length ≤ 9223372036854775807 ∧ ∀ x, x ∈ l → fit x
def fitP {α β : Type} (a : α → Prop) (b : β → Prop) (y : α × β) : Prop := a y.1 ∧ b y.2
variable {enc : TypeId × Value → H} {m : Nat}
theorem Lays.i64 {t : TypeId} (ht : P.underlying t = some (.int .i64)) : Lays enc P W t I64R fitI m := by
  intro base hd fuel cs x _ h
  obtain ⟨n, rfl, _, hw⟩ := DataW.trod_int ht h
  refine ⟨n, ?_, fun μ σ hs => ⟨μ, σ, [.int .i64 n], hs, Le.refl _, Lh.refl _, relC_one (.int _ _) rfl, rfl⟩⟩
  have h1 : IntKind.i64.min = -9223372036854775808 := by decide
  simp [Lit.wf, h1] at hw
  exact hw
theorem Lays.u8 {t : TypeId} (ht : P.underlying t = some (.int .u8)) : Lays enc P W t U8R fitU8 m := by
  intro base hd fuel cs x _ h
  obtain ⟨n, rfl, _, hw⟩ := DataW.trod_int ht h
  refine ⟨n, ?_, fun μ σ hs => ⟨μ, σ, [.int .u8 n], hs, Le.refl _, Lh.refl _, relC_one (.int _ _) rfl, rfl⟩⟩
  have h1 : IntKind.u8.min = 0 := by decide
  have h2 : IntKind.u8.max = 255 := by decide
  simp [Lit.wf, h1, h2] at hw
  unfold fitU8
  omega
theorem Lays.bool {t : TypeId} (ht : P.underlying t = some .bool) : Lays enc P W t BoolR fitB m := by
  intro base hd fuel cs x _ h
  obtain ⟨b, rfl, _⟩ := DataW.trod_bool ht h
  exact ⟨b, trivial, fun μ σ hs => ⟨μ, σ, [.bool b], hs, Le.refl _, Lh.refl _, relC_one (.bool _) rfl, rfl⟩⟩
theorem Lays.string {t : TypeId} (ht : P.underlying t = some .string) : Lays enc P W t StrR fitT m := by
  intro base hd fuel cs x _ h
  obtain ⟨s, rfl, _, hs⟩ := DataW.trod_string ht h
  exact ⟨s, by unfold maxLen at hs; unfold fitT; omega, fun μ σ hs => ⟨μ, σ, [.str s], hs, Le.refl _, Lh.refl _, relC_one (.str _) rfl, rfl⟩⟩
theorem Lays.less {t : TypeId} {R : Heap → List V → α → Prop} {fit : α → Prop} {n : Nat} (h : Lays enc P W t R fit m) (hn : n ≤ m) : Lays enc P W t R fit n := fun base hd fuel cs x hf => h base hd fuel cs x (by omega)
theorem pick_all {p : Nat → α → Prop} : ∀ n, (∀ i, i < n → ∃ y, p i y) → ∃ l : List α, l.length = n ∧ ∀ (i : Nat) y, l[i]? = some y → p i y
  | 0, _ => ⟨[], rfl, fun i y h => by simp at h⟩
  | n + 1, h => by
    obtain ⟨l, hl, hp⟩ := pick_all n (fun i hi => h i (by omega))
    obtain ⟨y, hy⟩ := h n (by omega)
    refine ⟨l ++ [y], by simp [hl], fun i z hz => ?_⟩
    rcases Nat.lt_or_ge i n with hi | hi
    · rw [List.getElem?_append_left (by omega)] at hz
      exact hp i z hz
    · rw [List.getElem?_append_right (by omega), hl] at hz
      have hi' : i = n := by
        have := (List.getElem?_eq_some_iff.1 hz).1
        simp at this
        omega
      subst hi'
      simp at hz
      rw [← hz]
      exact hy
theorem cell_add {a : Addr} {c : Array Value} {ty : TypeId} {fz : Nat × Nat} (hsp : a.spot = none) (hb : W.heap[a.block]? = some (.cells c ty fz)) (k : Nat) : W.cell? (a.add k) = c[a.off + k]? := by
  have h1 : (a.add k).block = a.block := by unfold Addr.add; split <;> rfl
  have h2 : (a.add k).off = a.off + k := by
    unfold Addr.add
    split
    · rename_i h; rw [h]; rfl
    · rfl
  have h3 : (a.add k).spot = none := by
    unfold Addr.add
    split
    · exact hsp
    · rfl
  unfold World.cell?
  rw [h1, h2, h3, hb]
  rfl
theorem cell_some {a : Addr} {y : Value} (h : W.cell? a = some y) : ∃ c ty fz, a.spot = none ∧ W.heap[a.block]? = some (.cells c ty fz) := by
  unfold World.cell? at h
  split at h
  · rename_i c ty fz hb
    split at h
    · cases h
    · rename_i hsp
      exact ⟨c, ty, fz, by simpa using hsp, hb⟩
  · cases h
theorem add_add (a : Addr) (i j : Nat) : (a.add i).add j = a.add (i + j) := by
  unfold Addr.add
  by_cases h1 : i = 0 <;> by_cases h2 : j = 0 <;> simp [h1, h2, Nat.add_assoc]
theorem Lays.slice {t e : TypeId} {sz : Nat} {R : Heap → List V → α → Prop} {fit : α → Prop} (ht : P.underlying t = some (.slice e)) (hsz : P.cellsOf e = sz) (h0 : 0 < sz) (hR : Grows R) (hd : Lays enc P W e R fit m) :
    Lays enc P W t (SlR sz R) (fitL fit) (m + 1) := by
  intro base hd' fuel cs x hf h
  rcases DataW.trod_slice ht h with ⟨rfl, _⟩ | ⟨a, len, cap, elems, rest, n, hn, rfl, rfl, hb, hl, hm, hlen, hel, hsp, hns⟩
  · exact ⟨[], ⟨by simp, by simp⟩, fun μ σ hs => ⟨μ, σ, [.nils], hs, Le.refl _, Lh.refl _, relC_one .nils rfl, .nils, rfl, .nils⟩⟩
  · rw [hsz] at hel hsp
    have each : ∀ i, i < len → ∃ (q : α × List Value), fit q.1 ∧ q.2.length = sz ∧ (∀ j, j < sz → W.cell? (a.add (i * sz + j)) = q.2[j]?) ∧
        ∀ μ σ, Seen W μ σ → ∃ μ' σ' xs, Seen W μ' σ' ∧ Le μ μ' ∧ Lh σ σ' ∧ RelC μ' xs q.2 ∧ R σ' xs q.1 := by
      intro i hi
      have hi' : i < elems.length := by omega
      have h1 := hel i hi
      rw [List.getElem?_eq_getElem hi'] at h1
      obtain ⟨cs', h2, h3⟩ := Option.bind_eq_some_iff.1 h1
      obtain ⟨_, hlen', hc⟩ := World.cells?_some h2
      obtain ⟨y, hF, hK⟩ := hd base hd' n cs' _ (by omega) h3
      exact ⟨(y, cs'), hF, hlen', fun j hj => by rw [← add_add]; exact hc j hj, hK⟩
    obtain ⟨l, hll, hp⟩ := pick_all len each
    have hfit : fitL fit (l.map (·.1)) := by
      refine ⟨by rw [List.length_map, hll]; unfold maxLen at hm; omega, fun y hy => ?_⟩
      obtain ⟨q, hq, rfl⟩ := List.mem_map.1 hy
      obtain ⟨i, hi, rfl⟩ := List.getElem_of_mem hq
      exact (hp i _ (List.getElem?_eq_getElem hi)).1
    refine ⟨l.map (·.1), hfit, fun μ σ hs => ?_⟩
    rcases Nat.eq_zero_or_pos len with hz | hpos
    · subst hz
      have : l = [] := List.length_eq_zero_iff.1 hll
      subst this
      exact ⟨μ, σ, [.emp], hs, Le.refl _, Lh.refl _, relC_one .emp rfl, .emp, rfl, .emp⟩
    · have all : ∀ i, i ≤ len → ∃ (μ' : Mu) (σ' : Heap) (cells : List V), Seen W μ' σ' ∧ Le μ μ' ∧ Lh σ σ' ∧ cells.length = i * sz ∧
          (∀ j x, cells[j]? = some x → ∃ y, W.cell? (a.add j) = some y ∧ Rel μ' x y ∧ y.oneCell' = true) ∧
          ∀ k z, k < i → l[k]? = some z → R σ' ((cells.drop (k * sz)).take sz) z.1 := by
        intro i
        induction i with
        | zero => exact fun _ => ⟨μ, σ, [], hs, Le.refl _, Lh.refl _, by simp, fun j x hx => by simp at hx, fun k z hk => absurd hk (by omega)⟩
        | succ i ih =>
          intro hi
          obtain ⟨μ1, σ1, cells, g1, g2, g3, g4, g5, g6⟩ := ih (by omega)
          have hil : i < l.length := by omega
          obtain ⟨_, k2, k3, k4⟩ := hp i _ (List.getElem?_eq_getElem hil)
          obtain ⟨μ2, σ2, xs, f1, f2, f3, f4, f5⟩ := k4 μ1 σ1 g1
          have hxl : xs.length = sz := by rw [f4.1]; exact k2
          refine ⟨μ2, σ2, cells ++ xs, f1, g2.trans f2, g3.trans f3, by rw [List.length_append, g4, hxl, Nat.succ_mul], fun j x hx => ?_, fun k z hk hz => ?_⟩
          · rcases Nat.lt_or_ge j cells.length with hj | hj
            · rw [List.getElem?_append_left hj] at hx
              obtain ⟨y, y1, y2, y3⟩ := g5 j x hx
              exact ⟨y, y1, y2.mono f2, y3⟩
            · rw [List.getElem?_append_right hj] at hx
              obtain ⟨y, y1, y2, y3⟩ := f4.cell _ _ hx
              have hjs : j - cells.length < sz := by rw [← hxl]; exact (List.getElem?_eq_some_iff.1 hx).1
              have := k3 _ hjs
              rw [g4] at this
              have hj2 : i * sz + (j - i * sz) = j := by omega
              rw [hj2] at this
              rw [g4] at y1
              exact ⟨y, this.trans y1, y2, y3⟩
          · by_cases hki : k = i
            · subst hki
              rw [List.getElem?_eq_getElem hil] at hz
              injection hz with hz
              subst hz
              rw [← g4, List.drop_left, ← hxl, List.take_length]
              exact f5
            · have hm2 : k * sz + sz ≤ i * sz := by
                have := Nat.mul_le_mul_right sz (show k + 1 ≤ i by omega)
                rw [Nat.succ_mul] at this
                exact this
              have := g6 k z (by omega) hz
              rw [List.drop_append_of_le_length (by omega), List.take_append_of_le_length (by rw [List.length_drop]; omega)]
              exact hR _ _ _ _ f3 this
      obtain ⟨μ1, σ1, cells, g1, g2, g3, g4, g5, g6⟩ := all len (Nat.le_refl _)
      have hszl : sz ≤ len * sz := by
        have := Nat.mul_le_mul_right sz (show 1 ≤ len by omega)
        rw [Nat.one_mul] at this
        exact this
      have hc0 : 0 < cells.length := by omega
      obtain ⟨y0, y1, _, _⟩ := g5 0 _ (List.getElem?_eq_getElem hc0)
      have ha0 : a.add 0 = a := rfl
      rw [ha0] at y1
      obtain ⟨c, ty, fz, hspot, hblk⟩ := cell_some y1
      have hcap : a.off + cap * sz ≤ c.size := by
        have last : ∀ k, k < cap * sz → k < c.size - a.off := by
          intro k hk
          have : ∃ y, W.cell? (a.add k) = some y := by
            rcases Nat.lt_or_ge k (len * sz) with h1 | h1
            · obtain ⟨y, q, _⟩ := g5 k _ (List.getElem?_eq_getElem (by omega))
              exact ⟨y, q⟩
            · obtain ⟨hr1, hr2⟩ := hsp rfl
              have hj : k / sz - len < cap - len := by
                have h2 : k / sz < cap := Nat.div_lt_of_lt_mul (by rw [Nat.mul_comm]; exact hk)
                have h3 : len ≤ k / sz := (Nat.le_div_iff_mul_le h0).2 h1
                omega
              have h4 := hr2 _ hj
              rw [List.getElem?_eq_getElem (by omega)] at h4
              obtain ⟨cs', h5, _⟩ := Option.bind_eq_some_iff.1 h4
              obtain ⟨_, h6, h7⟩ := World.cells?_some h5
              have h8 := h7 (k % sz) (Nat.mod_lt _ h0)
              have h3 : len ≤ k / sz := (Nat.le_div_iff_mul_le h0).2 h1
              have h9 : len + (k / sz - len) = k / sz := by omega
              rw [h9, add_add] at h8
              have h10 : k / sz * sz + k % sz = k := by rw [Nat.mul_comm]; exact Nat.div_add_mod k sz
              rw [h10, List.getElem?_eq_getElem (by rw [h6]; exact Nat.mod_lt _ h0)] at h8
              exact ⟨_, h8⟩
          obtain ⟨y, hy⟩ := this
          rw [cell_add hspot hblk] at hy
          have := (Array.getElem?_eq_some_iff.1 hy).1
          omega
        have hcs : len * sz ≤ cap * sz := Nat.mul_le_mul_right sz hl
        have := last (cap * sz - 1) (by omega)
        omega
      have hat : At W a.block a.off c.size μ1 cells false := ⟨c, ty, fz, hblk, rfl, by
        have hcs : len * sz ≤ cap * sz := Nat.mul_le_mul_right sz hl
        omega, fun i x hx => by
          obtain ⟨y, q1, q2, q3⟩ := g5 i x hx
          rw [cell_add hspot hblk] at q1
          exact ⟨y, q1, q2, q3⟩, (fun hc => by cases hc), fun hc => absurd rfl hc⟩
      have hle : Le μ1 (upd μ1 σ1.length ⟨a.block, a.off, sz, c.size⟩) := le_upd (g1.sim.fresh _ (Nat.le_refl _))
      refine ⟨_, _, [.sl σ1.length 0 len false], g1.push hat (esz := sz), g2.trans hle, g3.trans (Lh.append _ _), relC_one ?_ rfl, _, rfl, ?_⟩
      · have := Rel.sl (μ := upd μ1 σ1.length ⟨a.block, a.off, sz, c.size⟩) (r := σ1.length) (off := 0) (len := len) (c := cap) (lim := false) (L := ⟨a.block, a.off, sz, c.size⟩) (by unfold upd; rw [if_pos rfl]) hl (fun _ => hcap) (fun hc => by cases hc)
        have hae : (⟨a.block, a.off + 0, none⟩ : Addr) = a := by
          cases a
          simp at hspot
          simp [hspot]
        rw [hae] at this
        exact this
      · refine .sl σ1.length 0 len false ⟨cells, sz, true, 0⟩ (l.map (·.1)) (by rw [List.length_map, hll]) (List.getElem?_concat_length ..) rfl (by rw [List.length_map, hll]; show 0 + len * sz ≤ cells.length; omega) fun i x hx => ?_
        rw [List.getElem?_map] at hx
        obtain ⟨z, hz, rfl⟩ := Option.map_eq_some_iff.1 hx
        rw [Nat.zero_add]
        exact hR _ _ _ _ (Lh.append _ _) (g6 i z (by have := (List.getElem?_eq_some_iff.1 hz).1; omega) hz)
theorem Lays.slice' {t e : TypeId} {sz : Nat} {R : Heap → List V → α → Prop} {fit : α → Prop} (ht : P.underlying t = some (.slice e)) (hsz : P.cellsOf e = sz) (h0 : 0 < sz) (hR : Grows R) (hd : Lays enc P W e R fit m) :
    Lays enc P W t (SlR sz R) (fitL fit) m := (Lays.slice ht hsz h0 hR hd).less (by omega)
/-- The fields of a struct from one on, which begin at cell off. -/
def LaysF (enc : TypeId × Value → H) (P : Program) (W : World) (fs : List Field) (off sz : Nat) {α : Type} (R : Heap → List V → α → Prop) (fit : α → Prop) (m : Nat) : Prop :=
  ∀ (base : Nat) (hd : Bool) (fuel : Nat) (cs : List Value), fuel ≤ m → cs.length = off + sz → (∀ f, f ∈ fs → ∃ x, DataW.trod enc P W base (fun _ => true) hd fuel f.type ((cs.drop f.offset).take (P.cellsOf f.type)) = some x) →
    ∃ y, fit y ∧ ∀ μ σ, Seen W μ σ → ∃ μ' σ' xs, Seen W μ' σ' ∧ Le μ μ' ∧ Lh σ σ' ∧ RelC μ' xs (cs.drop off) ∧ R σ' xs y
theorem LaysF.last {f : Field} {sz : Nat} {R : Heap → List V → α → Prop} {fit : α → Prop} (hs : P.cellsOf f.type = sz) (h : Lays enc P W f.type R fit m) : LaysF enc P W [f] f.offset sz R fit m := by
  intro base hd fuel cs hf hl hx
  obtain ⟨x, hx⟩ := hx f (List.mem_singleton.2 rfl)
  rw [List.take_of_length_le (by rw [List.length_drop]; omega)] at hx
  exact h base hd fuel _ x hf hx
theorem LaysF.cons {β : Type} {f : Field} {fs : List Field} {off sa sb : Nat} {A : Heap → List V → α → Prop} {B : Heap → List V → β → Prop} {fita : α → Prop} {fitb : β → Prop} (hs : P.cellsOf f.type = sa) (ho : off = f.offset + sa) (hA : Grows A)
    (h : Lays enc P W f.type A fita m) (hr : LaysF enc P W fs off sb B fitb m) : LaysF enc P W (f :: fs) f.offset (sa + sb) (PairR A B) (fitP fita fitb) m := by
  intro base hd fuel cs hf hl hx
  obtain ⟨x, h1⟩ := hx f (List.mem_cons_self ..)
  obtain ⟨y, fy, hy⟩ := h base hd fuel _ x hf h1
  obtain ⟨z, fz, hz⟩ := hr base hd fuel cs hf (by omega) (fun g hg => hx g (List.mem_cons_of_mem _ hg))
  refine ⟨(y, z), ⟨fy, fz⟩, fun μ σ hs' => ?_⟩
  obtain ⟨μ1, σ1, xs, a1, a2, a3, a4, a5⟩ := hy μ σ hs'
  obtain ⟨μ2, σ2, ys, b1, b2, b3, b4, b5⟩ := hz μ1 σ1 a1
  refine ⟨μ2, σ2, xs ++ ys, b1, a2.trans b2, a3.trans b3, ?_, xs, ys, rfl, hA _ _ _ _ b3 a5, b5⟩
  have := (a4.mono b2).append b4
  rw [hs, ho, ← List.drop_drop, List.take_append_drop] at this
  exact this
theorem Lays.struct {β : Type} {t : TypeId} {fs : Array Field} {sz : Nat} {R : Heap → List V → β → Prop} {fit : β → Prop} {R' : Heap → List V → α → Prop} {fit' : α → Prop} (g : β → α) (hg : ∀ σ xs y, R σ xs y → R' σ xs (g y)) (hfit : ∀ y, fit y → fit' (g y))
    (ht : P.underlying t = some (.struct fs)) (hsz : P.cellsOf t = sz) (h : LaysF enc P W fs.toList 0 sz R fit m) : Lays enc P W t R' fit' (m + 1) := by
  intro base hd fuel cs x hf hx
  obtain ⟨xs, n, rfl, rfl, hl, hxl, hi⟩ := DataW.trod_struct ht hx
  obtain ⟨y, fy, hy⟩ := h base hd n cs (by omega) (by omega) (fun fl hfl => by
    obtain ⟨i, hil, rfl⟩ := List.getElem_of_mem hfl
    have hil' : i < fs.size := by simpa using hil
    have := hi i fs[i] (by simp [hil'])
    rw [List.getElem?_eq_getElem (by omega)] at this
    exact ⟨_, by simpa using this⟩)
  refine ⟨g y, hfit y fy, fun μ σ hs => ?_⟩
  obtain ⟨μ1, σ1, xs, a1, a2, a3, a4, a5⟩ := hy μ σ hs
  exact ⟨μ1, σ1, xs, a1, a2, a3, by simpa using a4, hg _ _ _ a5⟩
/-- A type nested in itself. -/
theorem Lays.fix {t : TypeId} {R : Heap → List V → α → Prop} {fit : α → Prop} (step : ∀ n, Lays enc P W t R fit n → Lays enc P W t R fit (n + 1)) : ∀ n, Lays enc P W t R fit n := by
  intro n
  induction n with
  | zero =>
    intro base hd fuel cs x hf h
    obtain rfl : fuel = 0 := by omega
    simp [DataW.trod] at h
  | succ n ih => exact step n ih
end
/-- A call that comes back comes back in the model, and leaves the world's blocks as they were. -/
theorem law_of {G : Glob} (ok : GlobOk G) {W : World} {μ : Mu} {σ σ' : Heap} {f : FuncId} {args : List V} {v : V} (hs : Seen W μ σ) (hr : Runs G f args σ v σ') (vs : Array Value) (hrel : Rels μ args vs.toList) :
    Calls G.P f vs W fun e W' => ∃ y, e = .returned y ∧ (∃ μ', Rel μ' v y) ∧ Go.RowKit.Below W.heap.size W W' := by
  obtain ⟨k, hk⟩ := hr
  refine (hcall_sound ok k f args σ v σ' (hk k (Nat.le_refl _)) μ W vs hs.sim hrel).2.mono fun e W' h => ?_
  cases e with
  | returned y =>
    obtain ⟨μ', hb, hy⟩ := h
    refine ⟨y, rfl, ⟨μ', hy⟩, hb.keep.os, hb.keep.tape, hb.keep.output, hb.keep.size, fun b hlt => hb.keep.block b hlt ?_⟩
    rintro ⟨r, row, L, h1, h2, h3, h4⟩
    have := hs.ro r row h1
    rw [h4 rfl] at this
    cases this
  | _ => exact h.elim
theorem rels_one {μ : Mu} {x : V} {y : Value} {xs : List V} {ys : List Value} (h : Rel μ x y) (g : Rels μ xs ys) : Rels μ (x :: xs) (y :: ys) := ⟨by simp [g.1], fun i a b ha hb => by
  cases i with
  | zero => simp at ha hb; subst ha hb; exact h
  | succ i => exact g.2 i a b (by simpa using ha) (by simpa using hb)⟩
theorem rels_nil {μ : Mu} : Rels μ [] [] := ⟨rfl, fun i a b ha => by simp at ha⟩
theorem rel_single {μ : Mu} {x : V} {y : Value} (h : RelC μ [x] [y]) : Rel μ x y := (h.2 0 x y rfl rfl).1
end Go.HM
