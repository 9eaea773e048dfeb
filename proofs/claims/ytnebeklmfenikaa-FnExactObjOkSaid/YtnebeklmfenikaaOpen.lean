/- What is read of an argument, whatever its type is made of (whole numbers, bools, texts, slices, structs, types nested in themselves), is of the kind that the printed functions speak of; each number is of its type, and no text or slice is longer than Go's longest. -/
import Derived.Test.YtnebeklmfenikaaWWords
import Derived.ChangeArms
import Derived.Deep.Slices
import Derived.ChangeShapes
namespace Go.Proofs.Ytnebeklmfenikaa.Open
open Go.RowKit Go.Proofs.YtnebeklmfenikaaW.PrintWords

/-- A number of 64 bits. -/
def rng (n : Int) : Prop := -9223372036854775808 ≤ n ∧ n ≤ 9223372036854775807
def strOk (s : ByteArray) : Prop := s.size ≤ 9223372036854775807
def lenOk {α : Type} (l : List α) : Prop := l.length ≤ 9223372036854775807
def anyb (_ : Bool) : Prop := True
section
variable {H : Type} {P : Program} {W : World}
/-- Whatever is read as a value of type t, by at most so many steps, is of the kind k, and it fits. -/
def Opens (enc : TypeId × Value → H) (P : Program) (W : World) (t : TypeId) {α : Type} (k : Kd α) (fit : α → Prop) (m : Nat) : Prop :=
  ∀ (base : Nat) (sp : Nat → Bool) (hd : Bool) (fuel : Nat) (cs : List Value) (x : DataW H × List MemPlace), fuel ≤ m → DataW.trod enc P W base sp hd fuel t cs = some x → ∃ y, k.K W y cs ∧ fit y
variable {enc : TypeId × Value → H} {m : Nat}
theorem Opens.int {t : TypeId} {ik : IntKind} (ht : P.underlying t = some (.int ik)) : Opens enc P W t (Kd.int ik) (fun n => (Lit.int ik n).wf = true) m := by
  intro base sp hd fuel cs x _ h
  obtain ⟨n, rfl, _, hw⟩ := DataW.trod_int ht h
  exact ⟨n, rfl, hw⟩
theorem Opens.bool {t : TypeId} (ht : P.underlying t = some .bool) : Opens enc P W t Kd.bool anyb m := by
  intro base sp hd fuel cs x _ h
  obtain ⟨b, rfl, _⟩ := DataW.trod_bool ht h
  exact ⟨b, rfl, trivial⟩
theorem Opens.string {t : TypeId} (ht : P.underlying t = some .string) : Opens enc P W t Kd.string strOk m := by
  intro base sp hd fuel cs x _ h
  obtain ⟨s, rfl, _, hs⟩ := DataW.trod_string ht h
  exact ⟨s, rfl, by unfold maxLen at hs; unfold strOk; omega⟩
theorem rng_of_wf {n : Int} (h : (Lit.int .i64 n).wf = true) : rng n := by
  have h1 : IntKind.i64.min = -9223372036854775808 := by decide
  simp [Lit.wf, h1] at h
  exact h
theorem Opens.i64 {t : TypeId} (ht : P.underlying t = some (.int .i64)) : Opens enc P W t (Kd.int .i64) rng m := by
  intro base sp hd fuel cs x hf h
  obtain ⟨n, hn, hw⟩ := Opens.int (enc := enc) (m := fuel) ht base sp hd fuel cs x (Nat.le_refl _) h
  exact ⟨n, hn, rng_of_wf hw⟩
/-- A list out of what is known of each place. -/
theorem list_of {α : Type} {p : Nat → α → Prop} : ∀ n, (∀ i, i < n → ∃ y, p i y) → ∃ l : List α, l.length = n ∧ ∀ i y, l[i]? = some y → p i y
  | 0, _ => ⟨[], rfl, fun i y h => by simp at h⟩
  | n + 1, h => by
    obtain ⟨l, hl, hp⟩ := list_of n (fun i hi => h i (by omega))
    obtain ⟨y, hy⟩ := h n (by omega)
    refine ⟨l ++ [y], by simp [hl], fun i z hz => ?_⟩
    rcases Nat.lt_or_ge i n with hi | hi
    · rw [List.getElem?_append_left (by omega)] at hz
      exact hp i z hz
    · rw [List.getElem?_append_right (by omega), hl] at hz
      have : i - n = 0 := by
        rcases Nat.eq_zero_or_pos (i - n) with h0 | h0
        · exact h0
        · obtain ⟨j, hj⟩ : ∃ j, i - n = j + 1 := ⟨i - n - 1, by omega⟩
          rw [hj] at hz
          simp at hz
      have hi' : i = n := by omega
      rw [this] at hz
      injection hz with hz
      rw [hi', ← hz]
      exact hy
def fitList {α : Type} (fit : α → Prop) (l : List α) : Prop := lenOk l ∧ ∀ y, y ∈ l → fit y
theorem Opens.row {α : Type} {t e : TypeId} {d : Kd α} {fit : α → Prop} (ht : P.underlying t = some (.slice e)) (hsz : P.cellsOf e = d.sz) (hd : Opens enc P W e d fit m) :
    ∀ (base : Nat) (sp : Nat → Bool) (hd : Bool) (fuel : Nat) (cs : List Value) (x : DataW H × List MemPlace), fuel ≤ m + 1 → DataW.trod enc P W base sp hd fuel t cs = some x →
      ∃ (l : List α) (A : Option Addr) (c : Nat), cs = [.slice A l.length c] ∧ l.length ≤ c ∧ d.C W A l.length l ∧ fitList fit l := by
  intro base sp hd' fuel cs x hf h
  rcases DataW.trod_slice ht h with ⟨rfl, _⟩ | ⟨a, len, cap, elems, rest, n, hn, rfl, rfl, hb, hl, hm, hlen, hel, hsp, hns⟩
  · exact ⟨[], none, 0, rfl, Nat.le_refl _, ⟨rfl, Nat.zero_le _, fun h => absurd h (by simp)⟩, Nat.zero_le _, fun y hy => by cases hy⟩
  · have one : ∀ i, i < len → ∃ y, (∃ c, c.length = d.sz ∧ d.K W y c ∧ ∀ j u, c[j]? = some u → W.cell? (a.add (i * d.sz + j)) = some u) ∧ fit y := by
      intro i hi
      have hi' : i < elems.length := by omega
      have h1 := hel i hi
      rw [List.getElem?_eq_getElem hi'] at h1
      obtain ⟨cs', h2, h3⟩ := Option.bind_eq_some_iff.1 h1
      obtain ⟨_, hlen', hc⟩ := World.cells?_some h2
      obtain ⟨y, hK, hF⟩ := hd base sp hd' n cs' _ (by omega) h3
      refine ⟨y, ⟨cs', by rw [hlen', hsz], hK, fun j u hu => ?_⟩, hF⟩
      have hj : j < P.cellsOf e := by
        rw [← hlen']
        exact (List.getElem?_eq_some_iff.1 hu).1
      have := hc j hj
      rw [hu] at this
      rw [← this]
      congr 1
      unfold Addr.add
      by_cases h1 : i * d.sz = 0 <;> by_cases h2 : j = 0 <;> simp [h1, h2, hsz, Nat.add_assoc] <;> omega
    obtain ⟨l, hll, hp⟩ := list_of len one
    subst hll
    refine ⟨l, some a, cap, rfl, hl, ⟨rfl, by unfold maxLen at hm; omega, fun _ => ⟨a, rfl, fun j p hj => (hp j p hj).1⟩⟩, by unfold lenOk; unfold maxLen at hm; omega, fun y hy => ?_⟩
    obtain ⟨i, hi, rfl⟩ := List.getElem_of_mem hy
    exact (hp i _ (List.getElem?_eq_getElem hi)).2
theorem Opens.slice {α : Type} {t e : TypeId} {d : Kd α} {fit : α → Prop} (ht : P.underlying t = some (.slice e)) (hsz : P.cellsOf e = d.sz) (hd : Opens enc P W e d fit m) : Opens enc P W t (Kd.slice e d) (fitList fit) (m + 1) := by
  intro base sp hd' fuel cs x hf h
  obtain ⟨l, A, c, rfl, hl, hC, hF⟩ := Opens.row ht hsz hd base sp hd' fuel cs x hf h
  exact ⟨l, ⟨A, c, rfl, hl, hC⟩, hF⟩
theorem Opens.less {α : Type} {t : TypeId} {k : Kd α} {fit : α → Prop} {n : Nat} (h : Opens enc P W t k fit m) (hn : n ≤ m) : Opens enc P W t k fit n := fun base sp hd fuel cs x hf => h base sp hd fuel cs x (by omega)
theorem Opens.slice' {α : Type} {t e : TypeId} {d : Kd α} {fit : α → Prop} (ht : P.underlying t = some (.slice e)) (hsz : P.cellsOf e = d.sz) (hd : Opens enc P W e d fit m) : Opens enc P W t (Kd.slice e d) (fitList fit) m := (Opens.slice ht hsz hd).less (by omega)
/-- The fields of a struct from one on, which begin at cell off. -/
def Fields (enc : TypeId × Value → H) (P : Program) (W : World) (fs : List Field) (off : Nat) {α : Type} (k : Kd α) (fit : α → Prop) (m : Nat) : Prop :=
  ∀ (base : Nat) (sp : Nat → Bool) (hd : Bool) (fuel : Nat) (cs : List Value), fuel ≤ m → cs.length = off + k.sz → (∀ f, f ∈ fs → ∃ x, DataW.trod enc P W base sp hd fuel f.type ((cs.drop f.offset).take (P.cellsOf f.type)) = some x) → ∃ y, k.K W y (cs.drop off) ∧ fit y
theorem Fields.last {α : Type} {f : Field} {k : Kd α} {fit : α → Prop} (hs : P.cellsOf f.type = k.sz) (h : Opens enc P W f.type k fit m) : Fields enc P W [f] f.offset k fit m := by
  intro base sp hd fuel cs hf hl hx
  obtain ⟨x, hx⟩ := hx f (List.mem_singleton.2 rfl)
  rw [List.take_of_length_le (by rw [List.length_drop]; omega)] at hx
  exact h base sp hd fuel _ x hf hx
def both {α β : Type} (a : α → Prop) (b : β → Prop) (y : α × β) : Prop := a y.1 ∧ b y.2
theorem Fields.cons {α β : Type} {f : Field} {fs : List Field} {off : Nat} {a : Kd α} {b : Kd β} {fita : α → Prop} {fitb : β → Prop} (hs : P.cellsOf f.type = a.sz) (ho : off = f.offset + a.sz) (h : Opens enc P W f.type a fita m) (hr : Fields enc P W fs off b fitb m) :
    Fields enc P W (f :: fs) f.offset (Kd.pair a b) (both fita fitb) m := by
  intro base sp hd fuel cs hf hl hx
  have hl' : cs.length = f.offset + (a.sz + b.sz) := hl
  obtain ⟨x, h1⟩ := hx f (List.mem_cons_self ..)
  obtain ⟨y, hy, fy⟩ := h base sp hd fuel _ x hf h1
  obtain ⟨z, hz, fz⟩ := hr base sp hd fuel cs hf (by omega) (fun g hg => hx g (List.mem_cons_of_mem _ hg))
  refine ⟨(y, z), ⟨_, _, ?_, hy, hz⟩, fy, fz⟩
  rw [hs, ho, ← List.drop_drop]
  exact (List.take_append_drop _ _).symm
theorem Opens.struct {α β : Type} {t : TypeId} {fs : Array Field} {k : Kd α} {fit : α → Prop} {fit' : β → Prop} (f : β → α) (g : α → β) (hfg : ∀ y, f (g y) = y) (hfit : ∀ y, fit y → fit' (g y)) (ht : P.underlying t = some (.struct fs)) (hsz : P.cellsOf t = k.sz) (h : Fields enc P W fs.toList 0 k fit m) :
    Opens enc P W t (Kd.iso k f) fit' (m + 1) := by
  intro base sp hd fuel cs x hf hx
  obtain ⟨xs, n, rfl, rfl, hl, hxl, hi⟩ := DataW.trod_struct ht hx
  obtain ⟨y, hy, fy⟩ := h base sp hd n cs (by omega) (by omega) (fun fl hfl => by
    obtain ⟨i, hil, rfl⟩ := List.getElem_of_mem hfl
    have hil' : i < fs.size := by simpa using hil
    have := hi i fs[i] (by simp [hil'])
    rw [List.getElem?_eq_getElem (by omega)] at this
    exact ⟨_, by simpa using this⟩)
  refine ⟨g y, ?_, hfit y fy⟩
  show k.K W (f (g y)) cs
  rw [hfg]
  simpa using hy
/-- A type nested in itself. -/
theorem Opens.fix {α : Type} {t : TypeId} {F : Kd α → Kd α} {sz : Nat} {E : List Nat} {hs : ∀ n, (Kd.upto F sz E n).sz = sz} {hE : ∀ n q, q ∈ (Kd.upto F sz E n).E → q ∈ E} {fit : α → Prop}
    (step : ∀ n d, d.sz = sz → Opens enc P W t d fit n → Opens enc P W t (F d) fit (n + 1)) : ∀ n, Opens enc P W t (Kd.fix F sz E hs hE) fit n := by
  have key : ∀ n, Opens enc P W t (Kd.upto F sz E n) fit n := by
    intro n
    induction n with
    | zero =>
      intro base sp hd fuel cs x hf h
      obtain rfl : fuel = 0 := by omega
      simp [DataW.trod] at h
    | succ n ih => exact step n _ (hs n) ih
  intro n base sp hd fuel cs x hf h
  obtain ⟨y, hy, fy⟩ := key n base sp hd fuel cs x hf h
  exact ⟨y, ⟨n, hy⟩, fy⟩
end

end Go.Proofs.Ytnebeklmfenikaa.Open
