/- A function taken by a contract: the place of the last pair with a text, by a range over slices.Backward. -/
import Derived.Test.YtoakhfnojbmhgaaGreatHMHook
import Derived.Below
set_option linter.unusedVariables false
namespace Go.HM
open Go.RowKit
/-- Cells that are pairs of a text and a number. -/
def prsL : List V → Option (List (ByteArray × Int))
  | [] => some []
  | .str s :: .int .i64 n :: cs => (prsL cs).bind fun l => some ((s, n) :: l)
  | _ => none
theorem prsL_some : ∀ {cs : List V} {l : List (ByteArray × Int)}, prsL cs = some l → cs.length = 2 * l.length ∧ ∀ (j : Nat) x, l[j]? = some x → cs[2 * j]? = some (.str x.1) ∧ cs[2 * j + 1]? = some (.int .i64 x.2)
  | [], l, h => by
    injection h with h
    subst h
    exact ⟨rfl, fun j x hx => by simp at hx⟩
  | .str s :: .int .i64 n :: cs, l, h => by
    obtain ⟨l', h1, h2⟩ := Option.bind_eq_some_iff.1 (show (prsL cs).bind _ = some l from h)
    injection h2 with h2
    subst h2
    obtain ⟨g1, g2⟩ := prsL_some h1
    refine ⟨by simp only [List.length_cons, g1]; omega, fun j x hx => ?_⟩
    cases j with
    | zero =>
      injection hx with hx
      subst hx
      exact ⟨rfl, rfl⟩
    | succ j =>
      have := g2 j x hx
      rw [show 2 * (j + 1) = 2 * j + 1 + 1 by omega]
      exact this
/-- The place of the last of the first k that has the text, or -1. -/
def lastTo (s : ByteArray) (l : List (ByteArray × Int)) : Nat → Int
  | 0 => -1
  | k + 1 => if (l[k]?).map (·.1) = some s then (k : Int) else lastTo s l k
def lastIx (s : ByteArray) (l : List (ByteArray × Int)) : Int := lastTo s l l.length
/-- The pairs stand in a block below n₀; or there are none. -/
def Prs (n₀ : Nat) (W : World) (a : Option Addr) (l : List (ByteArray × Int)) : Prop :=
  l = [] ∨ ∃ b off, a = some ⟨b, off, none⟩ ∧ b < n₀ ∧ ∀ (j : Nat) x, l[j]? = some x → W.cell? ⟨b, off + j * 2, none⟩ = some (.string x.1) ∧ W.cell? ⟨b, off + j * 2 + 1, none⟩ = some (.int .i64 x.2)
theorem Prs.below {n₀ : Nat} {A B : World} (h : Below n₀ A B) {a : Option Addr} {l : List (ByteArray × Int)} : Prs n₀ A a l → Prs n₀ B a l
  | .inl e => .inl e
  | .inr ⟨b, off, e, hb, hc⟩ => .inr ⟨b, off, e, hb, fun j x hx => ⟨(h.cell (p := ⟨b, off + j * 2, none⟩) hb).trans (hc j x hx).1, (h.cell (p := ⟨b, off + j * 2 + 1, none⟩) hb).trans (hc j x hx).2⟩⟩
def hkLast (args : List V) (σ : Heap) : Option (V × Heap) := match args with
  | [v, .str s] => (vcells σ 2 v).bind fun q => (prsL q.2).bind fun l => if q.1 ≤ 1073741824 then some (.int .i64 (lastIx s l), σ) else none
  | _ => none
theorem hkLast_sound {P : Program} {f : FuncId}
    (hc : ∀ (a : Option Addr) (c : Nat) (l : List (ByteArray × Int)) (s : ByteArray) (w : World), Prs w.heap.size w a l → l.length ≤ 1073741824 →
      Calls P f #[.slice a l.length c, .string s] w fun e w' => e = .returned (.int .i64 (lastIx s l)) ∧ Below w.heap.size w w')
    {args : List V} {σ σ' : Heap} {v : V} (h : hkLast args σ = some (v, σ')) {μ : Mu} {w : World} {vs : Array Value} (hs : Sim μ σ w) (hv : Rels μ args vs.toList) : Calls P f vs w (Post ⟨w, σ, μ, 0⟩ v σ') := by
  unfold hkLast at h
  split at h
  · rename_i v0 s
    obtain ⟨y1, y2, rfl, k1, k2⟩ := rels_two' hv
    cases k2
    obtain ⟨q, g1, h⟩ := Option.bind_eq_some_iff.1 h
    obtain ⟨l, g2, h⟩ := Option.bind_eq_some_iff.1 h
    split at h
    · rename_i hh
      injection h with h
      injection h with h1 h2
      subst h1 h2
      have fin : ∀ {a : Option Addr} {n c : Nat}, l.length = n → n ≤ 1073741824 → Prs w.heap.size w a l → Calls P f #[.slice a n c, .string s] w (Post ⟨w, σ, μ, 0⟩ (.int .i64 (lastIx s l)) σ) := by
        intro a n c hn hb hp
        subst hn
        refine (hc a c l s w hp hb).mono ?_
        rintro e w' ⟨rfl, hb⟩
        exact ⟨μ, (hs.base 0).grew ⟨hb.os, hb.tape, hb.output, hb.size, hb.block⟩, Rel.int _ _⟩
      obtain ⟨p1, p2⟩ := prsL_some g2
      unfold vcells at g1
      split at g1
      · rename_i r o n lim
        obtain ⟨cs, r0, g1⟩ := Option.bind_eq_some_iff.1 g1
        injection g1 with g1
        subst g1
        obtain ⟨M, c, hM, rfl, hnc⟩ := rel_sl k1
        obtain ⟨row, r1, r2, r3⟩ := rdc_some r0
        have hlen : l.length = n := by
          have : cs.length = n * 2 := by rw [r3, List.length_take, List.length_drop]; omega
          simp only at p1
          omega
        obtain ⟨M', m1, m2, m3, m4⟩ := hs.live r row r1
        rw [hM] at m1
        injection m1 with m1
        subst m1
        obtain ⟨cur, t, fz, t1, t2, t3, t4, _⟩ := m3
        refine fin hlen hh (.inr ⟨M.block, M.base + o, rfl, hs.block_lt r1 hM, fun j x hx => ?_⟩)
        have hj : j < n := by rw [← hlen]; exact (List.getElem?_eq_some_iff.1 hx).1
        obtain ⟨h5, h6⟩ := p2 j x hx
        simp only at h5 h6
        rw [r3, List.getElem?_take, if_pos (by omega), List.getElem?_drop] at h5 h6
        obtain ⟨y, y1, y2, _⟩ := t4 _ _ h5
        obtain ⟨z, z1, z2, _⟩ := t4 _ _ h6
        cases y2
        cases z2
        simp only [World.cell?, t1]
        rw [show M.base + o + j * 2 = M.base + (o + 2 * j) by omega, show M.base + (o + 2 * j) + 1 = M.base + (o + (2 * j + 1)) by omega]
        exact ⟨y1, z1⟩
      · injection g1 with g1
        subst g1
        cases k1
        obtain rfl : l = [] := List.eq_nil_of_length_eq_zero (by simp at p1; omega)
        exact fin rfl hh (.inl rfl)
      · injection g1 with g1
        subst g1
        cases k1
        obtain rfl : l = [] := List.eq_nil_of_length_eq_zero (by simp at p1; omega)
        exact fin rfl hh (.inl rfl)
      · cases g1
    · cases h
  · cases h
end Go.HM
