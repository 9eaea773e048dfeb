/- More of Go's library that the small machine takes by a contract: the place of a byte, slices.Grow. -/
import Derived.Test.YtoakhfnojbmhgaaGreatHMStd
import Derived.Lib.AppendZerosOnto
import Derived.Lib.Bytealg
set_option linter.unusedSimpArgs false
set_option linter.unusedVariables false
namespace Go.HM
open Go.RowKit Go.Lib
/-- internal/stringslite.Index, at a text of one byte that is looked for. -/
def hkIndex (args : List V) (σ : Heap) : Option (V × Heap) := match args with
  | [.str s, .str t] => if t.size = 1 then some (.int .i64 (Lib.indexByte s.data.toList (t.data.toList.headD 0)), σ) else none
  | _ => none
theorem one_byte {t : ByteArray} (h : t.size = 1) : t = ⟨#[t.data.toList.headD 0]⟩ := by
  obtain ⟨⟨l⟩⟩ := t
  have hl : l.length = 1 := h
  match l, hl with
  | [c], _ => rfl
theorem hkIndex_sound {P : Program} {f : FuncId}
    (hc : ∀ (s : ByteArray) (c : UInt8) (w : World), Calls P f #[.string s, .string ⟨#[c]⟩] w fun e w' => e = .returned (.int .i64 (Lib.indexByte s.data.toList c)) ∧ w' = w)
    {args : List V} {σ σ' : Heap} {v : V} (h : hkIndex args σ = some (v, σ')) {μ : Mu} {w : World} {vs : Array Value} (hs : Sim μ σ w) (hv : Rels μ args vs.toList) : Calls P f vs w (Post ⟨w, σ, μ, 0⟩ v σ') := by
  unfold hkIndex at h
  split at h
  · rename_i s t
    obtain ⟨y1, y2, rfl, k1, k2⟩ := rels_two' hv
    cases k1
    cases k2
    split at h
    · rename_i hh
      injection h with h
      injection h with h1 h2
      subst h1 h2
      have := hc s (t.data.toList.headD 0) w
      rw [← one_byte hh] at this
      refine this.mono ?_
      rintro e w' ⟨rfl, rfl⟩
      exact ⟨μ, hs.base 0, Rel.int _ _⟩
    · cases h
  · cases h
/-- strings.Compare. -/
def hkCompare (args : List V) (σ : Heap) : Option (V × Heap) := match args with
  | [.str s, .str t] => some (.int .i64 (Lib.compareBytes s.data.toList t.data.toList), σ)
  | _ => none
theorem hkCompare_sound {P : Program} {f : FuncId}
    (hc : ∀ (a b : ByteArray) (w : World), Calls P f #[.string a, .string b] w fun e w' => e = .returned (.int .i64 (Lib.compareBytes a.data.toList b.data.toList)) ∧ w' = w)
    {args : List V} {σ σ' : Heap} {v : V} (h : hkCompare args σ = some (v, σ')) {μ : Mu} {w : World} {vs : Array Value} (hs : Sim μ σ w) (hv : Rels μ args vs.toList) : Calls P f vs w (Post ⟨w, σ, μ, 0⟩ v σ') := by
  unfold hkCompare at h
  split at h
  · rename_i s t
    obtain ⟨y1, y2, rfl, k1, k2⟩ := rels_two' hv
    cases k1
    cases k2
    injection h with h
    injection h with h1 h2
    subst h1 h2
    refine (hc s t w).mono ?_
    rintro e w' ⟨rfl, rfl⟩
    exact ⟨μ, hs.base 0, Rel.int _ _⟩
  · cases h
/-- slices.Grow of the slice that is nil: room for n elements of esz cells, bytes bytes each; none stands in it. -/
def hkGrow (esz bytes : Nat) (args : List V) (σ : Heap) : Option (V × Heap) := match args with
  | [.nils, .int .i64 n] => if n = 0 then some (.nils, σ) else if 0 < n ∧ n.toNat * bytes ≤ 140737488355328 ∧ n.toNat ≤ 4611686018427387904 then some (.sl σ.length 0 0 false, hnew σ esz []) else none
  | _ => none
theorem grow_room {w : World} {n E : Nat} {z : Value} (hz : z.cells.size = 1) : grownCap w n 0 E * 1 ≤ ((#[] : Array Value) ++ Builtin.zeroCells z.cells n ++ Builtin.zeroCells z.cells (grownCap w n 0 E - n)).size := by
  have := grownCap_ge w n 0 E
  simp only [Array.size_append, size_zeroCells, hz]
  simp
  omega
theorem hkGrow_sound {P : Program} {f : FuncId} {esz bytes : Nat}
    (h0 : ∀ w, Calls P f #[.slice none 0 0, .int .i64 0] w fun e w' => e = .returned (.slice none 0 0) ∧ w' = w)
    (h1 : ∀ (n : Nat) (w : World), 0 < n → n * bytes ≤ 140737488355328 → n ≤ 4611686018427387904 → Calls P f #[.slice none 0 0, .int .i64 n] w fun e w' => ∃ (c : Nat) (cs : Array Value) (t : TypeId), e = .returned (.slice (some ⟨w.heap.size, 0, none⟩) 0 c) ∧ w' = w.drew.alloc (.cells cs t) ∧ c * esz ≤ cs.size)
    {args : List V} {σ σ' : Heap} {v : V} (h : hkGrow esz bytes args σ = some (v, σ')) {μ : Mu} {w : World} {vs : Array Value} (hs : Sim μ σ w) (hv : Rels μ args vs.toList) : Calls P f vs w (Post ⟨w, σ, μ, 0⟩ v σ') := by
  unfold hkGrow at h
  split at h
  · rename_i n
    obtain ⟨y1, y2, rfl, k1, k2⟩ := rels_two' hv
    cases k1
    cases k2
    split at h
    · rename_i hn
      injection h with h
      injection h with e1 e2
      subst e1 e2 hn
      refine (h0 w).mono ?_
      rintro e w' ⟨rfl, rfl⟩
      exact ⟨μ, hs.base 0, Rel.nils⟩
    · split at h
      · rename_i hn0 hh
        injection h with h
        injection h with e1 e2
        subst e1 e2
        obtain ⟨m, rfl⟩ : ∃ m : Nat, n = (m : Int) := ⟨n.toNat, by omega⟩
        rw [Int.toNat_natCast] at hh
        refine (h1 m w (by omega) hh.2.1 hh.2.2).mono ?_
        rintro e w' ⟨c, cs, t, rfl, rfl, hc⟩
        have hg : Grew w (w.drew.alloc (.cells cs t)) := (Grew.drawn w (w.drawn + 1)).trans (Grew.push w.drew (.cells cs t))
        refine ⟨_, (hs.base 0).newT hg 0 esz cs.size [] w.heap.size (Nat.le_refl _) ⟨cs, t, (0, 0), push_eq w.drew _, rfl, by simp, fun i x hx => by simp at hx, fun _ => rfl, fun hc => absurd rfl hc⟩, ?_⟩
        have hu : upd μ σ.length ⟨w.heap.size, 0, esz, cs.size⟩ σ.length = some ⟨w.heap.size, 0, esz, cs.size⟩ := by unfold upd; rw [if_pos rfl]
        have := Rel.sl (off := 0) (len := 0) (c := c) (lim := false) hu (Nat.zero_le _) (fun _ => by show 0 + c * esz ≤ cs.size; omega) (fun h => by cases h)
        simpa using this
      · cases h
  · cases h
end Go.HM
