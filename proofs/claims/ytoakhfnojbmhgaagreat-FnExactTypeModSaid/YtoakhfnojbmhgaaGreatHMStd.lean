/- What strings.Join, strconv.Itoa and strconv.Atoi do, by the shelf's contracts. -/
import Derived.Test.YtoakhfnojbmhgaaGreatHMBuild
import Derived.Test.YtoakhfnojbmhgaaGreatHMDoor
import Derived.Lib.ItoaNum
import Derived.Lib.Join
import Derived.Lib.AtoiAll
import Derived.Lib.AtoiTie
import Derived.Lib.LaidTab
import Derived.Sort.Grow
import Derived.Below
import Derived.Lib.AtoiErrMem
set_option linter.unusedSimpArgs false
set_option linter.unusedVariables false
namespace Go.HM
open Classical Go.RowKit
/-- What a package variable's cells are. -/
theorem var_cells {P : Program} {μ : Mu} {σ : Heap} {w : World} (h : Sim μ σ w) {nm : String} {g : Nat} (hg : P.globalNamed nm = some g) (hlt : g < 64) {row : Row} (hr : σ[g]? = some (some row)) :
    ∃ cs : Array Value, w.var? P nm = some cs ∧ cs.size = row.cells.length ∧ ∀ (i : Nat) x, row.cells[i]? = some x → ∃ y, cs[i]? = some y ∧ Rel μ x y := by
  obtain ⟨L, l1, l2, l3⟩ := h.glob g hlt
  obtain ⟨e1, e2⟩ := h.exact g row L hlt hr l1
  obtain ⟨M, m1, m2, m3, m4⟩ := h.live g row hr
  rw [l1] at m1
  injection m1 with m1
  subst m1
  obtain ⟨cs, t, fz, k1, k2, k3, k4, _⟩ := m3
  rw [l2] at k1
  refine ⟨cs, ?_, by rw [k2, e2], fun i x hx => ?_⟩
  · unfold World.var?
    rw [hg]
    simp only [Option.bind_some, k1]
  · obtain ⟨y, y1, y2, _⟩ := k4 i x hx
    rw [l3, Nat.zero_add] at y1
    exact ⟨y, y1, y2⟩
theorem tab_is {P : Program} {μ : Mu} {σ : Heap} {w : World} (h : Sim μ σ w) {nm : String} {g : Nat} (hg : P.globalNamed nm = some g) (hlt : g < 64) {k : IntKind} {zs : List Int} {esz ty : Nat} {ro : Bool}
    (hr : σ[g]? = some (some ⟨zs.map fun z => .int k z, esz, ro, ty⟩)) : Lib.TabIs P w nm k zs := by
  obtain ⟨cs, h1, h2, h3⟩ := var_cells h hg hlt hr
  unfold Lib.TabIs
  rw [h1]
  congr 1
  apply Array.ext
  · rw [h2]; simp
  · intro i hi hi'
    have hz : zs[i]? = some (zs[i]'(by simpa using hi')) := List.getElem?_eq_getElem _
    obtain ⟨y, y1, y2⟩ := h3 i (.int k (zs[i]'(by simpa using hi'))) (by show (zs.map _)[i]? = _; rw [List.getElem?_map, hz]; rfl)
    cases y2
    rw [Array.getElem?_eq_getElem hi] at y1
    injection y1 with y1
    rw [y1]
    simp
theorem iface_is {P : Program} {μ : Mu} {σ : Heap} {w : World} (h : Sim μ σ w) {nm : String} {g : Nat} (hg : P.globalNamed nm = some g) (hlt : g < 64) {tp : TypeId} {x : V} {esz ty : Nat} {ro : Bool}
    (hr : σ[g]? = some (some ⟨[.iface tp x], esz, ro, ty⟩)) : ∃ p, w.var? P nm = some #[.iface tp p] := by
  obtain ⟨cs, h1, h2, h3⟩ := var_cells h hg hlt hr
  obtain ⟨y, y1, y2⟩ := h3 0 _ rfl
  cases y2 with
  | iface hp =>
    rename_i p
    refine ⟨p, ?_⟩
    rw [h1]
    congr 1
    apply Array.ext
    · rw [h2]; rfl
    · intro i hi hi'
      simp at hi'
      subst hi'
      rw [Array.getElem?_eq_getElem hi] at y1
      injection y1 with y1
theorem Grew.below {w w' : World} (h : Below w.heap.size w w') : Grew w w' := ⟨h.os, h.tape, h.output, h.size, h.block⟩
theorem Grew.grow (w : World) (k : Nat) (os : Array Obj) : Grew w (Sort.grow (w.drewN k) os) := ⟨rfl, rfl, rfl, by simp [Sort.grow, World.drewN], fun b hb => by
  show (w.heap ++ os)[b]? = _
  rw [Array.getElem?_append_left hb]⟩
theorem rels_two' {μ : Mu} {x1 x2 : V} {vs : Array Value} (h : Rels μ [x1, x2] vs.toList) : ∃ y1 y2, vs = #[y1, y2] ∧ Rel μ x1 y1 ∧ Rel μ x2 y2 := by
  obtain ⟨h1, h2⟩ := h
  obtain ⟨l⟩ := vs
  match l, h1 with
  | [y1, y2], _ => exact ⟨y1, y2, rfl, h2 0 x1 y1 rfl rfl, h2 1 x2 y2 rfl rfl⟩
/-- strconv.Itoa, where the variable g holds the table of the powers of ten. -/
noncomputable def hkItoa (g : Nat) (args : List V) (σ : Heap) : Option (V × Heap) := match args with
  | [.int .i64 n] => if (-9223372036854775808 ≤ n ∧ n ≤ 9223372036854775807) ∧ σ[g]? = some (some ⟨Lib.pow10Tab.map fun z => .int .u64 z, 1, true, 0⟩) then some (.str ⟨(Lib.itoa n).toArray⟩, σ) else none
  | _ => none
theorem hkItoa_sound {P : Program} {f : FuncId} {g : Nat} (hg : P.globalNamed "internal/strconv.uint64pow10" = some g) (hlt : g < 64)
    (hc : ∀ (n : Int), -9223372036854775808 ≤ n → n ≤ 9223372036854775807 → ∀ w, Lib.TabIs P w "internal/strconv.uint64pow10" .u64 Lib.pow10Tab → Calls P f #[.int .i64 n] w fun e w' => e = .returned (.string ⟨(Lib.itoa n).toArray⟩) ∧ ∃ k os, w' = Sort.grow (w.drewN k) os)
    {args : List V} {σ σ' : Heap} {v : V} (h : hkItoa g args σ = some (v, σ')) {μ : Mu} {w : World} {vs : Array Value} (hs : Sim μ σ w) (hv : Rels μ args vs.toList) : Calls P f vs w (Post ⟨w, σ, μ, 0⟩ v σ') := by
  unfold hkItoa at h
  split at h
  · obtain ⟨y, rfl, hy⟩ := rels_one' hv
    cases hy
    split at h
    · rename_i n hh
      injection h with h
      injection h with h1 h2
      subst h1 h2
      refine (hc n hh.1.1 hh.1.2 w (tab_is hs hg hlt hh.2)).mono ?_
      rintro e w' ⟨rfl, k, os, rfl⟩
      exact ⟨μ, (hs.base 0).grew (Grew.grow _ _ _), Rel.str _⟩
    · cases h
  · cases h
/-- Cells that are texts. -/
def strL : List V → Option (List ByteArray)
  | [] => some []
  | .str s :: cs => (strL cs).bind fun l => some (s :: l)
  | _ => none
theorem strL_some : ∀ {cs : List V} {l : List ByteArray}, strL cs = some l → cs = l.map fun s => V.str s
  | [], _, h => by injection h with h; subst h; rfl
  | .str s :: cs, l, h => by
    obtain ⟨l', h1, h2⟩ := Option.bind_eq_some_iff.1 (show (strL cs).bind _ = some l from h)
    injection h2 with h2
    rw [← h2, List.map_cons, ← strL_some h1]
theorem strL_map : ∀ l : List ByteArray, strL (l.map fun s => V.str s) = some l
  | [] => rfl
  | s :: l => by rw [List.map_cons, strL, strL_map l]; rfl
/-- strings.Join. -/
def hkJoin (args : List V) (σ : Heap) : Option (V × Heap) := match args with
  | [.nils, .str _] => some (.str ⟨#[]⟩, σ)
  | [.emp, .str _] => some (.str ⟨#[]⟩, σ)
  | [.sl r o n _, .str sep] => (rdc σ r o n).bind fun cs => (strL cs).bind fun xs => if n ≤ 140737488355328 ∧ (Lib.join (xs.map (·.data.toList)) sep.data.toList).length ≤ 140737488355328 then some (.str ⟨(Lib.join (xs.map (·.data.toList)) sep.data.toList).toArray⟩, σ) else none
  | _ => none
theorem hkJoin_sound {P : Program} {f : FuncId}
    (h0 : ∀ (a : Option Addr) (c : Nat) (sep : ByteArray) (w : World), Calls P f #[.slice a 0 c, .string sep] w fun e w' => e = .returned (.string ⟨#[]⟩) ∧ w' = w)
    (hc : ∀ (bk o c : Nat) (xs : List ByteArray) (sep : ByteArray) (w : World), (∀ (j : Nat) x, xs[j]? = some x → w.cell? ⟨bk, o + j, none⟩ = some (.string x)) → bk < w.heap.size → xs.length ≤ 140737488355328 → xs.length ≤ c → (Lib.join (xs.map (·.data.toList)) sep.data.toList).length ≤ 140737488355328 →
      Calls P f #[.slice (some ⟨bk, o, none⟩) xs.length c, .string sep] w fun e w' => e = .returned (.string ⟨(Lib.join (xs.map (·.data.toList)) sep.data.toList).toArray⟩) ∧ Below w.heap.size w w')
    {args : List V} {σ σ' : Heap} {v : V} (h : hkJoin args σ = some (v, σ')) {μ : Mu} {w : World} {vs : Array Value} (hs : Sim μ σ w) (hv : Rels μ args vs.toList) : Calls P f vs w (Post ⟨w, σ, μ, 0⟩ v σ') := by
  unfold hkJoin at h
  split at h
  · obtain ⟨y1, y2, rfl, k1, k2⟩ := rels_two' hv
    cases k1
    cases k2
    injection h with h
    injection h with h1 h2
    subst h1 h2
    refine (h0 _ _ _ w).mono ?_
    rintro e w' ⟨rfl, rfl⟩
    exact ⟨μ, hs.base 0, Rel.str _⟩
  · obtain ⟨y1, y2, rfl, k1, k2⟩ := rels_two' hv
    cases k1
    cases k2
    injection h with h
    injection h with h1 h2
    subst h1 h2
    refine (h0 _ _ _ w).mono ?_
    rintro e w' ⟨rfl, rfl⟩
    exact ⟨μ, hs.base 0, Rel.str _⟩
  · rename_i r o n lim sep
    obtain ⟨y1, y2, rfl, k1, k2⟩ := rels_two' hv
    obtain ⟨M, c, hM, rfl, hnc⟩ := rel_sl k1
    cases k2
    obtain ⟨cs, g1, h⟩ := Option.bind_eq_some_iff.1 h
    obtain ⟨xs, g2, h⟩ := Option.bind_eq_some_iff.1 h
    split at h
    · rename_i hh
      injection h with h
      injection h with h1 h2
      subst h1 h2
      have hcs := strL_some g2
      obtain ⟨row, r1, r2, r3⟩ := rdc_some g1
      have hlen : xs.length = n := by
        have : cs.length = n := by rw [r3, List.length_take, List.length_drop]; omega
        rw [hcs, List.length_map] at this
        exact this
      obtain ⟨M', m1, m2, m3, m4⟩ := hs.live r row r1
      rw [hM] at m1
      injection m1 with m1
      subst m1
      obtain ⟨cur, t, fz, t1, t2, t3, t4, _⟩ := m3
      have := hc M.block (M.base + o) c xs sep w (fun j x hx => by
        have h5 : cs[j]? = some (.str x) := by rw [hcs, List.getElem?_map, hx]; rfl
        have hj : j < n := by rw [← hlen]; exact (List.getElem?_eq_some_iff.1 hx).1
        rw [r3, List.getElem?_take, if_pos hj, List.getElem?_drop] at h5
        obtain ⟨y, y1, y2, _⟩ := t4 (o + j) _ h5
        cases y2
        simp only [World.cell?, t1]
        rw [Nat.add_assoc]
        exact y1) (hs.block_lt r1 hM) (by omega) (by omega) hh.2
      rw [hlen] at this
      refine this.mono ?_
      rintro e w' ⟨rfl, hb⟩
      exact ⟨μ, (hs.base 0).grew (Grew.below hb), Rel.str _⟩
    · cases h
  · cases h
/-- strconv.Atoi: gs, gr the variables of its two errors, T the type of its error. -/
noncomputable def hkAtoi (gs gr T : Nat) (args : List V) (σ : Heap) : Option (V × Heap) := match args with
  | [.str s] => if s.size ≤ 281474976710656 then (match Lib.atoiAll s.data.toList with
    | .ok n => some (.tuple [.int .i64 n, .nili], σ)
    | .range => if ∃ tp x, σ[gr]? = some (some ⟨[.iface tp x], 1, true, 0⟩) then some (.tuple [.int .i64 (Lib.atoiSat s.data.toList), .iface T (.ptr σ.length 0)], hnew σ 3 []) else none
    | _ => if ∃ tp x, σ[gs]? = some (some ⟨[.iface tp x], 1, true, 0⟩) then some (.tuple [.int .i64 0, .iface T (.ptr σ.length 0)], hnew σ 3 []) else none) else none
  | _ => none
theorem rel_pair {μ : Mu} {x1 x2 : V} {y1 y2 : Value} (h1 : Rel μ x1 y1) (h2 : Rel μ x2 y2) : Rel μ (.tuple [x1, x2]) (.tuple #[y1, y2]) := .tuple rfl fun i x y hx hy => by
  match i, hx, hy with
  | 0, hx, hy => injection hx with hx; injection hy with hy; subst hx hy; exact h1
  | 1, hx, hy => injection hx with hx; injection hy with hy; subst hx hy; exact h2
theorem err_post {μ : Mu} {σ : Heap} {w w' : World} (hs : Sim μ σ w) {N T t : Nat} {n : Int} {cs : Array Value} (hN : w.heap.size ≤ N) (hc : w'.heap[N]? = some (.cells cs t (0, 0))) (hb : Below w.heap.size w w') :
    Post ⟨w, σ, μ, 0⟩ (.tuple [.int .i64 n, .iface T (.ptr σ.length 0)]) (hnew σ 3 []) (.returned (.tuple #[.int .i64 n, .iface T (.pointer (some ⟨N, 0, none⟩))])) w' := by
  refine ⟨_, (hs.base 0).newT (Grew.below hb) 0 3 cs.size [] N hN ⟨cs, t, (0, 0), hc, rfl, by simp, fun i x hx => by simp at hx, fun _ => rfl, fun hc => absurd rfl hc⟩, rel_pair (.int _ _) (.iface ?_)⟩
  have h1 : upd μ σ.length ⟨N, 0, 3, cs.size⟩ σ.length = some ⟨N, 0, 3, cs.size⟩ := by unfold upd; rw [if_pos rfl]
  have := Rel.ptr (off := 0) h1
  exact this
theorem hkAtoi_sound {P : Program} {f : FuncId} {gs gr T : Nat} (hgs : P.globalNamed "strconv.ErrSyntax" = some gs) (hls : gs < 64) (hgr : P.globalNamed "strconv.ErrRange" = some gr) (hlr : gr < 64) {tB tN : TypeId}
    (c1 : ∀ (s : ByteArray), s.size ≤ 9223372036854775806 → ∀ (v : Int), Lib.atoiAll s.data.toList = .ok v → ∀ w, Calls P f #[.string s] w fun e w' => e = .returned (.tuple #[.int .i64 v, .nilIface]) ∧ (w' = w ∨ ∃ t, w' = Lib.bytesWorld w tB t))
    (c2 : ∀ (s : ByteArray), s.size ≤ 281474976710656 → Lib.atoiAll s.data.toList = Lib.NumEnd.ofOption none → ∀ (tp : TypeId) (p : Value) (w : World), w.var? P "strconv.ErrSyntax" = some #[.iface tp p] → Calls P f #[.string s] w fun e w' => ∃ N, e = .returned (.tuple #[.int .i64 0, .iface T (.pointer (some ⟨N, 0, none⟩))]) ∧ w.heap.size ≤ N ∧ w'.heap[N]? = some (.cells #[.string ⟨#[65, 116, 111, 105]⟩, .string s, .iface tp p] tN (0, 0)) ∧ Below w.heap.size w w')
    (c3 : ∀ (s : ByteArray), s.size ≤ 281474976710656 → Lib.atoiAll s.data.toList = .range → ∀ (tp : TypeId) (p : Value) (w : World), w.var? P "strconv.ErrRange" = some #[.iface tp p] → Calls P f #[.string s] w fun e w' => ∃ N, e = .returned (.tuple #[.int .i64 (Lib.atoiSat s.data.toList), .iface T (.pointer (some ⟨N, 0, none⟩))]) ∧ w.heap.size ≤ N ∧ w'.heap[N]? = some (.cells #[.string ⟨#[65, 116, 111, 105]⟩, .string s, .iface tp p] tN (0, 0)) ∧ Below w.heap.size w w')
    {args : List V} {σ σ' : Heap} {v : V} (h : hkAtoi gs gr T args σ = some (v, σ')) {μ : Mu} {w : World} {vs : Array Value} (hs : Sim μ σ w) (hv : Rels μ args vs.toList) : Calls P f vs w (Post ⟨w, σ, μ, 0⟩ v σ') := by
  unfold hkAtoi at h
  split at h
  · obtain ⟨y, rfl, hy⟩ := rels_one' hv
    cases hy
    rename_i s
    split at h
    · rename_i hsz
      split at h
      · rename_i n hn
        injection h with h
        injection h with h1 h2
        subst h1 h2
        refine (c1 s (by omega) n hn w).mono ?_
        rintro e w' ⟨rfl, hw⟩
        refine ⟨μ, (hs.base 0).grew ?_, rel_pair (.int _ _) .nili⟩
        rcases hw with rfl | ⟨t, rfl⟩
        · exact Grew.refl _
        · exact Grew.below (Lib.bytesWorld_below _ _ _)
      · rename_i hn
        split at h
        · rename_i hx
          obtain ⟨tp, x, hx⟩ := hx
          obtain ⟨p, hp⟩ := iface_is hs hgr hlr hx
          injection h with h
          injection h with h1 h2
          subst h1 h2
          refine (c3 s hsz hn tp p w hp).mono ?_
          rintro e w' ⟨N, rfl, n1, n2, n3⟩
          exact err_post hs n1 n2 n3
        · cases h
      · rename_i hn1 hn2
        have hn : Lib.atoiAll s.data.toList = Lib.NumEnd.ofOption none := by
          cases he : Lib.atoiAll s.data.toList with
          | ok n => exact absurd he (hn1 n)
          | range => exact absurd he hn2
          | _ => rfl
        split at h
        · rename_i hx
          obtain ⟨tp, x, hx⟩ := hx
          obtain ⟨p, hp⟩ := iface_is hs hgs hls hx
          injection h with h
          injection h with h1 h2
          subst h1 h2
          refine (c2 s hsz hn tp p w hp).mono ?_
          rintro e w' ⟨N, rfl, n1, n2, n3⟩
          exact err_post hs n1 n2 n3
        · cases h
    · cases h
  · cases h
end Go.HM
