/- The contracts of this claim, laid together: part 0. -/
import Derived.Test.YthcinellhbmcoaaGreatEF0
import Derived.Test.YthcinellhbmcoaaGreatEF1
import Derived.Test.YthcinellhbmcoaaGreatEF2
import Derived.Test.YthcinellhbmcoaaGreatEF3
import Derived.Test.YthcinellhbmcoaaGreatEF4
import Derived.Test.YthcinellhbmcoaaGreatEF5
import Derived.Test.YthcinellhbmcoaaGreatC
import Derived.Test.YthcinellhbmcoaaGreatHMIdx
import Derived.Lib.Bytealg
import Derived.Test.YthcinellhbmcoaaGreatEG
import Derived.Test.YthcinellhbmcoaaGreatHMLeaf
import Derived.Test.YthcinellhbmcoaaGreatHMOwn
import Derived.Test.YthcinellhbmcoaaGreatK
import Derived.Test.YthcinellhbmcoaaGreatHMHook
import Derived.Test.YthcinellhbmcoaaGreatHMLoop
/- The order of texts, and lists that are sorted: plain. -/
set_option linter.unusedVariables false
set_option linter.unusedSimpArgs false
namespace Go.Y
open Go.HM Go.Proofs
theorem blt_irrefl : ∀ x : List UInt8, Op.bytesLess x x = false
  | [] => rfl
  | a :: x => by
    rw [Op.bytesLess, blt_irrefl x]
    simp
theorem blt_trans : ∀ x y z : List UInt8, Op.bytesLess x y = true → Op.bytesLess y z = true → Op.bytesLess x z = true
  | _, [], _, h, _ => by simp [Op.bytesLess] at h
  | _, _ :: _, [], _, h => by simp [Op.bytesLess] at h
  | [], _ :: _, _ :: _, _, _ => rfl
  | a :: x, b :: y, c :: z, h, g => by
    simp only [Op.bytesLess, Bool.or_eq_true, decide_eq_true_eq, Bool.and_eq_true, beq_iff_eq] at h g ⊢
    rcases h with h | ⟨rfl, h⟩
    · rcases g with g | ⟨rfl, g⟩
      · exact .inl (UInt8.lt_trans h g)
      · exact .inl h
    · rcases g with g | ⟨rfl, g⟩
      · exact .inl g
      · exact .inr ⟨rfl, blt_trans x y z h g⟩
theorem blt_tri : ∀ x y : List UInt8, Op.bytesLess x y = false → Op.bytesLess y x = false → x = y
  | [], [], _, _ => rfl
  | [], _ :: _, h, _ => by simp [Op.bytesLess] at h
  | _ :: _, [], _, h => by simp [Op.bytesLess] at h
  | a :: x, b :: y, h, g => by
    simp only [Op.bytesLess, Bool.or_eq_false_iff, decide_eq_false_iff_not, Bool.and_eq_false_iff] at h g
    have hab : a = b := UInt8.le_antisymm (UInt8.not_lt.1 g.1) (UInt8.not_lt.1 h.1)
    subst hab
    rw [blt_tri x y (h.2.resolve_left (by simp)) (g.2.resolve_left (by simp))]
theorem cmp_neg : ∀ x y : List UInt8, decide (Lib.compareBytes x y < 0) = Op.bytesLess x y
  | [], [] => rfl
  | [], _ :: _ => rfl
  | _ :: _, [] => rfl
  | a :: x, b :: y => by
    unfold Lib.compareBytes
    rw [Op.bytesLess]
    by_cases h : a < b
    · simp [h]
    · rw [if_neg h]
      by_cases g : b < a
      · have : a ≠ b := fun hc => by subst hc; exact h g
        simp [h, g, this]
      · have hab : a = b := UInt8.le_antisymm (UInt8.not_lt.1 g) (UInt8.not_lt.1 h)
        subst hab
        rw [if_neg h, cmp_neg x y]
        simp
theorem cmp_small : ∀ x y : List UInt8, -1 ≤ Lib.compareBytes x y ∧ Lib.compareBytes x y ≤ 1
  | [], [] => by decide
  | [], _ :: _ => ⟨by simp [Lib.compareBytes], by simp [Lib.compareBytes]⟩
  | _ :: _, [] => ⟨by simp [Lib.compareBytes], by simp [Lib.compareBytes]⟩
  | a :: x, b :: y => by
    unfold Lib.compareBytes
    split
    · omega
    · split
      · omega
      · exact cmp_small x y
/-- One name ahead of another. -/
def Lt (x y : FaceSig) : Prop := Op.bytesLess x.name.toList y.name.toList = true
theorem Lt.irr (x : FaceSig) : ¬ Lt x x := fun h => by unfold Lt at h; rw [blt_irrefl] at h; cases h
theorem Lt.tr {x y z : FaceSig} (h : Lt x y) (g : Lt y z) : Lt x z := blt_trans _ _ _ h g
theorem Lt.tri {x y : FaceSig} (h : ¬ Lt x y) (hn : x.name ≠ y.name) : Lt y x := by
  unfold Lt at h ⊢
  cases hb : Op.bytesLess y.name.toList x.name.toList with
  | true => rfl
  | false =>
    refine absurd ?_ hn
    have he := blt_tri _ _ (by simpa using h) hb
    rw [ByteArray.toList_eq, ByteArray.toList_eq] at he
    generalize x.name = a at he
    generalize y.name = b at he
    obtain ⟨⟨a⟩⟩ := a
    obtain ⟨⟨b⟩⟩ := b
    simp at he
    rw [he]
theorem sorted_unique : ∀ {l k : List FaceSig}, l.Pairwise Lt → k.Pairwise Lt → l.Perm k → l = k
  | [], k, _, _, hp => by rw [List.nil_perm.1 hp]
  | a :: l', k, hl, hk, hp => by
    match k, hk, hp with
    | [], _, hp => exact absurd hp.length_eq (by simp)
    | b :: bs, hk, hp =>
      have hab : a = b := by
        have h1 : a ∈ b :: bs := hp.mem_iff.1 (List.mem_cons_self ..)
        have h2 : b ∈ a :: l' := hp.mem_iff.2 (List.mem_cons_self ..)
        rcases List.mem_cons.1 h1 with h | h
        · exact h
        · rcases List.mem_cons.1 h2 with g | g
          · exact g.symm
          · exact absurd (((List.pairwise_cons.1 hk).1 a h).tr ((List.pairwise_cons.1 hl).1 b g)) (Lt.irr b)
      subst hab
      rw [sorted_unique (List.pairwise_cons.1 hl).2 (List.pairwise_cons.1 hk).2 ((List.perm_cons a).1 hp)]
/-- A line put where it belongs. -/
def insAt (s : FaceSig) : List FaceSig → List FaceSig
  | [] => [s]
  | x :: l => if Op.bytesLess x.name.toList s.name.toList = true then x :: insAt s l else s :: x :: l
theorem insAt_perm (s : FaceSig) : ∀ l, (insAt s l).Perm (s :: l)
  | [] => .refl _
  | x :: l => by
    rw [insAt]
    split
    · exact ((insAt_perm s l).cons x).trans (.swap s x l)
    · exact .refl _
theorem insAt_sorted {s : FaceSig} : ∀ {l : List FaceSig}, l.Pairwise Lt → (∀ x, x ∈ l → x.name ≠ s.name) → (insAt s l).Pairwise Lt
  | [], _, _ => by simp [insAt]
  | x :: l, h, hn => by
    obtain ⟨h1, h2⟩ := List.pairwise_cons.1 h
    rw [insAt]
    split
    · rename_i hx
      refine List.pairwise_cons.2 ⟨fun y hy => ?_, insAt_sorted h2 fun y hy => hn y (List.mem_cons_of_mem _ hy)⟩
      rcases List.mem_cons.1 ((insAt_perm s l).mem_iff.1 hy) with rfl | hy
      · exact hx
      · exact h1 y hy
    · rename_i hx
      have hsx : Lt s x := Lt.tri (x := x) (y := s) hx (hn x (List.mem_cons_self ..))
      refine List.pairwise_cons.2 ⟨fun y hy => ?_, h⟩
      rcases List.mem_cons.1 hy with rfl | hy
      · exact hsx
      · exact hsx.tr (h1 y hy)
theorem insAt_split (s : FaceSig) : ∀ (l : List FaceSig) (k : Nat), k ≤ l.length → (∀ (j : Nat) x, j < k → l[j]? = some x → Op.bytesLess x.name.toList s.name.toList = true) → (∀ x, l[k]? = some x → Op.bytesLess x.name.toList s.name.toList = false) → insAt s l = l.take k ++ s :: l.drop k
  | [], k, hk, _, _ => by simp at hk; subst hk; rfl
  | x :: l, 0, _, _, h => by rw [insAt, if_neg (by rw [h x rfl]; simp)]; rfl
  | x :: l, k + 1, hk, h1, h2 => by
    rw [insAt, if_pos (h1 0 x (by omega) rfl), insAt_split s l k (by simpa using hk) (fun j y hj hy => h1 (j + 1) y (by omega) (by simpa using hy)) (fun y hy => h2 y (by simpa using hy))]
    rfl
def sortL (l : List FaceSig) : List FaceSig := l.foldl (fun acc s => insAt s acc) []
theorem sortL_ok : ∀ (l acc : List FaceSig), acc.Pairwise Lt → ((acc ++ l).map (·.name)).Nodup → (l.foldl (fun acc s => insAt s acc) acc).Pairwise Lt ∧ (l.foldl (fun acc s => insAt s acc) acc).Perm (acc ++ l)
  | [], acc, h, _ => ⟨h, by simp⟩
  | s :: l, acc, h, hn => by
    have hn0 := hn
    rw [List.map_append, List.nodup_append] at hn
    have hns : ∀ x, x ∈ acc → x.name ≠ s.name := fun x hx => hn.2.2 _ (List.mem_map_of_mem hx) _ (by simp)
    have hp := insAt_perm s acc
    have hperm : (insAt s acc ++ l).Perm (acc ++ s :: l) := (hp.append_right l).trans (by simpa using (List.perm_middle (a := s) (l₁ := acc) (l₂ := l)).symm)
    obtain ⟨h1, h2⟩ := sortL_ok l (insAt s acc) (insAt_sorted h hns) ((hperm.map (·.name)).nodup_iff.2 hn0)
    exact ⟨h1, h2.trans hperm⟩
theorem sortL_sorted {l : List FaceSig} (h : (l.map (·.name)).Nodup) : (sortL l).Pairwise Lt ∧ (sortL l).Perm l := by
  have := sortL_ok l [] List.Pairwise.nil (by simpa using h)
  simpa [sortL] using this
end Go.Y

/- The text of a mark. -/
set_option linter.unusedVariables false
set_option linter.unusedSimpArgs false
namespace Go.Y
open Go.HM Go.Proofs
theorem markText_runs (σ : Heap) {n : Nat} (h1 : 1 ≤ n) (h2 : n ≤ 1099511627776) : Runs G n_laws_markText [.int .i64 (n : Int)] σ (.str (mText n)) σ := by
  have e62 : (2 : Nat) ^ 62 = 4611686018427387904 := by decide
  refine Runs.of (W.to (fun k _ => laws_markText.eq k _ _) ?_)
  refine W.ite (fun h => absurd h (by omega)) fun _ => ?_
  refine W.loop (S := Nat × ByteArray) (fun s => s.2.size + s.1 ≤ n ∧ mDig s.1 s.2 = mDig n ⟨#[]⟩) (fun s => [.v (.int .i64 (s.1 : Int)), .v (.str s.2)]) (fun _ => σ) (fun s => s.1) (fun ⟨m, s⟩ ⟨hs, hd⟩ => ?_)
    (n, ⟨#[]⟩) ⟨Nat.le_of_eq (by show 0 + n = n; omega), rfl⟩
  simp only at hs hd ⊢
  refine W.to (fun k _ => by rw [laws_markText.L0_step]) ?_
  refine B.ite (fun h0 => ?_) fun h0 => ?_
  · have hm : m ≠ 0 := by omega
    have hb : bytesOf [.int .u8 (IntKind.wrap .u8 (IntKind.wrap .i64 (48 + Int.tmod (m : Int) 10)))] .empty = some (mByte m) := rfl
    refine B.bind hb ?_
    have hsz : (mByte m).size = 1 := rfl
    refine B.iff (fun hx => ?_) fun hx => absurd (by rw [hsz, e62]; omega) hx
    have hdiv : IntKind.wrap .i64 (Int.tdiv (m : Int) 10) = ((m / 10 : Nat) : Int) := by
      have : Int.tdiv (m : Int) 10 = ((m / 10 : Nat) : Int) := rfl
      rw [this, wrap_id (by omega) (by omega)]
    refine W.again (m / 10, mByte m ++ s) ⟨?_, ?_⟩ (by simp only; omega) (by rw [hdiv]) rfl
    · simp only [ByteArray.size_append, hsz]; omega
    · simp only
      rw [← hd]
      conv => rhs; rw [mDig, dif_neg hm]
  · have hm : m = 0 := by omega
    try simp only [q_bind_some, castInt_int, q_castBool, q_castStr, q_castPtr, q_castFn, q_castAgg, q_castTuple, q_uncons, q_isNil, q_sl, q_nils, q_emp, q_ptr, q_nilp, q_fn, q_cond_true, q_cond_false, Bool.not_true, Bool.not_false, decide_true, decide_false, List.cons_append, List.nil_append, laws_markText.A0_x0]
    have hsz : (⟨#[109]⟩ : ByteArray).size = 1 := rfl
    refine W.iff (fun hx => W.ret ⟨?_, rfl⟩) fun hx => absurd (by rw [hsz, e62]; omega) hx
    rw [mText, ← hd, hm, mDig, dif_pos rfl]
end Go.Y

/- The places of marks, and what marks and looks at them. -/
set_option linter.unusedVariables false
set_option linter.unusedSimpArgs false
namespace Go.Y
open Go.HM Go.Proofs
def PInt (σ : Heap) (r o : Nat) (ls : List Leaf) : Prop := Fl σ .i r o ∧ ls = [(.i, r, o)]
theorem PInt.shp {σ σ' : Heap} (s : Shp σ σ') {r o : Nat} {ls : List Leaf} (h : PInt σ r o ls) : PInt σ' r o ls := ⟨h.1.shp s, h.2⟩
theorem PInt.cells {σ : Heap} {r o : Nat} {ls : List Leaf} (h : PInt σ r o ls) : ∀ k r' o', (k, r', o') ∈ ls → cellAt σ r' o' ≠ none := fun k r' o' hm => by
  obtain ⟨h1, rfl⟩ := h
  simp at hm
  obtain ⟨rfl, rfl, rfl⟩ := hm
  exact h1.cell
theorem PInt.pos {σ : Heap} {r o : Nat} {ls : List Leaf} (h : PInt σ r o ls) : 1 ≤ ls.length := by rw [h.2]; simp
theorem markIntS_lv {σ0 σ : Heap} {n : Nat} {A : List Leaf} {v : V} {lss : List (List Leaf)} (s : Shp σ0 (wrs σ n A)) (h : LvS 1 (PInt σ0) σ0 v lss) (h1 : 1 ≤ n) (h2 : n + A.length + lss.flatten.length ≤ 1099511627776) : Runs G n_laws_markIntS [v, .int .i64 ((n + A.length : Nat) : Int)] (wrs σ n A) (.int .i64 ((n + (A ++ lss.flatten).length : Nat) : Int)) (wrs σ n (A ++ lss.flatten)) ∧ Shp σ0 (wrs σ n (A ++ lss.flatten)) := by
  suffices hE : HM.Ends G n_laws_markIntS [v, .int .i64 ((n + A.length : Nat) : Int)] (wrs σ n A) (fun w σ' => w = .int .i64 ((n + (A ++ lss.flatten).length : Nat) : Int) ∧ σ' = wrs σ n (A ++ lss.flatten) ∧ Shp σ0 σ') by
    obtain ⟨w, σ', ⟨rfl, rfl, hs⟩, hr⟩ := hE
    exact ⟨hr, hs⟩
  have hlen : lss.length ≤ 4611686018427387904 := h.len_le (by omega) fun r o ls h => by
      have := PInt.pos h
      omega
  refine HM.Ends.mk (W.to (fun k _ => laws_markIntS.eq k _ _ _) ?_)
  generalize hG : (fun (w : V) (σ' : Heap) => w = .int .i64 ((n + (A ++ lss.flatten).length : Nat) : Int) ∧ σ' = wrs σ n (A ++ lss.flatten) ∧ Shp σ0 σ') = Good
  rw [← List.append_nil A]
  refine W.loop (S := Nat) (fun i => i ≤ lss.length ∧ Shp σ0 (wrs σ n (A ++ (lss.take i).flatten))) (fun i => [.v v, .v (.int .i64 ((n + (A ++ (lss.take i).flatten).length : Nat) : Int)), .v (.int .i64 (i : Int))]) (fun i => wrs σ n (A ++ (lss.take i).flatten)) (fun i => lss.length - i) (fun i ⟨hi', sB⟩ => ?_)
    0 ⟨Nat.zero_le _, by simpa using s⟩
  refine W.to (fun k _ => by rw [laws_markIntS.L0_step]) ?_
  refine B.bind h.vlen (B.ite (fun hlt => ?_) fun hlt => ?_)
  rotate_left
  · rw [List.take_of_length_le (by omega)] at sB ⊢
    try simp only [q_bind_some, castInt_int, q_castBool, q_castStr, q_castPtr, q_castFn, q_castAgg, q_castTuple, q_uncons, q_isNil, q_sl, q_nils, q_emp, q_ptr, q_nilp, q_fn, q_cond_true, q_cond_false, Bool.not_true, Bool.not_false, decide_true, decide_false, List.cons_append, List.nil_append, laws_markIntS.A0_x0]
    subst hG
    exact W.ret ⟨rfl, rfl, sB⟩
  have hil : i < lss.length := by omega
  have hx : lss[i]? = some lss[i] := List.getElem?_eq_getElem hil
  have hnext := flat_next hx
  have hle := flat_le hx
  generalize lss[i] = ls at hx hnext hle
  have hw0 := wrap_next hil hlen
  have hnx : A ++ (lss.take (i + 1)).flatten = (A ++ (lss.take i).flatten) ++ ls := by rw [hnext, List.append_assoc]
  have hBl : (A ++ (lss.take i).flatten).length = A.length + (lss.take i).flatten.length := List.length_append
  generalize A ++ (lss.take i).flatten = B0 at sB hnx hBl ⊢
  obtain ⟨r, o, hv, hP⟩ := h.at hx
  obtain ⟨f0, rfl⟩ := hP
  simp only [List.length_append, List.length_cons, List.length_nil] at hle
  have e0 : (B0 ++ [(MK.i, r, o)]).length = B0.length + 1 := List.length_append
  obtain ⟨p0, s0⟩ := put_i sB f0
  have x0 := nx (n := n) (A := B0) (MK.i, r, o) (by omega)
  try simp only [q_bind_some, castInt_int, q_castBool, q_castStr, q_castPtr, q_castFn, q_castAgg, q_castTuple, q_uncons, q_isNil, q_sl, q_nils, q_emp, q_ptr, q_nilp, q_fn, q_cond_true, q_cond_false, Bool.not_true, Bool.not_false, decide_true, decide_false, List.cons_append, List.nil_append, hv, p0, x0]
  generalize hb0 : B0 ++ [(MK.i, r, o)] = B1 at *
  have hfin : A ++ (lss.take (i + 1)).flatten = B1 := by
      rw [hnx, ← hb0]
      try simp only [List.append_assoc]
  refine W.again (i + 1) ⟨by omega, by rw [hfin]; exact s0⟩ (by omega) (by rw [hfin, hw0]) (by rw [hfin])
theorem heldIntS_lv {σ0 σ : Heap} {n : Nat} {v : V} {lss : List (List Leaf)} (s : Shp σ0 σ) (h : LvS 1 (PInt σ0) σ0 v lss) (hm : HeldAt σ n lss.flatten) (h1 : 1 ≤ n) (h2 : n + lss.flatten.length ≤ 1099511627776) : Runs G n_laws_heldIntS [v, .int .i64 (n : Int)] σ (.int .i64 ((n + lss.flatten.length : Nat) : Int)) σ := by
  have hlen : lss.length ≤ 4611686018427387904 := h.len_le (by omega) fun r o ls h => by
      have := PInt.pos h
      omega
  refine Runs.of (W.to (fun k _ => laws_heldIntS.eq k _ _ _) ?_)
  refine W.loop (S := Nat) (fun i => i ≤ lss.length) (fun i => [.v v, .v (.int .i64 ((n + (lss.take i).flatten.length : Nat) : Int)), .v (.int .i64 (i : Int))]) (fun i => σ) (fun i => lss.length - i) (fun i hi' => ?_) 0 (Nat.zero_le _)
  refine W.to (fun k _ => by rw [laws_heldIntS.L0_step]) ?_
  refine B.bind h.vlen (B.ite (fun hlt => ?_) fun hlt => ?_)
  rotate_left
  · rw [List.take_of_length_le (by omega)]
    try simp only [q_bind_some, castInt_int, q_castBool, q_castStr, q_castPtr, q_castFn, q_castAgg, q_castTuple, q_uncons, q_isNil, q_sl, q_nils, q_emp, q_ptr, q_nilp, q_fn, q_cond_true, q_cond_false, Bool.not_true, Bool.not_false, decide_true, decide_false, List.cons_append, List.nil_append, laws_heldIntS.A0_x0]
    exact W.ret ⟨rfl, rfl⟩
  have hil : i < lss.length := by omega
  have hx : lss[i]? = some lss[i] := List.getElem?_eq_getElem hil
  have hnext := flat_next hx
  have hle := flat_le hx
  obtain ⟨rest, hcut⟩ := flat_cut hx
  generalize lss[i] = ls at hx hnext hle hcut
  have hw0 := wrap_next hil hlen
  have hh := (hcut ▸ hm : HeldAt σ n ((lss.take i).flatten ++ (ls ++ rest))).app.2.app.1
  obtain ⟨r, o, hv, hP⟩ := h.at hx
  obtain ⟨f0, rfl⟩ := hP
  simp only [List.length_append, List.length_cons, List.length_nil] at hle hnext
  have hm0 : n + (lss.take i).flatten.length = n + (lss.take i).flatten.length := rfl
  generalize hq0 : n + (lss.take i).flatten.length = m0 at hh ⊢
  have z0 : n ≤ m0 := by omega
  have t0 := hh
  have r0 := rdc_cell t0.one
  have r0 : rdc σ r (o) 1 = some [.int .i64 (m0 : Int)] := r0
  try simp only [q_bind_some, castInt_int, q_castBool, q_castStr, q_castPtr, q_castFn, q_castAgg, q_castTuple, q_uncons, q_isNil, q_sl, q_nils, q_emp, q_ptr, q_nilp, q_fn, q_cond_true, q_cond_false, Bool.not_true, Bool.not_false, decide_true, decide_false, List.cons_append, List.nil_append, hv, r0]
  try simp only [q_bind_some, castInt_int, q_castBool, q_castStr, q_castPtr, q_castFn, q_castAgg, q_castTuple, q_uncons, q_isNil, q_sl, q_nils, q_emp, q_ptr, q_nilp, q_fn, q_cond_true, q_cond_false, Bool.not_true, Bool.not_false, decide_true, decide_false, List.cons_append, List.nil_append, decide_eq_true (rfl : (m0 : Int) = (m0 : Int))]
  generalize hq1 : m0 + 1 = m1 at *
  have w0 : IntKind.wrap .i64 ((m0 : Int) + 1) = (m1 : Int) := by rw [wrap_id (by omega) (by omega)]; omega
  try try simp only [q_bind_some, castInt_int, q_castBool, q_castStr, q_castPtr, q_castFn, q_castAgg, q_castTuple, q_uncons, q_isNil, q_sl, q_nils, q_emp, q_ptr, q_nilp, q_fn, q_cond_true, q_cond_false, Bool.not_true, Bool.not_false, decide_true, decide_false, List.cons_append, List.nil_append, w0]
  have hfin : n + (lss.take (i + 1)).flatten.length = m1 := by rw [hnext]; simp only [List.length_append, List.length_cons, List.length_nil]; omega
  exact W.again (i + 1) (show i + 1 ≤ lss.length by omega) (by omega) (by rw [hfin, hw0]) rfl
def PString (σ : Heap) (r o : Nat) (ls : List Leaf) : Prop := Fl σ .s r o ∧ ls = [(.s, r, o)]
theorem PString.shp {σ σ' : Heap} (s : Shp σ σ') {r o : Nat} {ls : List Leaf} (h : PString σ r o ls) : PString σ' r o ls := ⟨h.1.shp s, h.2⟩
theorem PString.cells {σ : Heap} {r o : Nat} {ls : List Leaf} (h : PString σ r o ls) : ∀ k r' o', (k, r', o') ∈ ls → cellAt σ r' o' ≠ none := fun k r' o' hm => by
  obtain ⟨h1, rfl⟩ := h
  simp at hm
  obtain ⟨rfl, rfl, rfl⟩ := hm
  exact h1.cell
theorem PString.pos {σ : Heap} {r o : Nat} {ls : List Leaf} (h : PString σ r o ls) : 1 ≤ ls.length := by rw [h.2]; simp
theorem markStringS_lv {σ0 σ : Heap} {n : Nat} {A : List Leaf} {v : V} {lss : List (List Leaf)} (s : Shp σ0 (wrs σ n A)) (h : LvS 1 (PString σ0) σ0 v lss) (h1 : 1 ≤ n) (h2 : n + A.length + lss.flatten.length ≤ 1099511627776) : Runs G n_laws_markStringS [v, .int .i64 ((n + A.length : Nat) : Int)] (wrs σ n A) (.int .i64 ((n + (A ++ lss.flatten).length : Nat) : Int)) (wrs σ n (A ++ lss.flatten)) ∧ Shp σ0 (wrs σ n (A ++ lss.flatten)) := by
  suffices hE : HM.Ends G n_laws_markStringS [v, .int .i64 ((n + A.length : Nat) : Int)] (wrs σ n A) (fun w σ' => w = .int .i64 ((n + (A ++ lss.flatten).length : Nat) : Int) ∧ σ' = wrs σ n (A ++ lss.flatten) ∧ Shp σ0 σ') by
    obtain ⟨w, σ', ⟨rfl, rfl, hs⟩, hr⟩ := hE
    exact ⟨hr, hs⟩
  have hlen : lss.length ≤ 4611686018427387904 := h.len_le (by omega) fun r o ls h => by
      have := PString.pos h
      omega
  refine HM.Ends.mk (W.to (fun k _ => laws_markStringS.eq k _ _ _) ?_)
  generalize hG : (fun (w : V) (σ' : Heap) => w = .int .i64 ((n + (A ++ lss.flatten).length : Nat) : Int) ∧ σ' = wrs σ n (A ++ lss.flatten) ∧ Shp σ0 σ') = Good
  rw [← List.append_nil A]
  refine W.loop (S := Nat) (fun i => i ≤ lss.length ∧ Shp σ0 (wrs σ n (A ++ (lss.take i).flatten))) (fun i => [.v v, .v (.int .i64 ((n + (A ++ (lss.take i).flatten).length : Nat) : Int)), .v (.int .i64 (i : Int))]) (fun i => wrs σ n (A ++ (lss.take i).flatten)) (fun i => lss.length - i) (fun i ⟨hi', sB⟩ => ?_)
    0 ⟨Nat.zero_le _, by simpa using s⟩
  refine W.to (fun k _ => by rw [laws_markStringS.L0_step]) ?_
  refine B.bind h.vlen (B.ite (fun hlt => ?_) fun hlt => ?_)
  rotate_left
  · rw [List.take_of_length_le (by omega)] at sB ⊢
    try simp only [q_bind_some, castInt_int, q_castBool, q_castStr, q_castPtr, q_castFn, q_castAgg, q_castTuple, q_uncons, q_isNil, q_sl, q_nils, q_emp, q_ptr, q_nilp, q_fn, q_cond_true, q_cond_false, Bool.not_true, Bool.not_false, decide_true, decide_false, List.cons_append, List.nil_append, laws_markStringS.A0_x0]
    subst hG
    exact W.ret ⟨rfl, rfl, sB⟩
  have hil : i < lss.length := by omega
  have hx : lss[i]? = some lss[i] := List.getElem?_eq_getElem hil
  have hnext := flat_next hx
  have hle := flat_le hx
  generalize lss[i] = ls at hx hnext hle
  have hw0 := wrap_next hil hlen
  have hnx : A ++ (lss.take (i + 1)).flatten = (A ++ (lss.take i).flatten) ++ ls := by rw [hnext, List.append_assoc]
  have hBl : (A ++ (lss.take i).flatten).length = A.length + (lss.take i).flatten.length := List.length_append
  generalize A ++ (lss.take i).flatten = B0 at sB hnx hBl ⊢
  obtain ⟨r, o, hv, hP⟩ := h.at hx
  obtain ⟨f0, rfl⟩ := hP
  simp only [List.length_append, List.length_cons, List.length_nil] at hle
  have e0 : (B0 ++ [(MK.s, r, o)]).length = B0.length + 1 := List.length_append
  try try simp only [q_bind_some, castInt_int, q_castBool, q_castStr, q_castPtr, q_castFn, q_castAgg, q_castTuple, q_uncons, q_isNil, q_sl, q_nils, q_emp, q_ptr, q_nilp, q_fn, q_cond_true, q_cond_false, Bool.not_true, Bool.not_false, decide_true, decide_false, List.cons_append, List.nil_append, hv]
  refine B.run (markText_runs (wrs σ n B0) (n := n + B0.length) (by omega) (by omega)) ?_
  try simp only [q_bind_some, castInt_int, q_castBool, q_castStr, q_castPtr, q_castFn, q_castAgg, q_castTuple, q_uncons, q_isNil, q_sl, q_nils, q_emp, q_ptr, q_nilp, q_fn, q_cond_true, q_cond_false, Bool.not_true, Bool.not_false, decide_true, decide_false, List.cons_append, List.nil_append]
  obtain ⟨p0, s0⟩ := put_s sB f0
  have x0 := nx (n := n) (A := B0) (MK.s, r, o) (by omega)
  try simp only [q_bind_some, castInt_int, q_castBool, q_castStr, q_castPtr, q_castFn, q_castAgg, q_castTuple, q_uncons, q_isNil, q_sl, q_nils, q_emp, q_ptr, q_nilp, q_fn, q_cond_true, q_cond_false, Bool.not_true, Bool.not_false, decide_true, decide_false, List.cons_append, List.nil_append, hv, p0, x0]
  generalize hb0 : B0 ++ [(MK.s, r, o)] = B1 at *
  have hfin : A ++ (lss.take (i + 1)).flatten = B1 := by
      rw [hnx, ← hb0]
      try simp only [List.append_assoc]
  refine W.again (i + 1) ⟨by omega, by rw [hfin]; exact s0⟩ (by omega) (by rw [hfin, hw0]) (by rw [hfin])
def PTreeArg (σ : Heap) (r o : Nat) (ls : List Leaf) : Prop := Fl σ .s r (o + 0) ∧ Fl σ .i r (o + 1) ∧ ls = [(.s, r, o + 0)] ++ ([(.i, r, o + 1)])
theorem PTreeArg.shp {σ σ' : Heap} (s : Shp σ σ') {r o : Nat} {ls : List Leaf} (h : PTreeArg σ r o ls) : PTreeArg σ' r o ls := by
  obtain ⟨h0, h1, rfl⟩ := h
  exact ⟨h0.shp s, h1.shp s, rfl⟩
theorem PTreeArg.cells {σ : Heap} {r o : Nat} {ls : List Leaf} (h : PTreeArg σ r o ls) : ∀ k r' o', (k, r', o') ∈ ls → cellAt σ r' o' ≠ none := fun k r' o' hm => by
      obtain ⟨h0, h1, rfl⟩ := h
      rcases List.mem_append.1 hm with hm | hm
      · exact (fun k r' o' hm => by
          simp at hm
          obtain ⟨rfl, rfl, rfl⟩ := hm
          exact h0.cell) k r' o' hm
      exact (fun k r' o' hm => by
        simp at hm
        obtain ⟨rfl, rfl, rfl⟩ := hm
        exact h1.cell) k r' o' hm
theorem PTreeArg.pos {σ : Heap} {r o : Nat} {ls : List Leaf} (h : PTreeArg σ r o ls) : 1 ≤ ls.length := by
  obtain ⟨f0, f1, rfl⟩ := h
  simp
theorem markTreeArgS_lv {σ0 σ : Heap} {n : Nat} {A : List Leaf} {v : V} {lss : List (List Leaf)} (s : Shp σ0 (wrs σ n A)) (h : LvS 2 (PTreeArg σ0) σ0 v lss) (h1 : 1 ≤ n) (h2 : n + A.length + lss.flatten.length ≤ 1099511627776) : Runs G n_laws_markTreeArgS [v, .int .i64 ((n + A.length : Nat) : Int)] (wrs σ n A) (.int .i64 ((n + (A ++ lss.flatten).length : Nat) : Int)) (wrs σ n (A ++ lss.flatten)) ∧ Shp σ0 (wrs σ n (A ++ lss.flatten)) := by
  suffices hE : HM.Ends G n_laws_markTreeArgS [v, .int .i64 ((n + A.length : Nat) : Int)] (wrs σ n A) (fun w σ' => w = .int .i64 ((n + (A ++ lss.flatten).length : Nat) : Int) ∧ σ' = wrs σ n (A ++ lss.flatten) ∧ Shp σ0 σ') by
    obtain ⟨w, σ', ⟨rfl, rfl, hs⟩, hr⟩ := hE
    exact ⟨hr, hs⟩
  have hlen : lss.length ≤ 4611686018427387904 := h.len_le (by omega) fun r o ls h => by
      have := PTreeArg.pos h
      omega
  refine HM.Ends.mk (W.to (fun k _ => laws_markTreeArgS.eq k _ _ _) ?_)
  generalize hG : (fun (w : V) (σ' : Heap) => w = .int .i64 ((n + (A ++ lss.flatten).length : Nat) : Int) ∧ σ' = wrs σ n (A ++ lss.flatten) ∧ Shp σ0 σ') = Good
  rw [← List.append_nil A]
  refine W.loop (S := Nat) (fun i => i ≤ lss.length ∧ Shp σ0 (wrs σ n (A ++ (lss.take i).flatten))) (fun i => [.v v, .v (.int .i64 ((n + (A ++ (lss.take i).flatten).length : Nat) : Int)), .v (.int .i64 (i : Int))]) (fun i => wrs σ n (A ++ (lss.take i).flatten)) (fun i => lss.length - i) (fun i ⟨hi', sB⟩ => ?_)
    0 ⟨Nat.zero_le _, by simpa using s⟩
  refine W.to (fun k _ => by rw [laws_markTreeArgS.L0_step]) ?_
  refine B.bind h.vlen (B.ite (fun hlt => ?_) fun hlt => ?_)
  rotate_left
  · rw [List.take_of_length_le (by omega)] at sB ⊢
    try simp only [q_bind_some, castInt_int, q_castBool, q_castStr, q_castPtr, q_castFn, q_castAgg, q_castTuple, q_uncons, q_isNil, q_sl, q_nils, q_emp, q_ptr, q_nilp, q_fn, q_cond_true, q_cond_false, Bool.not_true, Bool.not_false, decide_true, decide_false, List.cons_append, List.nil_append, laws_markTreeArgS.A0_x0]
    subst hG
    exact W.ret ⟨rfl, rfl, sB⟩
  have hil : i < lss.length := by omega
  have hx : lss[i]? = some lss[i] := List.getElem?_eq_getElem hil
  have hnext := flat_next hx
  have hle := flat_le hx
  generalize lss[i] = ls at hx hnext hle
  have hw0 := wrap_next hil hlen
  have hnx : A ++ (lss.take (i + 1)).flatten = (A ++ (lss.take i).flatten) ++ ls := by rw [hnext, List.append_assoc]
  have hBl : (A ++ (lss.take i).flatten).length = A.length + (lss.take i).flatten.length := List.length_append
  generalize A ++ (lss.take i).flatten = B0 at sB hnx hBl ⊢
  obtain ⟨r, o, hv, hP⟩ := h.at hx
  obtain ⟨f0, f1, rfl⟩ := hP
  simp only [List.length_append, List.length_cons, List.length_nil] at hle
  have e0 : (B0 ++ [(MK.s, r, o + 0)]).length = B0.length + 1 := List.length_append
  try try simp only [q_bind_some, castInt_int, q_castBool, q_castStr, q_castPtr, q_castFn, q_castAgg, q_castTuple, q_uncons, q_isNil, q_sl, q_nils, q_emp, q_ptr, q_nilp, q_fn, q_cond_true, q_cond_false, Bool.not_true, Bool.not_false, decide_true, decide_false, List.cons_append, List.nil_append, hv]
  refine B.run (markText_runs (wrs σ n B0) (n := n + B0.length) (by omega) (by omega)) ?_
  try simp only [q_bind_some, castInt_int, q_castBool, q_castStr, q_castPtr, q_castFn, q_castAgg, q_castTuple, q_uncons, q_isNil, q_sl, q_nils, q_emp, q_ptr, q_nilp, q_fn, q_cond_true, q_cond_false, Bool.not_true, Bool.not_false, decide_true, decide_false, List.cons_append, List.nil_append]
  obtain ⟨p0, s0⟩ := put_s sB f0
  have x0 := nx (n := n) (A := B0) (MK.s, r, o + 0) (by omega)
  try simp only [q_bind_some, castInt_int, q_castBool, q_castStr, q_castPtr, q_castFn, q_castAgg, q_castTuple, q_uncons, q_isNil, q_sl, q_nils, q_emp, q_ptr, q_nilp, q_fn, q_cond_true, q_cond_false, Bool.not_true, Bool.not_false, decide_true, decide_false, List.cons_append, List.nil_append, hv, p0, x0]
  generalize hb0 : B0 ++ [(MK.s, r, o + 0)] = B1 at *
  have e1 : (B1 ++ [(MK.i, r, o + 1)]).length = B1.length + 1 := List.length_append
  obtain ⟨p1, s1⟩ := put_i s0 f1
  have x1 := nx (n := n) (A := B1) (MK.i, r, o + 1) (by omega)
  try simp only [q_bind_some, castInt_int, q_castBool, q_castStr, q_castPtr, q_castFn, q_castAgg, q_castTuple, q_uncons, q_isNil, q_sl, q_nils, q_emp, q_ptr, q_nilp, q_fn, q_cond_true, q_cond_false, Bool.not_true, Bool.not_false, decide_true, decide_false, List.cons_append, List.nil_append, hv, p1, x1]
  generalize hb1 : B1 ++ [(MK.i, r, o + 1)] = B2 at *
  have hfin : A ++ (lss.take (i + 1)).flatten = B2 := by
      rw [hnx, ← hb1, ← hb0]
      try simp only [List.append_assoc]
  refine W.again (i + 1) ⟨by omega, by rw [hfin]; exact s1⟩ (by omega) (by rw [hfin, hw0]) (by rw [hfin])
def PTreeExpr : Nat → Heap → Nat → Nat → List Leaf → Prop
  | 0, _, _, _, _ => False
  | d + 1, σ, r, o, ls => ∃ (v4 : V) (l4 : List (List Leaf)), Fl σ .i r (o + 0) ∧ Fl σ .i r (o + 1) ∧ Fl σ .s r (o + 2) ∧ Fl σ .s r (o + 3) ∧ Cl σ r (o + 4) v4 ∧ LvS 5 (PTreeExpr d σ) σ v4 l4 ∧ ls = [(.i, r, o + 0)] ++ ([(.i, r, o + 1)] ++ ([(.s, r, o + 2)] ++ ([(.s, r, o + 3)] ++ (l4.flatten))))
theorem PTreeExpr.shp {σ σ' : Heap} (s : Shp σ σ') : ∀ {d : Nat} {r o : Nat} {ls : List Leaf}, PTreeExpr d σ r o ls → PTreeExpr d σ' r o ls
  | 0, _, _, _, h => h.elim
  | d + 1, r, o, _, ⟨v4, l4, h0, h1, h2, h3, c4, h4, rfl⟩ => by
    have ih : ∀ {r o : Nat} {ls : List Leaf}, PTreeExpr d σ r o ls → PTreeExpr d σ' r o ls := fun h => PTreeExpr.shp s h
    exact ⟨v4, l4, h0.shp s, h1.shp s, h2.shp s, h3.shp s, c4.shp s, h4.mono s fun _ _ _ h => ih h, rfl⟩
theorem PTreeExpr.cells {σ : Heap} : ∀ {d : Nat} {r o : Nat} {ls : List Leaf}, PTreeExpr d σ r o ls → ∀ k r' o', (k, r', o') ∈ ls → cellAt σ r' o' ≠ none
  | 0, _, _, _, h => h.elim
  | d + 1, r, o, _, ⟨v4, l4, h0, h1, h2, h3, c4, h4, rfl⟩ => fun k r' o' hm => by
      rcases List.mem_append.1 hm with hm | hm
      · exact (fun k r' o' hm => by
          simp at hm
          obtain ⟨rfl, rfl, rfl⟩ := hm
          exact h0.cell) k r' o' hm
      rcases List.mem_append.1 hm with hm | hm
      · exact (fun k r' o' hm => by
          simp at hm
          obtain ⟨rfl, rfl, rfl⟩ := hm
          exact h1.cell) k r' o' hm
      rcases List.mem_append.1 hm with hm | hm
      · exact (fun k r' o' hm => by
          simp at hm
          obtain ⟨rfl, rfl, rfl⟩ := hm
          exact h2.cell) k r' o' hm
      rcases List.mem_append.1 hm with hm | hm
      · exact (fun k r' o' hm => by
          simp at hm
          obtain ⟨rfl, rfl, rfl⟩ := hm
          exact h3.cell) k r' o' hm
      exact (h4.cells fun _ _ _ h => PTreeExpr.cells h) k r' o' hm
theorem PTreeExpr.pos {σ : Heap} : ∀ {d : Nat} {r o : Nat} {ls : List Leaf}, PTreeExpr d σ r o ls → 1 ≤ ls.length
  | 0, _, _, _, h => h.elim
  | d + 1, r, o, _, ⟨v4, l4, f0, f1, f2, f3, c4, f4, rfl⟩ => by simp
theorem markTreeExprS_lv' (d : Nat) : ∀ {σ0 σ : Heap} {n : Nat} {A : List Leaf} {v : V} {lss : List (List Leaf)} (s : Shp σ0 (wrs σ n A)) (h : LvS 5 (PTreeExpr d σ0) σ0 v lss) (h1 : 1 ≤ n) (h2 : n + A.length + lss.flatten.length ≤ 1099511627776), Runs G n_laws_markTreeExprS [v, .int .i64 ((n + A.length : Nat) : Int)] (wrs σ n A) (.int .i64 ((n + (A ++ lss.flatten).length : Nat) : Int)) (wrs σ n (A ++ lss.flatten)) ∧ Shp σ0 (wrs σ n (A ++ lss.flatten)) := by
  induction d with
  | zero =>
    intro σ0 σ n A v lss s h h1 h2
    have hl : lss = [] := by
      cases h with
      | nils => rfl
      | emp => rfl
      | sl r o m lim row lss k1 k2 k3 k4 k5 k6 =>
        cases lss with
        | nil => rfl
        | cons ls lss => exact (k6 0 ls rfl).elim
    subst hl
    have hn : vlen v = some 0 := h.vlen
    rw [show (([] : List (List Leaf)).flatten) = [] from rfl, List.append_nil]
    refine ⟨Runs.of (W.to (fun k _ => laws_markTreeExprS.eq k _ _ _) ?_), s⟩
    refine W.loop (S := Unit) (fun _ => True) (fun _ => [.v v, .v (.int .i64 ((n + A.length : Nat) : Int)), .v (.int .i64 0)]) (fun _ => wrs σ n A) (fun _ => 0) (fun _ _ => ?_) () trivial
    refine W.to (fun k _ => by rw [laws_markTreeExprS.L0_step]) ?_
    refine B.bind hn (B.ite (fun hlt => absurd hlt (by omega)) fun hlt => ?_)
    try simp only [q_bind_some, castInt_int, q_castBool, q_castStr, q_castPtr, q_castFn, q_castAgg, q_castTuple, q_uncons, q_isNil, q_sl, q_nils, q_emp, q_ptr, q_nilp, q_fn, q_cond_true, q_cond_false, Bool.not_true, Bool.not_false, decide_true, decide_false, List.cons_append, List.nil_append, laws_markTreeExprS.A0_x0]
    exact W.ret ⟨rfl, rfl⟩
  | succ d ih =>
    intro σ0 σ n A v lss s h h1 h2
    suffices hE : HM.Ends G n_laws_markTreeExprS [v, .int .i64 ((n + A.length : Nat) : Int)] (wrs σ n A) (fun w σ' => w = .int .i64 ((n + (A ++ lss.flatten).length : Nat) : Int) ∧ σ' = wrs σ n (A ++ lss.flatten) ∧ Shp σ0 σ') by
      obtain ⟨w, σ', ⟨rfl, rfl, hs⟩, hr⟩ := hE
      exact ⟨hr, hs⟩
    have hlen : lss.length ≤ 4611686018427387904 := h.len_le (by omega) fun r o ls h => by
        have := PTreeExpr.pos h
        omega
    refine HM.Ends.mk (W.to (fun k _ => laws_markTreeExprS.eq k _ _ _) ?_)
    generalize hG : (fun (w : V) (σ' : Heap) => w = .int .i64 ((n + (A ++ lss.flatten).length : Nat) : Int) ∧ σ' = wrs σ n (A ++ lss.flatten) ∧ Shp σ0 σ') = Good
    rw [← List.append_nil A]
    refine W.loop (S := Nat) (fun i => i ≤ lss.length ∧ Shp σ0 (wrs σ n (A ++ (lss.take i).flatten))) (fun i => [.v v, .v (.int .i64 ((n + (A ++ (lss.take i).flatten).length : Nat) : Int)), .v (.int .i64 (i : Int))]) (fun i => wrs σ n (A ++ (lss.take i).flatten)) (fun i => lss.length - i) (fun i ⟨hi', sB⟩ => ?_)
      0 ⟨Nat.zero_le _, by simpa using s⟩
    refine W.to (fun k _ => by rw [laws_markTreeExprS.L0_step]) ?_
    refine B.bind h.vlen (B.ite (fun hlt => ?_) fun hlt => ?_)
    rotate_left
    · rw [List.take_of_length_le (by omega)] at sB ⊢
      try simp only [q_bind_some, castInt_int, q_castBool, q_castStr, q_castPtr, q_castFn, q_castAgg, q_castTuple, q_uncons, q_isNil, q_sl, q_nils, q_emp, q_ptr, q_nilp, q_fn, q_cond_true, q_cond_false, Bool.not_true, Bool.not_false, decide_true, decide_false, List.cons_append, List.nil_append, laws_markTreeExprS.A0_x0]
      subst hG
      exact W.ret ⟨rfl, rfl, sB⟩
    have hil : i < lss.length := by omega
    have hx : lss[i]? = some lss[i] := List.getElem?_eq_getElem hil
    have hnext := flat_next hx
    have hle := flat_le hx
    generalize lss[i] = ls at hx hnext hle
    have hw0 := wrap_next hil hlen
    have hnx : A ++ (lss.take (i + 1)).flatten = (A ++ (lss.take i).flatten) ++ ls := by rw [hnext, List.append_assoc]
    have hBl : (A ++ (lss.take i).flatten).length = A.length + (lss.take i).flatten.length := List.length_append
    generalize A ++ (lss.take i).flatten = B0 at sB hnx hBl ⊢
    obtain ⟨r, o, hv, hP⟩ := h.at hx
    obtain ⟨v4, l4, f0, f1, f2, f3, c4, f4, rfl⟩ := hP
    simp only [List.length_append, List.length_cons, List.length_nil] at hle
    have e0 : (B0 ++ [(MK.i, r, o + 0)]).length = B0.length + 1 := List.length_append
    obtain ⟨p0, s0⟩ := put_i sB f0
    have x0 := nx (n := n) (A := B0) (MK.i, r, o + 0) (by omega)
    try simp only [q_bind_some, castInt_int, q_castBool, q_castStr, q_castPtr, q_castFn, q_castAgg, q_castTuple, q_uncons, q_isNil, q_sl, q_nils, q_emp, q_ptr, q_nilp, q_fn, q_cond_true, q_cond_false, Bool.not_true, Bool.not_false, decide_true, decide_false, List.cons_append, List.nil_append, hv, p0, x0]
    generalize hb0 : B0 ++ [(MK.i, r, o + 0)] = B1 at *
    have e1 : (B1 ++ [(MK.i, r, o + 1)]).length = B1.length + 1 := List.length_append
    obtain ⟨p1, s1⟩ := put_i s0 f1
    have x1 := nx (n := n) (A := B1) (MK.i, r, o + 1) (by omega)
    try simp only [q_bind_some, castInt_int, q_castBool, q_castStr, q_castPtr, q_castFn, q_castAgg, q_castTuple, q_uncons, q_isNil, q_sl, q_nils, q_emp, q_ptr, q_nilp, q_fn, q_cond_true, q_cond_false, Bool.not_true, Bool.not_false, decide_true, decide_false, List.cons_append, List.nil_append, hv, p1, x1]
    generalize hb1 : B1 ++ [(MK.i, r, o + 1)] = B2 at *
    have e2 : (B2 ++ [(MK.s, r, o + 2)]).length = B2.length + 1 := List.length_append
    try try simp only [q_bind_some, castInt_int, q_castBool, q_castStr, q_castPtr, q_castFn, q_castAgg, q_castTuple, q_uncons, q_isNil, q_sl, q_nils, q_emp, q_ptr, q_nilp, q_fn, q_cond_true, q_cond_false, Bool.not_true, Bool.not_false, decide_true, decide_false, List.cons_append, List.nil_append, hv]
    refine B.run (markText_runs (wrs σ n B2) (n := n + B2.length) (by omega) (by omega)) ?_
    try simp only [q_bind_some, castInt_int, q_castBool, q_castStr, q_castPtr, q_castFn, q_castAgg, q_castTuple, q_uncons, q_isNil, q_sl, q_nils, q_emp, q_ptr, q_nilp, q_fn, q_cond_true, q_cond_false, Bool.not_true, Bool.not_false, decide_true, decide_false, List.cons_append, List.nil_append]
    obtain ⟨p2, s2⟩ := put_s s1 f2
    have x2 := nx (n := n) (A := B2) (MK.s, r, o + 2) (by omega)
    try simp only [q_bind_some, castInt_int, q_castBool, q_castStr, q_castPtr, q_castFn, q_castAgg, q_castTuple, q_uncons, q_isNil, q_sl, q_nils, q_emp, q_ptr, q_nilp, q_fn, q_cond_true, q_cond_false, Bool.not_true, Bool.not_false, decide_true, decide_false, List.cons_append, List.nil_append, hv, p2, x2]
    generalize hb2 : B2 ++ [(MK.s, r, o + 2)] = B3 at *
    have e3 : (B3 ++ [(MK.s, r, o + 3)]).length = B3.length + 1 := List.length_append
    try try simp only [q_bind_some, castInt_int, q_castBool, q_castStr, q_castPtr, q_castFn, q_castAgg, q_castTuple, q_uncons, q_isNil, q_sl, q_nils, q_emp, q_ptr, q_nilp, q_fn, q_cond_true, q_cond_false, Bool.not_true, Bool.not_false, decide_true, decide_false, List.cons_append, List.nil_append, hv, p2, x2]
    refine B.run (markText_runs (wrs σ n B3) (n := n + B3.length) (by omega) (by omega)) ?_
    try simp only [q_bind_some, castInt_int, q_castBool, q_castStr, q_castPtr, q_castFn, q_castAgg, q_castTuple, q_uncons, q_isNil, q_sl, q_nils, q_emp, q_ptr, q_nilp, q_fn, q_cond_true, q_cond_false, Bool.not_true, Bool.not_false, decide_true, decide_false, List.cons_append, List.nil_append]
    obtain ⟨p3, s3⟩ := put_s s2 f3
    have x3 := nx (n := n) (A := B3) (MK.s, r, o + 3) (by omega)
    try simp only [q_bind_some, castInt_int, q_castBool, q_castStr, q_castPtr, q_castFn, q_castAgg, q_castTuple, q_uncons, q_isNil, q_sl, q_nils, q_emp, q_ptr, q_nilp, q_fn, q_cond_true, q_cond_false, Bool.not_true, Bool.not_false, decide_true, decide_false, List.cons_append, List.nil_append, hv, p3, x3]
    generalize hb3 : B3 ++ [(MK.s, r, o + 3)] = B4 at *
    have e4 : (B4 ++ l4.flatten).length = B4.length + l4.flatten.length := List.length_append
    have q4 := rdc_cell (c4.shp s3).1
    try simp only [q_bind_some, castInt_int, q_castBool, q_castStr, q_castPtr, q_castFn, q_castAgg, q_castTuple, q_uncons, q_isNil, q_sl, q_nils, q_emp, q_ptr, q_nilp, q_fn, q_cond_true, q_cond_false, Bool.not_true, Bool.not_false, decide_true, decide_false, List.cons_append, List.nil_append, hv, q4]
    obtain ⟨g4, s4⟩ := ih (A := B4) s3 f4 h1 (by omega)
    refine B.run g4 ?_
    try simp only [q_bind_some, castInt_int, q_castBool, q_castStr, q_castPtr, q_castFn, q_castAgg, q_castTuple, q_uncons, q_isNil, q_sl, q_nils, q_emp, q_ptr, q_nilp, q_fn, q_cond_true, q_cond_false, Bool.not_true, Bool.not_false, decide_true, decide_false, List.cons_append, List.nil_append]
    generalize hb4 : B4 ++ l4.flatten = B5 at *
    have hfin : A ++ (lss.take (i + 1)).flatten = B5 := by
        rw [hnx, ← hb4, ← hb3, ← hb2, ← hb1, ← hb0]
        try simp only [List.append_assoc]
    refine W.again (i + 1) ⟨by omega, by rw [hfin]; exact s4⟩ (by omega) (by rw [hfin, hw0]) (by rw [hfin])
theorem markTreeExprS_lv {d : Nat} {σ0 σ : Heap} {n : Nat} {A : List Leaf} {v : V} {lss : List (List Leaf)} (s : Shp σ0 (wrs σ n A)) (h : LvS 5 (PTreeExpr d σ0) σ0 v lss) (h1 : 1 ≤ n) (h2 : n + A.length + lss.flatten.length ≤ 1099511627776) : Runs G n_laws_markTreeExprS [v, .int .i64 ((n + A.length : Nat) : Int)] (wrs σ n A) (.int .i64 ((n + (A ++ lss.flatten).length : Nat) : Int)) (wrs σ n (A ++ lss.flatten)) ∧ Shp σ0 (wrs σ n (A ++ lss.flatten)) := markTreeExprS_lv' d s h h1 h2
def PTreeFun (d : Nat) (σ : Heap) (r o : Nat) (ls : List Leaf) : Prop := ∃ (v2 : V) (l2 : List (List Leaf)) (v8 : V) (l8 : List (List Leaf)), Fl σ .s r (o + 0) ∧ Fl σ .b r (o + 1) ∧ Cl σ r (o + 2) v2 ∧ LvS 2 (PTreeArg σ) σ v2 l2 ∧ Fl σ .i r (o + 3) ∧ Fl σ .i r (o + 4 + 0) ∧ Fl σ .i r (o + 4 + 1) ∧ Fl σ .s r (o + 4 + 2) ∧ Fl σ .s r (o + 4 + 3) ∧ Cl σ r (o + 4 + 4) v8 ∧ LvS 5 (PTreeExpr d σ) σ v8 l8 ∧ ls = [(.s, r, o + 0)] ++ ([(.b, r, o + 1)] ++ (l2.flatten ++ ([(.i, r, o + 3)] ++ ([(.i, r, o + 4 + 0)] ++ ([(.i, r, o + 4 + 1)] ++ ([(.s, r, o + 4 + 2)] ++ ([(.s, r, o + 4 + 3)] ++ (l8.flatten))))))))
theorem PTreeFun.shp {σ σ' : Heap} (s : Shp σ σ') {d : Nat} {r o : Nat} {ls : List Leaf} (h : PTreeFun d σ r o ls) : PTreeFun d σ' r o ls := by
  obtain ⟨v2, l2, v8, l8, h0, h1, c2, h2, h3, h4, h5, h6, h7, c8, h8, rfl⟩ := h
  exact ⟨v2, l2, v8, l8, h0.shp s, h1.shp s, c2.shp s, h2.mono s fun _ _ _ h => PTreeArg.shp s h, h3.shp s, h4.shp s, h5.shp s, h6.shp s, h7.shp s, c8.shp s, h8.mono s fun _ _ _ h => PTreeExpr.shp s h, rfl⟩
theorem PTreeFun.cells {σ : Heap} {d : Nat} {r o : Nat} {ls : List Leaf} (h : PTreeFun d σ r o ls) : ∀ k r' o', (k, r', o') ∈ ls → cellAt σ r' o' ≠ none := fun k r' o' hm => by
      obtain ⟨v2, l2, v8, l8, h0, h1, c2, h2, h3, h4, h5, h6, h7, c8, h8, rfl⟩ := h
      rcases List.mem_append.1 hm with hm | hm
      · exact (fun k r' o' hm => by
          simp at hm
          obtain ⟨rfl, rfl, rfl⟩ := hm
          exact h0.cell) k r' o' hm
      rcases List.mem_append.1 hm with hm | hm
      · exact (fun k r' o' hm => by
          simp at hm
          obtain ⟨rfl, rfl, rfl⟩ := hm
          exact h1.cell) k r' o' hm
      rcases List.mem_append.1 hm with hm | hm
      · exact (h2.cells fun _ _ _ h => PTreeArg.cells h) k r' o' hm
      rcases List.mem_append.1 hm with hm | hm
      · exact (fun k r' o' hm => by
          simp at hm
          obtain ⟨rfl, rfl, rfl⟩ := hm
          exact h3.cell) k r' o' hm
      rcases List.mem_append.1 hm with hm | hm
      · exact (fun k r' o' hm => by
          simp at hm
          obtain ⟨rfl, rfl, rfl⟩ := hm
          exact h4.cell) k r' o' hm
      rcases List.mem_append.1 hm with hm | hm
      · exact (fun k r' o' hm => by
          simp at hm
          obtain ⟨rfl, rfl, rfl⟩ := hm
          exact h5.cell) k r' o' hm
      rcases List.mem_append.1 hm with hm | hm
      · exact (fun k r' o' hm => by
          simp at hm
          obtain ⟨rfl, rfl, rfl⟩ := hm
          exact h6.cell) k r' o' hm
      rcases List.mem_append.1 hm with hm | hm
      · exact (fun k r' o' hm => by
          simp at hm
          obtain ⟨rfl, rfl, rfl⟩ := hm
          exact h7.cell) k r' o' hm
      exact (h8.cells fun _ _ _ h => PTreeExpr.cells h) k r' o' hm
theorem PTreeFun.pos {σ : Heap} {d : Nat} {r o : Nat} {ls : List Leaf} (h : PTreeFun d σ r o ls) : 1 ≤ ls.length := by
  obtain ⟨v2, l2, v8, l8, f0, f1, c2, f2, f3, f4, f5, f6, f7, c8, f8, rfl⟩ := h
  simp
theorem markTreeFunS_lv {d : Nat} {σ0 σ : Heap} {n : Nat} {A : List Leaf} {v : V} {lss : List (List Leaf)} (s : Shp σ0 (wrs σ n A)) (h : LvS 9 (PTreeFun d σ0) σ0 v lss) (h1 : 1 ≤ n) (h2 : n + A.length + lss.flatten.length ≤ 1099511627776) : Runs G n_laws_markTreeFunS [v, .int .i64 ((n + A.length : Nat) : Int)] (wrs σ n A) (.int .i64 ((n + (A ++ lss.flatten).length : Nat) : Int)) (wrs σ n (A ++ lss.flatten)) ∧ Shp σ0 (wrs σ n (A ++ lss.flatten)) := by
  suffices hE : HM.Ends G n_laws_markTreeFunS [v, .int .i64 ((n + A.length : Nat) : Int)] (wrs σ n A) (fun w σ' => w = .int .i64 ((n + (A ++ lss.flatten).length : Nat) : Int) ∧ σ' = wrs σ n (A ++ lss.flatten) ∧ Shp σ0 σ') by
    obtain ⟨w, σ', ⟨rfl, rfl, hs⟩, hr⟩ := hE
    exact ⟨hr, hs⟩
  have hlen : lss.length ≤ 4611686018427387904 := h.len_le (by omega) fun r o ls h => by
      have := PTreeFun.pos h
      omega
  refine HM.Ends.mk (W.to (fun k _ => laws_markTreeFunS.eq k _ _ _) ?_)
  generalize hG : (fun (w : V) (σ' : Heap) => w = .int .i64 ((n + (A ++ lss.flatten).length : Nat) : Int) ∧ σ' = wrs σ n (A ++ lss.flatten) ∧ Shp σ0 σ') = Good
  rw [← List.append_nil A]
  refine W.loop (S := Nat) (fun i => i ≤ lss.length ∧ Shp σ0 (wrs σ n (A ++ (lss.take i).flatten))) (fun i => [.v v, .v (.int .i64 ((n + (A ++ (lss.take i).flatten).length : Nat) : Int)), .v (.int .i64 (i : Int))]) (fun i => wrs σ n (A ++ (lss.take i).flatten)) (fun i => lss.length - i) (fun i ⟨hi', sB⟩ => ?_)
    0 ⟨Nat.zero_le _, by simpa using s⟩
  refine W.to (fun k _ => by rw [laws_markTreeFunS.L0_step]) ?_
  refine B.bind h.vlen (B.ite (fun hlt => ?_) fun hlt => ?_)
  rotate_left
  · rw [List.take_of_length_le (by omega)] at sB ⊢
    try simp only [q_bind_some, castInt_int, q_castBool, q_castStr, q_castPtr, q_castFn, q_castAgg, q_castTuple, q_uncons, q_isNil, q_sl, q_nils, q_emp, q_ptr, q_nilp, q_fn, q_cond_true, q_cond_false, Bool.not_true, Bool.not_false, decide_true, decide_false, List.cons_append, List.nil_append, laws_markTreeFunS.A0_x0]
    subst hG
    exact W.ret ⟨rfl, rfl, sB⟩
  have hil : i < lss.length := by omega
  have hx : lss[i]? = some lss[i] := List.getElem?_eq_getElem hil
  have hnext := flat_next hx
  have hle := flat_le hx
  generalize lss[i] = ls at hx hnext hle
  have hw0 := wrap_next hil hlen
  have hnx : A ++ (lss.take (i + 1)).flatten = (A ++ (lss.take i).flatten) ++ ls := by rw [hnext, List.append_assoc]
  have hBl : (A ++ (lss.take i).flatten).length = A.length + (lss.take i).flatten.length := List.length_append
  generalize A ++ (lss.take i).flatten = B0 at sB hnx hBl ⊢
  obtain ⟨r, o, hv, hP⟩ := h.at hx
  obtain ⟨v2, l2, v8, l8, f0, f1, c2, f2, f3, f4, f5, f6, f7, c8, f8, rfl⟩ := hP
  simp only [List.length_append, List.length_cons, List.length_nil] at hle
  have e0 : (B0 ++ [(MK.s, r, o + 0)]).length = B0.length + 1 := List.length_append
  try try simp only [q_bind_some, castInt_int, q_castBool, q_castStr, q_castPtr, q_castFn, q_castAgg, q_castTuple, q_uncons, q_isNil, q_sl, q_nils, q_emp, q_ptr, q_nilp, q_fn, q_cond_true, q_cond_false, Bool.not_true, Bool.not_false, decide_true, decide_false, List.cons_append, List.nil_append, hv]
  refine B.run (markText_runs (wrs σ n B0) (n := n + B0.length) (by omega) (by omega)) ?_
  try simp only [q_bind_some, castInt_int, q_castBool, q_castStr, q_castPtr, q_castFn, q_castAgg, q_castTuple, q_uncons, q_isNil, q_sl, q_nils, q_emp, q_ptr, q_nilp, q_fn, q_cond_true, q_cond_false, Bool.not_true, Bool.not_false, decide_true, decide_false, List.cons_append, List.nil_append]
  obtain ⟨p0, s0⟩ := put_s sB f0
  have x0 := nx (n := n) (A := B0) (MK.s, r, o + 0) (by omega)
  try simp only [q_bind_some, castInt_int, q_castBool, q_castStr, q_castPtr, q_castFn, q_castAgg, q_castTuple, q_uncons, q_isNil, q_sl, q_nils, q_emp, q_ptr, q_nilp, q_fn, q_cond_true, q_cond_false, Bool.not_true, Bool.not_false, decide_true, decide_false, List.cons_append, List.nil_append, hv, p0, x0]
  generalize hb0 : B0 ++ [(MK.s, r, o + 0)] = B1 at *
  have e1 : (B1 ++ [(MK.b, r, o + 1)]).length = B1.length + 1 := List.length_append
  obtain ⟨p1, s1⟩ := put_b s0 f1
  have x1 := nx (n := n) (A := B1) (MK.b, r, o + 1) (by omega)
  try simp only [q_bind_some, castInt_int, q_castBool, q_castStr, q_castPtr, q_castFn, q_castAgg, q_castTuple, q_uncons, q_isNil, q_sl, q_nils, q_emp, q_ptr, q_nilp, q_fn, q_cond_true, q_cond_false, Bool.not_true, Bool.not_false, decide_true, decide_false, List.cons_append, List.nil_append, hv, p1, x1]
  generalize hb1 : B1 ++ [(MK.b, r, o + 1)] = B2 at *
  have e2 : (B2 ++ l2.flatten).length = B2.length + l2.flatten.length := List.length_append
  have q2 := rdc_cell (c2.shp s1).1
  try simp only [q_bind_some, castInt_int, q_castBool, q_castStr, q_castPtr, q_castFn, q_castAgg, q_castTuple, q_uncons, q_isNil, q_sl, q_nils, q_emp, q_ptr, q_nilp, q_fn, q_cond_true, q_cond_false, Bool.not_true, Bool.not_false, decide_true, decide_false, List.cons_append, List.nil_append, hv, q2]
  obtain ⟨g2, s2⟩ := markTreeArgS_lv (A := B2) s1 f2 h1 (by omega)
  refine B.run g2 ?_
  try simp only [q_bind_some, castInt_int, q_castBool, q_castStr, q_castPtr, q_castFn, q_castAgg, q_castTuple, q_uncons, q_isNil, q_sl, q_nils, q_emp, q_ptr, q_nilp, q_fn, q_cond_true, q_cond_false, Bool.not_true, Bool.not_false, decide_true, decide_false, List.cons_append, List.nil_append]
  generalize hb2 : B2 ++ l2.flatten = B3 at *
  have e3 : (B3 ++ [(MK.i, r, o + 3)]).length = B3.length + 1 := List.length_append
  obtain ⟨p3, s3⟩ := put_i s2 f3
  have x3 := nx (n := n) (A := B3) (MK.i, r, o + 3) (by omega)
  try simp only [q_bind_some, castInt_int, q_castBool, q_castStr, q_castPtr, q_castFn, q_castAgg, q_castTuple, q_uncons, q_isNil, q_sl, q_nils, q_emp, q_ptr, q_nilp, q_fn, q_cond_true, q_cond_false, Bool.not_true, Bool.not_false, decide_true, decide_false, List.cons_append, List.nil_append, hv, p3, x3]
  generalize hb3 : B3 ++ [(MK.i, r, o + 3)] = B4 at *
  have e4 : (B4 ++ [(MK.i, r, o + 4 + 0)]).length = B4.length + 1 := List.length_append
  obtain ⟨p4, s4⟩ := put_i s3 f4
  have x4 := nx (n := n) (A := B4) (MK.i, r, o + 4 + 0) (by omega)
  try simp only [q_bind_some, castInt_int, q_castBool, q_castStr, q_castPtr, q_castFn, q_castAgg, q_castTuple, q_uncons, q_isNil, q_sl, q_nils, q_emp, q_ptr, q_nilp, q_fn, q_cond_true, q_cond_false, Bool.not_true, Bool.not_false, decide_true, decide_false, List.cons_append, List.nil_append, hv, p4, x4]
  generalize hb4 : B4 ++ [(MK.i, r, o + 4 + 0)] = B5 at *
  have e5 : (B5 ++ [(MK.i, r, o + 4 + 1)]).length = B5.length + 1 := List.length_append
  obtain ⟨p5, s5⟩ := put_i s4 f5
  have x5 := nx (n := n) (A := B5) (MK.i, r, o + 4 + 1) (by omega)
  try simp only [q_bind_some, castInt_int, q_castBool, q_castStr, q_castPtr, q_castFn, q_castAgg, q_castTuple, q_uncons, q_isNil, q_sl, q_nils, q_emp, q_ptr, q_nilp, q_fn, q_cond_true, q_cond_false, Bool.not_true, Bool.not_false, decide_true, decide_false, List.cons_append, List.nil_append, hv, p5, x5]
  generalize hb5 : B5 ++ [(MK.i, r, o + 4 + 1)] = B6 at *
  have e6 : (B6 ++ [(MK.s, r, o + 4 + 2)]).length = B6.length + 1 := List.length_append
  try try simp only [q_bind_some, castInt_int, q_castBool, q_castStr, q_castPtr, q_castFn, q_castAgg, q_castTuple, q_uncons, q_isNil, q_sl, q_nils, q_emp, q_ptr, q_nilp, q_fn, q_cond_true, q_cond_false, Bool.not_true, Bool.not_false, decide_true, decide_false, List.cons_append, List.nil_append, hv, p0, x0]
  refine B.run (markText_runs (wrs σ n B6) (n := n + B6.length) (by omega) (by omega)) ?_
  try simp only [q_bind_some, castInt_int, q_castBool, q_castStr, q_castPtr, q_castFn, q_castAgg, q_castTuple, q_uncons, q_isNil, q_sl, q_nils, q_emp, q_ptr, q_nilp, q_fn, q_cond_true, q_cond_false, Bool.not_true, Bool.not_false, decide_true, decide_false, List.cons_append, List.nil_append]
  obtain ⟨p6, s6⟩ := put_s s5 f6
  have x6 := nx (n := n) (A := B6) (MK.s, r, o + 4 + 2) (by omega)
  try simp only [q_bind_some, castInt_int, q_castBool, q_castStr, q_castPtr, q_castFn, q_castAgg, q_castTuple, q_uncons, q_isNil, q_sl, q_nils, q_emp, q_ptr, q_nilp, q_fn, q_cond_true, q_cond_false, Bool.not_true, Bool.not_false, decide_true, decide_false, List.cons_append, List.nil_append, hv, p6, x6]
  generalize hb6 : B6 ++ [(MK.s, r, o + 4 + 2)] = B7 at *
  have e7 : (B7 ++ [(MK.s, r, o + 4 + 3)]).length = B7.length + 1 := List.length_append
  try try simp only [q_bind_some, castInt_int, q_castBool, q_castStr, q_castPtr, q_castFn, q_castAgg, q_castTuple, q_uncons, q_isNil, q_sl, q_nils, q_emp, q_ptr, q_nilp, q_fn, q_cond_true, q_cond_false, Bool.not_true, Bool.not_false, decide_true, decide_false, List.cons_append, List.nil_append, hv, p6, x6]
  refine B.run (markText_runs (wrs σ n B7) (n := n + B7.length) (by omega) (by omega)) ?_
  try simp only [q_bind_some, castInt_int, q_castBool, q_castStr, q_castPtr, q_castFn, q_castAgg, q_castTuple, q_uncons, q_isNil, q_sl, q_nils, q_emp, q_ptr, q_nilp, q_fn, q_cond_true, q_cond_false, Bool.not_true, Bool.not_false, decide_true, decide_false, List.cons_append, List.nil_append]
  obtain ⟨p7, s7⟩ := put_s s6 f7
  have x7 := nx (n := n) (A := B7) (MK.s, r, o + 4 + 3) (by omega)
  try simp only [q_bind_some, castInt_int, q_castBool, q_castStr, q_castPtr, q_castFn, q_castAgg, q_castTuple, q_uncons, q_isNil, q_sl, q_nils, q_emp, q_ptr, q_nilp, q_fn, q_cond_true, q_cond_false, Bool.not_true, Bool.not_false, decide_true, decide_false, List.cons_append, List.nil_append, hv, p7, x7]
  generalize hb7 : B7 ++ [(MK.s, r, o + 4 + 3)] = B8 at *
  have e8 : (B8 ++ l8.flatten).length = B8.length + l8.flatten.length := List.length_append
  have q8 := rdc_cell (c8.shp s7).1
  try simp only [q_bind_some, castInt_int, q_castBool, q_castStr, q_castPtr, q_castFn, q_castAgg, q_castTuple, q_uncons, q_isNil, q_sl, q_nils, q_emp, q_ptr, q_nilp, q_fn, q_cond_true, q_cond_false, Bool.not_true, Bool.not_false, decide_true, decide_false, List.cons_append, List.nil_append, hv, q8]
  obtain ⟨g8, s8⟩ := markTreeExprS_lv (A := B8) s7 f8 h1 (by omega)
  refine B.run g8 ?_
  try simp only [q_bind_some, castInt_int, q_castBool, q_castStr, q_castPtr, q_castFn, q_castAgg, q_castTuple, q_uncons, q_isNil, q_sl, q_nils, q_emp, q_ptr, q_nilp, q_fn, q_cond_true, q_cond_false, Bool.not_true, Bool.not_false, decide_true, decide_false, List.cons_append, List.nil_append]
  generalize hb8 : B8 ++ l8.flatten = B9 at *
  have hfin : A ++ (lss.take (i + 1)).flatten = B9 := by
      rw [hnx, ← hb8, ← hb7, ← hb6, ← hb5, ← hb4, ← hb3, ← hb2, ← hb1, ← hb0]
      try simp only [List.append_assoc]
  refine W.again (i + 1) ⟨by omega, by rw [hfin]; exact s8⟩ (by omega) (by rw [hfin, hw0]) (by rw [hfin])
def PFaceSig (σ : Heap) (r o : Nat) (ls : List Leaf) : Prop := ∃ (v1 : V) (l1 : List (List Leaf)), Fl σ .s r (o + 0) ∧ Cl σ r (o + 1) v1 ∧ LvS 1 (PInt σ) σ v1 l1 ∧ Fl σ .i r (o + 2) ∧ ls = [(.s, r, o + 0)] ++ (l1.flatten ++ ([(.i, r, o + 2)]))
theorem PFaceSig.shp {σ σ' : Heap} (s : Shp σ σ') {r o : Nat} {ls : List Leaf} (h : PFaceSig σ r o ls) : PFaceSig σ' r o ls := by
  obtain ⟨v1, l1, h0, c1, h1, h2, rfl⟩ := h
  exact ⟨v1, l1, h0.shp s, c1.shp s, h1.mono s fun _ _ _ h => PInt.shp s h, h2.shp s, rfl⟩
theorem PFaceSig.cells {σ : Heap} {r o : Nat} {ls : List Leaf} (h : PFaceSig σ r o ls) : ∀ k r' o', (k, r', o') ∈ ls → cellAt σ r' o' ≠ none := fun k r' o' hm => by
      obtain ⟨v1, l1, h0, c1, h1, h2, rfl⟩ := h
      rcases List.mem_append.1 hm with hm | hm
      · exact (fun k r' o' hm => by
          simp at hm
          obtain ⟨rfl, rfl, rfl⟩ := hm
          exact h0.cell) k r' o' hm
      rcases List.mem_append.1 hm with hm | hm
      · exact (h1.cells fun _ _ _ h => PInt.cells h) k r' o' hm
      exact (fun k r' o' hm => by
        simp at hm
        obtain ⟨rfl, rfl, rfl⟩ := hm
        exact h2.cell) k r' o' hm
theorem PFaceSig.pos {σ : Heap} {r o : Nat} {ls : List Leaf} (h : PFaceSig σ r o ls) : 1 ≤ ls.length := by
  obtain ⟨v1, l1, f0, c1, f1, f2, rfl⟩ := h
  simp
theorem markFaceSigS_lv {σ0 σ : Heap} {n : Nat} {A : List Leaf} {v : V} {lss : List (List Leaf)} (s : Shp σ0 (wrs σ n A)) (h : LvS 3 (PFaceSig σ0) σ0 v lss) (h1 : 1 ≤ n) (h2 : n + A.length + lss.flatten.length ≤ 1099511627776) : Runs G n_laws_markFaceSigS [v, .int .i64 ((n + A.length : Nat) : Int)] (wrs σ n A) (.int .i64 ((n + (A ++ lss.flatten).length : Nat) : Int)) (wrs σ n (A ++ lss.flatten)) ∧ Shp σ0 (wrs σ n (A ++ lss.flatten)) := by
  suffices hE : HM.Ends G n_laws_markFaceSigS [v, .int .i64 ((n + A.length : Nat) : Int)] (wrs σ n A) (fun w σ' => w = .int .i64 ((n + (A ++ lss.flatten).length : Nat) : Int) ∧ σ' = wrs σ n (A ++ lss.flatten) ∧ Shp σ0 σ') by
    obtain ⟨w, σ', ⟨rfl, rfl, hs⟩, hr⟩ := hE
    exact ⟨hr, hs⟩
  have hlen : lss.length ≤ 4611686018427387904 := h.len_le (by omega) fun r o ls h => by
      have := PFaceSig.pos h
      omega
  refine HM.Ends.mk (W.to (fun k _ => laws_markFaceSigS.eq k _ _ _) ?_)
  generalize hG : (fun (w : V) (σ' : Heap) => w = .int .i64 ((n + (A ++ lss.flatten).length : Nat) : Int) ∧ σ' = wrs σ n (A ++ lss.flatten) ∧ Shp σ0 σ') = Good
  rw [← List.append_nil A]
  refine W.loop (S := Nat) (fun i => i ≤ lss.length ∧ Shp σ0 (wrs σ n (A ++ (lss.take i).flatten))) (fun i => [.v v, .v (.int .i64 ((n + (A ++ (lss.take i).flatten).length : Nat) : Int)), .v (.int .i64 (i : Int))]) (fun i => wrs σ n (A ++ (lss.take i).flatten)) (fun i => lss.length - i) (fun i ⟨hi', sB⟩ => ?_)
    0 ⟨Nat.zero_le _, by simpa using s⟩
  refine W.to (fun k _ => by rw [laws_markFaceSigS.L0_step]) ?_
  refine B.bind h.vlen (B.ite (fun hlt => ?_) fun hlt => ?_)
  rotate_left
  · rw [List.take_of_length_le (by omega)] at sB ⊢
    try simp only [q_bind_some, castInt_int, q_castBool, q_castStr, q_castPtr, q_castFn, q_castAgg, q_castTuple, q_uncons, q_isNil, q_sl, q_nils, q_emp, q_ptr, q_nilp, q_fn, q_cond_true, q_cond_false, Bool.not_true, Bool.not_false, decide_true, decide_false, List.cons_append, List.nil_append, laws_markFaceSigS.A0_x0]
    subst hG
    exact W.ret ⟨rfl, rfl, sB⟩
  have hil : i < lss.length := by omega
  have hx : lss[i]? = some lss[i] := List.getElem?_eq_getElem hil
  have hnext := flat_next hx
  have hle := flat_le hx
  generalize lss[i] = ls at hx hnext hle
  have hw0 := wrap_next hil hlen
  have hnx : A ++ (lss.take (i + 1)).flatten = (A ++ (lss.take i).flatten) ++ ls := by rw [hnext, List.append_assoc]
  have hBl : (A ++ (lss.take i).flatten).length = A.length + (lss.take i).flatten.length := List.length_append
  generalize A ++ (lss.take i).flatten = B0 at sB hnx hBl ⊢
  obtain ⟨r, o, hv, hP⟩ := h.at hx
  obtain ⟨v1, l1, f0, c1, f1, f2, rfl⟩ := hP
  simp only [List.length_append, List.length_cons, List.length_nil] at hle
  have e0 : (B0 ++ [(MK.s, r, o + 0)]).length = B0.length + 1 := List.length_append
  try try simp only [q_bind_some, castInt_int, q_castBool, q_castStr, q_castPtr, q_castFn, q_castAgg, q_castTuple, q_uncons, q_isNil, q_sl, q_nils, q_emp, q_ptr, q_nilp, q_fn, q_cond_true, q_cond_false, Bool.not_true, Bool.not_false, decide_true, decide_false, List.cons_append, List.nil_append, hv]
  refine B.run (markText_runs (wrs σ n B0) (n := n + B0.length) (by omega) (by omega)) ?_
  try simp only [q_bind_some, castInt_int, q_castBool, q_castStr, q_castPtr, q_castFn, q_castAgg, q_castTuple, q_uncons, q_isNil, q_sl, q_nils, q_emp, q_ptr, q_nilp, q_fn, q_cond_true, q_cond_false, Bool.not_true, Bool.not_false, decide_true, decide_false, List.cons_append, List.nil_append]
  obtain ⟨p0, s0⟩ := put_s sB f0
  have x0 := nx (n := n) (A := B0) (MK.s, r, o + 0) (by omega)
  try simp only [q_bind_some, castInt_int, q_castBool, q_castStr, q_castPtr, q_castFn, q_castAgg, q_castTuple, q_uncons, q_isNil, q_sl, q_nils, q_emp, q_ptr, q_nilp, q_fn, q_cond_true, q_cond_false, Bool.not_true, Bool.not_false, decide_true, decide_false, List.cons_append, List.nil_append, hv, p0, x0]
  generalize hb0 : B0 ++ [(MK.s, r, o + 0)] = B1 at *
  have e1 : (B1 ++ l1.flatten).length = B1.length + l1.flatten.length := List.length_append
  have q1 := rdc_cell (c1.shp s0).1
  try simp only [q_bind_some, castInt_int, q_castBool, q_castStr, q_castPtr, q_castFn, q_castAgg, q_castTuple, q_uncons, q_isNil, q_sl, q_nils, q_emp, q_ptr, q_nilp, q_fn, q_cond_true, q_cond_false, Bool.not_true, Bool.not_false, decide_true, decide_false, List.cons_append, List.nil_append, hv, q1]
  obtain ⟨g1, s1⟩ := markIntS_lv (A := B1) s0 f1 h1 (by omega)
  refine B.run g1 ?_
  try simp only [q_bind_some, castInt_int, q_castBool, q_castStr, q_castPtr, q_castFn, q_castAgg, q_castTuple, q_uncons, q_isNil, q_sl, q_nils, q_emp, q_ptr, q_nilp, q_fn, q_cond_true, q_cond_false, Bool.not_true, Bool.not_false, decide_true, decide_false, List.cons_append, List.nil_append]
  generalize hb1 : B1 ++ l1.flatten = B2 at *
  have e2 : (B2 ++ [(MK.i, r, o + 2)]).length = B2.length + 1 := List.length_append
  obtain ⟨p2, s2⟩ := put_i s1 f2
  have x2 := nx (n := n) (A := B2) (MK.i, r, o + 2) (by omega)
  try simp only [q_bind_some, castInt_int, q_castBool, q_castStr, q_castPtr, q_castFn, q_castAgg, q_castTuple, q_uncons, q_isNil, q_sl, q_nils, q_emp, q_ptr, q_nilp, q_fn, q_cond_true, q_cond_false, Bool.not_true, Bool.not_false, decide_true, decide_false, List.cons_append, List.nil_append, hv, p2, x2]
  generalize hb2 : B2 ++ [(MK.i, r, o + 2)] = B3 at *
  have hfin : A ++ (lss.take (i + 1)).flatten = B3 := by
      rw [hnx, ← hb2, ← hb1, ← hb0]
      try simp only [List.append_assoc]
  refine W.again (i + 1) ⟨by omega, by rw [hfin]; exact s2⟩ (by omega) (by rw [hfin, hw0]) (by rw [hfin])
theorem heldFaceSigS_lv {σ0 σ : Heap} {n : Nat} {v : V} {lss : List (List Leaf)} (s : Shp σ0 σ) (h : LvS 3 (PFaceSig σ0) σ0 v lss) (hm : HeldAt σ n lss.flatten) (h1 : 1 ≤ n) (h2 : n + lss.flatten.length ≤ 1099511627776) : Runs G n_laws_heldFaceSigS [v, .int .i64 (n : Int)] σ (.int .i64 ((n + lss.flatten.length : Nat) : Int)) σ := by
  have hlen : lss.length ≤ 4611686018427387904 := h.len_le (by omega) fun r o ls h => by
      have := PFaceSig.pos h
      omega
  refine Runs.of (W.to (fun k _ => laws_heldFaceSigS.eq k _ _ _) ?_)
  refine W.loop (S := Nat) (fun i => i ≤ lss.length) (fun i => [.v v, .v (.int .i64 ((n + (lss.take i).flatten.length : Nat) : Int)), .v (.int .i64 (i : Int))]) (fun i => σ) (fun i => lss.length - i) (fun i hi' => ?_) 0 (Nat.zero_le _)
  refine W.to (fun k _ => by rw [laws_heldFaceSigS.L0_step]) ?_
  refine B.bind h.vlen (B.ite (fun hlt => ?_) fun hlt => ?_)
  rotate_left
  · rw [List.take_of_length_le (by omega)]
    try simp only [q_bind_some, castInt_int, q_castBool, q_castStr, q_castPtr, q_castFn, q_castAgg, q_castTuple, q_uncons, q_isNil, q_sl, q_nils, q_emp, q_ptr, q_nilp, q_fn, q_cond_true, q_cond_false, Bool.not_true, Bool.not_false, decide_true, decide_false, List.cons_append, List.nil_append, laws_heldFaceSigS.A0_x0]
    exact W.ret ⟨rfl, rfl⟩
  have hil : i < lss.length := by omega
  have hx : lss[i]? = some lss[i] := List.getElem?_eq_getElem hil
  have hnext := flat_next hx
  have hle := flat_le hx
  obtain ⟨rest, hcut⟩ := flat_cut hx
  generalize lss[i] = ls at hx hnext hle hcut
  have hw0 := wrap_next hil hlen
  have hh := (hcut ▸ hm : HeldAt σ n ((lss.take i).flatten ++ (ls ++ rest))).app.2.app.1
  obtain ⟨r, o, hv, hP⟩ := h.at hx
  obtain ⟨v1, l1, f0, c1, f1, f2, rfl⟩ := hP
  simp only [List.length_append, List.length_cons, List.length_nil] at hle hnext
  have hm0 : n + (lss.take i).flatten.length = n + (lss.take i).flatten.length := rfl
  generalize hq0 : n + (lss.take i).flatten.length = m0 at hh ⊢
  have z0 : n ≤ m0 := by omega
  have t0 := hh.app.1
  have u0 := hh.app.2
  have r0 := rdc_cell t0.one
  have r0 : rdc σ r (o + 0) 1 = some [.str (mText m0)] := r0
  try simp only [q_bind_some, castInt_int, q_castBool, q_castStr, q_castPtr, q_castFn, q_castAgg, q_castTuple, q_uncons, q_isNil, q_sl, q_nils, q_emp, q_ptr, q_nilp, q_fn, q_cond_true, q_cond_false, Bool.not_true, Bool.not_false, decide_true, decide_false, List.cons_append, List.nil_append, hv, r0]
  refine B.run (markText_runs (prot [r] σ) (n := m0) (by omega) (by omega)) ?_
  try simp only [q_bind_some, castInt_int, q_castBool, q_castStr, q_castPtr, q_castFn, q_castAgg, q_castTuple, q_uncons, q_isNil, q_sl, q_nils, q_emp, q_ptr, q_nilp, q_fn, q_cond_true, q_cond_false, Bool.not_true, Bool.not_false, decide_true, decide_false, List.cons_append, List.nil_append, decide_eq_true (rfl : mText m0 = mText m0), unprot0]
  generalize hq1 : m0 + [((MK.s, r, o + 0) : Leaf)].length = m1 at *
  have hq1 : m0 + 1 = m1 := hq1
  have w0 : IntKind.wrap .i64 ((m0 : Int) + 1) = (m1 : Int) := by rw [wrap_id (by omega) (by omega)]; omega
  try try simp only [q_bind_some, castInt_int, q_castBool, q_castStr, q_castPtr, q_castFn, q_castAgg, q_castTuple, q_uncons, q_isNil, q_sl, q_nils, q_emp, q_ptr, q_nilp, q_fn, q_cond_true, q_cond_false, Bool.not_true, Bool.not_false, decide_true, decide_false, List.cons_append, List.nil_append, w0]
  have t1 := u0.app.1
  have u1 := u0.app.2
  have r1 := rdc_cell (c1.shp s).1
  try simp only [q_bind_some, castInt_int, q_castBool, q_castStr, q_castPtr, q_castFn, q_castAgg, q_castTuple, q_uncons, q_isNil, q_sl, q_nils, q_emp, q_ptr, q_nilp, q_fn, q_cond_true, q_cond_false, Bool.not_true, Bool.not_false, decide_true, decide_false, List.cons_append, List.nil_append, hv, r1]
  refine B.run (heldIntS_lv s f1 t1 (by omega) (by omega)) ?_
  try simp only [q_bind_some, castInt_int, q_castBool, q_castStr, q_castPtr, q_castFn, q_castAgg, q_castTuple, q_uncons, q_isNil, q_sl, q_nils, q_emp, q_ptr, q_nilp, q_fn, q_cond_true, q_cond_false, Bool.not_true, Bool.not_false, decide_true, decide_false, List.cons_append, List.nil_append, decide_eq_false (show ¬ ((m1 + l1.flatten.length : Nat) : Int) < 0 by omega)]
  generalize hq2 : m1 + l1.flatten.length = m2 at *
  have t2 := u1
  have r2 := rdc_cell t2.one
  have r2 : rdc σ r (o + 2) 1 = some [.int .i64 (m2 : Int)] := r2
  try simp only [q_bind_some, castInt_int, q_castBool, q_castStr, q_castPtr, q_castFn, q_castAgg, q_castTuple, q_uncons, q_isNil, q_sl, q_nils, q_emp, q_ptr, q_nilp, q_fn, q_cond_true, q_cond_false, Bool.not_true, Bool.not_false, decide_true, decide_false, List.cons_append, List.nil_append, hv, r2]
  try simp only [q_bind_some, castInt_int, q_castBool, q_castStr, q_castPtr, q_castFn, q_castAgg, q_castTuple, q_uncons, q_isNil, q_sl, q_nils, q_emp, q_ptr, q_nilp, q_fn, q_cond_true, q_cond_false, Bool.not_true, Bool.not_false, decide_true, decide_false, List.cons_append, List.nil_append, decide_eq_true (rfl : (m2 : Int) = (m2 : Int))]
  generalize hq3 : m2 + 1 = m3 at *
  have w2 : IntKind.wrap .i64 ((m2 : Int) + 1) = (m3 : Int) := by rw [wrap_id (by omega) (by omega)]; omega
  try try simp only [q_bind_some, castInt_int, q_castBool, q_castStr, q_castPtr, q_castFn, q_castAgg, q_castTuple, q_uncons, q_isNil, q_sl, q_nils, q_emp, q_ptr, q_nilp, q_fn, q_cond_true, q_cond_false, Bool.not_true, Bool.not_false, decide_true, decide_false, List.cons_append, List.nil_append, w2]
  have hfin : n + (lss.take (i + 1)).flatten.length = m3 := by rw [hnext]; simp only [List.length_append, List.length_cons, List.length_nil]; omega
  exact W.again (i + 1) (show i + 1 ≤ lss.length by omega) (by omega) (by rw [hfin, hw0]) rfl
end Go.Y

/- Values with their rows, and the places of their marks. -/
set_option linter.unusedVariables false
set_option linter.unusedSimpArgs false
namespace Go.Y
open Go.HM Go.Proofs
def RInt (σ : Heap) (cs : List V) (x : Int) (R : List Nat) : Prop := cs = [.int .i64 x] ∧ R = []
theorem RInt.keep {σ σ' : Heap} (cs : List V) (x : Int) (R : List Nat) (h : RInt σ cs x R) (_ : ∀ j, j ∈ R → σ'[j]? = σ[j]?) : RInt σ' cs x R := h
theorem RInt.le {σ σ' : Heap} (hl : Lh σ σ') (cs : List V) (x : Int) (R : List Nat) (h : RInt σ cs x R) : RInt σ' cs x R := h
theorem RInt.lt {σ : Heap} (cs : List V) (x : Int) (R : List Nat) (h : RInt σ cs x R) : ∀ j, j ∈ R → j < σ.length := fun j hj => by
  rw [h.2] at hj
  cases hj
theorem RInt.rep {σ : Heap} (cs : List V) (x : Int) (R : List Nat) (h : RInt σ cs x R) : IntRep cs x := h.1
theorem RInt.lv {σ : Heap} (r o : Nat) (cs : List V) (x : Int) (R : List Nat) (hw : ∃ row, σ[r]? = some (some row) ∧ row.ro = false) (hr : rdc σ r o 1 = some cs) (h : RInt σ cs x R) (hn : R.Nodup) (hrn : r ∉ R) : ∃ ls, PInt σ r o ls ∧ LOk r o (o + 1) R ls ∧ ls.length ≤ 8 := by
  obtain ⟨rfl, rfl⟩ := h
  exact ⟨_, ⟨fl_of (f := 0) (x := .int .i64 x) hw hr rfl rfl, rfl⟩, LOk.one _ _ _, by simp⟩
theorem PInt.of {σ : Heap} (r o : Nat) (cs : List V) (x : Int) (hw : ∃ row, σ[r]? = some (some row) ∧ row.ro = false) (hr : rdc σ r o 1 = some cs) (h : IntRep cs x) : ∃ ls, PInt σ r o ls ∧ ls.length ≤ 8 := by
  unfold IntRep at h
  subst h
  exact ⟨_, ⟨fl_of (f := 0) (x := .int .i64 x) hw hr rfl rfl, rfl⟩, by simp⟩
theorem PFaceSig.of {σ : Heap} (r o : Nat) (cs : List V) (x : FaceSig) (hw : ∀ (r : Nat) row, σ[r]? = some (some row) → row.ro = false) (hr : rdc σ r o 3 = some cs) (h : FaceSig.Rep σ cs x) : ∃ ls, PFaceSig σ r o ls ∧ ls.length ≤ 8 + 8 * x.total := by
  obtain ⟨row0, hrow0, _, _⟩ := rdc_some hr
  have hw0 : ∃ row, σ[r]? = some (some row) ∧ row.ro = false := ⟨row0, hrow0, hw r row0 hrow0⟩
  cases h with
  | mk h1 =>
  obtain ⟨l1, k1, b1⟩ := h1.lv (P := PInt σ) (c := (fun _ => 8)) hw (fun r o cs x _ hw' hr hq => PInt.of r o cs x hw' hr hq)
  rw [totS_eight] at b1
  refine ⟨_, ⟨_, l1, fl_of (f := 0) (x := .str x.name) hw0 hr rfl trivial, cl_of (f := 1) hr rfl h1.isSl, k1, fl_of (f := 2) (x := .int .i64 x.type) hw0 hr rfl rfl, rfl⟩, ?_⟩
  rw [FaceSig.total_eq]
  simp only [List.length_append, List.length_cons, List.length_nil]
  omega
def RString (σ : Heap) (cs : List V) (x : ByteArray) (R : List Nat) : Prop := cs = [.str x] ∧ R = []
theorem RString.keep {σ σ' : Heap} (cs : List V) (x : ByteArray) (R : List Nat) (h : RString σ cs x R) (_ : ∀ j, j ∈ R → σ'[j]? = σ[j]?) : RString σ' cs x R := h
theorem RString.le {σ σ' : Heap} (hl : Lh σ σ') (cs : List V) (x : ByteArray) (R : List Nat) (h : RString σ cs x R) : RString σ' cs x R := h
theorem RString.lt {σ : Heap} (cs : List V) (x : ByteArray) (R : List Nat) (h : RString σ cs x R) : ∀ j, j ∈ R → j < σ.length := fun j hj => by
  rw [h.2] at hj
  cases hj
theorem RString.rep {σ : Heap} (cs : List V) (x : ByteArray) (R : List Nat) (h : RString σ cs x R) : StrRep cs x := h.1
theorem RString.lv {σ : Heap} (r o : Nat) (cs : List V) (x : ByteArray) (R : List Nat) (hw : ∃ row, σ[r]? = some (some row) ∧ row.ro = false) (hr : rdc σ r o 1 = some cs) (h : RString σ cs x R) (hn : R.Nodup) (hrn : r ∉ R) : ∃ ls, PString σ r o ls ∧ LOk r o (o + 1) R ls ∧ ls.length ≤ 8 := by
  obtain ⟨rfl, rfl⟩ := h
  exact ⟨_, ⟨fl_of (f := 0) (x := .str x) hw hr rfl trivial, rfl⟩, LOk.one _ _ _, by simp⟩
theorem PString.of {σ : Heap} (r o : Nat) (cs : List V) (x : ByteArray) (hw : ∃ row, σ[r]? = some (some row) ∧ row.ro = false) (hr : rdc σ r o 1 = some cs) (h : StrRep cs x) : ∃ ls, PString σ r o ls ∧ ls.length ≤ 8 := by
  unfold StrRep at h
  subst h
  exact ⟨_, ⟨fl_of (f := 0) (x := .str x) hw hr rfl trivial, rfl⟩, by simp⟩
theorem PTreeArg.of {σ : Heap} (r o : Nat) (cs : List V) (x : TreeArg) (hw : ∀ (r : Nat) row, σ[r]? = some (some row) → row.ro = false) (hr : rdc σ r o 2 = some cs) (h : TreeArg.Rep σ cs x) : ∃ ls, PTreeArg σ r o ls ∧ ls.length ≤ 8 + 8 * x.total := by
  obtain ⟨row0, hrow0, _, _⟩ := rdc_some hr
  have hw0 : ∃ row, σ[r]? = some (some row) ∧ row.ro = false := ⟨row0, hrow0, hw r row0 hrow0⟩
  cases h with
  | mk =>
  refine ⟨_, ⟨fl_of (f := 0) (x := .str x.name) hw0 hr rfl trivial, fl_of (f := 1) (x := .int .i64 x.type) hw0 hr rfl rfl, rfl⟩, ?_⟩
  rw [TreeArg.total_eq]
  simp only [List.length_append, List.length_cons, List.length_nil]
  omega
end Go.Y

/- Rows of signatures of one's own, and how they are sorted. -/
set_option linter.unusedVariables false
set_option linter.unusedSimpArgs false
namespace Go.Y
open Go.HM Go.Proofs
def RSig (σ : Heap) (cs : List V) (x : FaceSig) (R : List Nat) : Prop := ∃ v1, cs = [.str x.name, v1, .int .i64 x.type] ∧ RepR 1 (RInt σ) σ v1 x.args R
theorem RSig.keep {σ σ' : Heap} (cs : List V) (x : FaceSig) (R : List Nat) (h : RSig σ cs x R) (hk : ∀ j, j ∈ R → σ'[j]? = σ[j]?) : RSig σ' cs x R := by
  obtain ⟨v1, h1, h2⟩ := h
  exact ⟨v1, h1, h2.keep hk fun cs x R hq hk => RInt.keep cs x R hq hk⟩
theorem RSig.le {σ σ' : Heap} (hl : Lh σ σ') (cs : List V) (x : FaceSig) (R : List Nat) (h : RSig σ cs x R) : RSig σ' cs x R := by
  obtain ⟨v1, h1, h2⟩ := h
  exact ⟨v1, h1, h2.le hl fun cs x R hq => hq⟩
theorem RSig.lt {σ : Heap} (cs : List V) (x : FaceSig) (R : List Nat) (h : RSig σ cs x R) : ∀ j, j ∈ R → j < σ.length := by
  obtain ⟨v1, h1, h2⟩ := h
  exact h2.lt fun cs x R hq => RInt.lt cs x R hq
theorem RSig.rep {σ : Heap} (cs : List V) (x : FaceSig) (R : List Nat) (h : RSig σ cs x R) : FaceSig.Rep σ cs x := by
  obtain ⟨v1, rfl, h2⟩ := h
  exact .mk (h2.rep fun cs y R _ h => RInt.rep cs y R h)
theorem RSig.lv {σ : Heap} (r o : Nat) (cs : List V) (x : FaceSig) (R : List Nat) (hw : ∃ row, σ[r]? = some (some row) ∧ row.ro = false) (hr : rdc σ r o 3 = some cs) (h : RSig σ cs x R) (hn : R.Nodup) (hrn : r ∉ R) : ∃ ls, PFaceSig σ r o ls ∧ LOk r o (o + 3) R ls ∧ ls.length ≤ 8 + 8 * x.args.length := by
  obtain ⟨v1, rfl, h1⟩ := h
  obtain ⟨l1, k1, o1, b1⟩ := h1.lv (P := PInt σ) (c := (fun _ => 8)) hn (fun r o cs x R hw hr hq hn hrn => RInt.lv r o cs x R hw hr hq hn hrn)
  rw [totS_eight] at b1
  refine ⟨_, ⟨v1, l1, fl_of (f := 0) (x := .str x.name) hw hr rfl trivial, cl_of (f := 1) (x := v1) hr rfl h1.isSl, k1, fl_of (f := 2) (x := .int .i64 x.type) hw hr rfl rfl, rfl⟩, ?_, ?_⟩
  · have a1 : LOk r (o + 1) (o + 3) (R ++ []) (l1.flatten ++ [(.i, r, o + 2)]) := LOk.app (m := o + 2) (o1.field r (o + 1)) (LOk.one _ r (o + 2)) (by omega) (by omega) (by simpa using hn) (by simpa using hrn)
    rw [List.append_nil] at a1
    exact LOk.app (m := o + 1) (R1 := []) (R2 := R) (LOk.one _ r (o + 0)) a1 (by omega) (by omega) (by simpa using hn) (by simpa using hrn)
  · simp only [List.length_append, List.length_cons, List.length_nil]
    omega
/-- A signature in a row: its list, and that list's rows. -/
structure El where
  s : FaceSig
  v : V
  R : List Nat
def El.cells (e : El) : List V := [.str e.s.name, e.v, .int .i64 e.s.type]
def flatE (l : List El) : List V := (l.map El.cells).flatten
theorem flatE_len (l : List El) : (flatE l).length = l.length * 3 := by
  unfold flatE
  induction l with
  | nil => rfl
  | cons e l ih => rw [List.map_cons, List.flatten_cons, List.length_append, ih]; simp [El.cells]; omega
theorem flatE_at : ∀ (l : List El) (i : Nat) (e : El), l[i]? = some e → ((flatE l).drop (i * 3)).take 3 = e.cells
  | x :: l, 0, e, h => by simp at h; subst h; rfl
  | x :: l, i + 1, e, h => by
    have : flatE (x :: l) = x.cells ++ flatE l := rfl
    rw [this, show (i + 1) * 3 = x.cells.length + i * 3 by simp [El.cells]; omega, ← List.drop_drop, List.drop_left]
    exact flatE_at l i e (by simpa using h)
theorem flatE_set : ∀ (l : List El) (i : Nat) (e : El), i < l.length → setCells (flatE l) (i * 3) e.cells = flatE (l.set i e) := by
  intro l i e hi
  apply List.ext_getElem?
  intro j
  have hl := flatE_len l
  rw [setCells_get _ _ _ _ (by rw [hl]; simp [El.cells]; omega)]
  have key : ∀ (m : List El) (i j : Nat) (x : El), m[i]? = some x → i * 3 ≤ j → j < i * 3 + 3 → (flatE m)[j]? = x.cells[j - i * 3]? := fun m i j x hx h1 h2 => by
    have := flatE_at m i x hx
    rw [← this, List.getElem?_take, if_pos (by omega), List.getElem?_drop]
    congr 1
    omega
  by_cases h : i * 3 ≤ j ∧ j < i * 3 + e.cells.length
  · rw [if_pos h, key (l.set i e) i j e (by simp [hi]) h.1 (by have := h.2; simp [El.cells] at this; omega)]
  · rw [if_neg h]
    by_cases hj : j < l.length * 3
    · obtain ⟨q, hq1, hq2⟩ : ∃ q, q * 3 ≤ j ∧ j < q * 3 + 3 := ⟨j / 3, by omega, by omega⟩
      have hql : q < l.length := by omega
      have hqi : q ≠ i := fun hc => by subst hc; exact h ⟨hq1, by simp [El.cells]; omega⟩
      rw [key l q j l[q] (List.getElem?_eq_getElem hql) hq1 hq2, key (l.set i e) q j l[q] (by rw [List.getElem?_set, if_neg (Ne.symm hqi)]; exact List.getElem?_eq_getElem hql) hq1 hq2]
    · rw [List.getElem?_eq_none (by rw [hl]; omega), List.getElem?_eq_none (by rw [flatE_len, List.length_set]; omega)]
/-- A row that may be written and holds such signatures. -/
def SRow (σ : Heap) (q : Nat) (l : List El) : Prop := ∃ ty, σ[q]? = some (some ⟨flatE l, 3, false, ty⟩)
theorem SRow.rd {σ : Heap} {q : Nat} {l : List El} (h : SRow σ q l) {i : Nat} {e : El} (hx : l[i]? = some e) : rdc σ q (i * 3) 3 = some e.cells := by
  obtain ⟨ty, h⟩ := h
  have hi := lt_of_get hx
  unfold rdc
  rw [h]
  simp only
  rw [if_pos (by rw [flatE_len]; omega), flatE_at l i e hx]
theorem SRow.put {σ : Heap} {q : Nat} {l : List El} (h : SRow σ q l) {i : Nat} (hi : i < l.length) (e : El) : ∃ σ', wrc σ q (i * 3) e.cells = some σ' ∧ SRow σ' q (l.set i e) ∧ σ'.length = σ.length ∧ ∀ j, j ≠ q → σ'[j]? = σ[j]? := by
  obtain ⟨ty, h⟩ := h
  refine ⟨σ.set q (some ⟨flatE (l.set i e), 3, false, ty⟩), ?_, ⟨ty, by simp [get_lt h]⟩, by simp, fun j hj => by rw [List.getElem?_set, if_neg (Ne.symm hj)]⟩
  unfold wrc
  rw [h]
  simp only
  rw [if_pos ⟨trivial, by rw [flatE_len]; simp [El.cells]; omega⟩, flatE_set l i e hi]
theorem wrap_u64 {n : Int} (h1 : 0 ≤ n) (h2 : n ≤ 9223372036854775807) : IntKind.wrap .u64 n = n := by
  have hb : IntKind.u64.bits = 64 := rfl
  have hs : IntKind.u64.signed = false := rfl
  have e1 : (2 ^ 64 : Int) = 18446744073709551616 := by decide
  unfold IntKind.wrap
  simp only [hb, hs, e1, Bool.false_and]
  simp
  omega
theorem cmp_runs {σ : Heap} (x y : El) : Runs G n_impl_faceOf_1 [.agg x.cells, .agg y.cells] σ (.int .i64 (Lib.compareBytes x.s.name.data.toList y.s.name.data.toList)) σ := by
  refine Runs.of (W.to (fun k _ => impl_faceOf_1.eq k _ _ _ _ _ _ _) ?_)
  have c : Runs G n_strings_Compare [.str x.s.name, .str y.s.name] σ (.int .i64 (Lib.compareBytes x.s.name.data.toList y.s.name.data.toList)) σ := hook_runs (h := hkCompare) rfl rfl
  refine W.run c ?_
  try simp only [q_bind_some, castInt_int, q_castBool, q_castStr, q_castPtr, q_castFn, q_castAgg, q_castTuple, q_uncons, q_isNil, q_sl, q_nils, q_emp, q_ptr, q_nilp, q_fn, q_cond_true, q_cond_false, Bool.not_true, Bool.not_false, decide_true, decide_false, List.cons_append, List.nil_append]
  exact W.ret ⟨rfl, rfl⟩
def nm (l : List El) : List FaceSig := l.map (·.s)
/-- While place i is sorted in: what is ahead, the one that moves, what is behind. -/
def Mid (l : List El) (i j : Nat) : Prop := ∃ A x B C, l = A ++ x :: B ++ C ∧ A.length = j ∧ A.length + 1 + B.length = i + 1 ∧ (nm (A ++ B)).Pairwise Lt ∧ ∀ b, b ∈ B → Lt x.s b.s
theorem insertion_ends {σ : Heap} {q : Nat} {lim : Bool} {l : List El} (h : SRow σ q l) (hl : l.length ≤ 12) (hd : ((nm l).map (·.name)).Nodup) :
    HM.Ends G n_slices_insertionSortCmpFunc_impl_FaceSig [.sl q 0 l.length lim, .int .i64 0, .int .i64 (l.length : Int), .fn n_impl_faceOf_1 []] σ (fun w σ' => w = .tuple [] ∧ ∃ l', SRow σ' q l' ∧ l'.Perm l ∧ (nm l').Pairwise Lt ∧ σ'.length = σ.length ∧ ∀ j, j ≠ q → σ'[j]? = σ[j]?) := by
  refine HM.Ends.mk (W.to (fun k _ => slices_insertionSortCmpFunc_impl_FaceSig.eq k _ _ _ _ _) ?_)
  have e0 : IntKind.wrap .i64 ((0 : Int) + 1) = ((1 : Nat) : Int) := by rw [wrap_id (by omega) (by omega)]; omega
  rw [e0]
  have hdp : ∀ {l' : List El}, l'.Perm l → ((nm l').map (·.name)).Nodup := fun hp => (((hp.map (·.s)).map (·.name)).nodup_iff).2 hd
  refine W.loop (S := Nat × List El × Heap) (fun s => 1 ≤ s.1 ∧ SRow s.2.2 q s.2.1 ∧ s.2.1.Perm l ∧ (nm (s.2.1.take s.1)).Pairwise Lt ∧ s.2.2.length = σ.length ∧ ∀ j, j ≠ q → s.2.2[j]? = σ[j]?)
    (fun s => [.v (.sl q 0 l.length lim), .v (.int .i64 0), .v (.int .i64 (l.length : Int)), .v (.fn n_impl_faceOf_1 []), .v (.int .i64 (s.1 : Int))]) (fun s => s.2.2) (fun s => l.length - s.1) (fun ⟨i, l', σi⟩ ⟨hi, hS, hp, hso, hn, ho⟩ => ?_)
    (1, l, σ) ⟨Nat.le_refl _, h, .refl _, by
      cases l with
      | nil => simp [nm]
      | cons x l => simp [nm], rfl, fun _ _ => rfl⟩
  simp only at hi hS hp hso hn ho ⊢
  have hll := hp.length_eq
  refine W.to (fun k _ => by rw [slices_insertionSortCmpFunc_impl_FaceSig.L0_step]) ?_
  refine B.ite (fun hlt => ?_) fun hlt => ?_
  rotate_left
  · try simp only [q_bind_some, castInt_int, q_castBool, q_castStr, q_castPtr, q_castFn, q_castAgg, q_castTuple, q_uncons, q_isNil, q_sl, q_nils, q_emp, q_ptr, q_nilp, q_fn, q_cond_true, q_cond_false, Bool.not_true, Bool.not_false, decide_true, decide_false, List.cons_append, List.nil_append, slices_insertionSortCmpFunc_impl_FaceSig.A0_x0]
    rw [List.take_of_length_le (by omega)] at hso
    exact W.ret ⟨rfl, l', hS, hp, hso, hn, ho⟩
  have hil : i < l.length := by omega
  refine B.assoc ?_
  refine W.loop (S := Nat × List El × Heap) (fun s => s.1 ≤ i ∧ SRow s.2.2 q s.2.1 ∧ s.2.1.Perm l ∧ Mid s.2.1 i s.1 ∧ s.2.2.length = σ.length ∧ ∀ j, j ≠ q → s.2.2[j]? = σ[j]?)
    (fun s => [.v (.sl q 0 l.length lim), .v (.int .i64 0), .v (.int .i64 (l.length : Int)), .v (.fn n_impl_faceOf_1 []), .v (.int .i64 (i : Int)), .v (.int .i64 (s.1 : Int))]) (fun s => s.2.2) (fun s => s.1) (fun ⟨j, lj, σj⟩ ⟨hj, hT, hpj, hM, hnj, hoj⟩ => ?_)
    (i, l', σi) ⟨Nat.le_refl _, hS, hp, ⟨l'.take i, l'[i]'(by omega), [], l'.drop (i + 1), by
      rw [List.append_assoc, List.cons_append, List.nil_append]
      rw [← List.drop_eq_getElem_cons (by omega), List.take_append_drop], by rw [List.length_take]; omega, by rw [List.length_take]; simp; omega, by simpa using hso, fun b hb => by cases hb⟩, hn, ho⟩
  simp only at hj hT hpj hM hnj hoj ⊢
  obtain ⟨A, x, Bx, C, hL, hA, hAB, hsort, hxB⟩ := hM
  have hlj := hpj.length_eq
  have stop : (∀ a, a ∈ A → Lt a.s x.s) → (nm (lj.take (i + 1))).Pairwise Lt := fun hax => by
    have e : lj.take (i + 1) = A ++ x :: Bx := by rw [hL, List.take_left' (by simp; omega)]
    rw [e]
    unfold nm at hsort ⊢
    rw [List.map_append, List.pairwise_append] at hsort
    rw [List.map_append, List.map_cons, List.pairwise_append]
    refine ⟨hsort.1, List.pairwise_cons.2 ⟨fun y hy => ?_, hsort.2.1⟩, fun a ha y hy => ?_⟩
    · obtain ⟨b, hb, rfl⟩ := List.mem_map.1 hy
      exact hxB b hb
    · rcases List.mem_cons.1 hy with rfl | hy
      · obtain ⟨a', ha', rfl⟩ := List.mem_map.1 ha
        exact hax a' ha'
      · exact hsort.2.2 a ha y hy
  refine W.to (fun k _ => by rw [slices_insertionSortCmpFunc_impl_FaceSig.L1_step]) ?_
  refine B.ite (fun hj0 => ?_) fun hj0 => ?_
  rotate_left
  · have hA0 : A = [] := List.eq_nil_of_length_eq_zero (by omega)
    try simp only [q_bind_some, castInt_int, q_castBool, q_castStr, q_castPtr, q_castFn, q_castAgg, q_castTuple, q_uncons, q_isNil, q_sl, q_nils, q_emp, q_ptr, q_nilp, q_fn, q_cond_true, q_cond_false, Bool.not_true, Bool.not_false, decide_true, decide_false, List.cons_append, List.nil_append, slices_insertionSortCmpFunc_impl_FaceSig.A1_x2]
    exact W.out' _ (W.again (i + 1, lj, σj) ⟨by show 1 ≤ i + 1; omega, hT, hpj, stop (fun a ha => by rw [hA0] at ha; cases ha), hnj, hoj⟩ (by simp only; omega) (by rw [wrap_next hil (by omega)]) rfl) fun k j m => rfl
  obtain ⟨A', y, rfl⟩ : ∃ A' y, A = A' ++ [y] := ⟨A.dropLast, A.getLast (fun hc => by rw [hc] at hA; simp at hA; omega), (List.dropLast_concat_getLast _).symm⟩
  have hA' : A'.length + 1 = j := by simpa using hA
  have hx : lj[j]? = some x := by rw [hL, List.append_assoc, List.cons_append, List.getElem?_append_right (by omega), hA, Nat.sub_self]; rfl
  have hy : lj[j - 1]? = some y := by
    rw [hL]
    have : A' ++ [y] ++ x :: Bx ++ C = A' ++ (y :: (x :: Bx ++ C)) := by simp
    rw [this, List.getElem?_append_right (by omega), show j - 1 - A'.length = 0 by omega]
    rfl
  have hv : ∀ t : Nat, t < l.length → vidx 3 (.sl q 0 l.length lim) (t : Int) = some (q, t * 3) := fun t ht => by simp [vidx, ht]
  have ej : IntKind.wrap .i64 ((j : Int) - 1) = ((j - 1 : Nat) : Int) := by rw [wrap_id (by omega) (by omega)]; omega
  have rx := hT.rd hx
  have ry := hT.rd hy
  have rx' : rdc σj q (j * 3) 3 = some [.str x.s.name, x.v, .int .i64 x.s.type] := rx
  have ry' : rdc σj q ((j - 1) * 3) 3 = some [.str y.s.name, y.v, .int .i64 y.s.type] := ry
  try simp only [q_bind_some, castInt_int, q_castBool, q_castStr, q_castPtr, q_castFn, q_castAgg, q_castTuple, q_uncons, q_isNil, q_sl, q_nils, q_emp, q_ptr, q_nilp, q_fn, q_cond_true, q_cond_false, Bool.not_true, Bool.not_false, decide_true, decide_false, List.cons_append, List.nil_append, hv j (by omega), hv (j - 1) (by omega), ej, rx', ry', List.append_nil]
  refine B.run (cmp_runs x y) ?_
  have hcm := cmp_neg x.s.name.data.toList y.s.name.data.toList
  rw [← ByteArray.toList_eq, ← ByteArray.toList_eq] at hcm ⊢
  try simp only [q_bind_some, castInt_int, q_castBool, q_castStr, q_castPtr, q_castFn, q_castAgg, q_castTuple, q_uncons, q_isNil, q_sl, q_nils, q_emp, q_ptr, q_nilp, q_fn, q_cond_true, q_cond_false, Bool.not_true, Bool.not_false, decide_true, decide_false, List.cons_append, List.nil_append, hcm]
  cases hless : Op.bytesLess x.s.name.toList y.s.name.toList with
  | false =>
    try simp only [q_bind_some, castInt_int, q_castBool, q_castStr, q_castPtr, q_castFn, q_castAgg, q_castTuple, q_uncons, q_isNil, q_sl, q_nils, q_emp, q_ptr, q_nilp, q_fn, q_cond_true, q_cond_false, Bool.not_true, Bool.not_false, decide_true, decide_false, List.cons_append, List.nil_append, slices_insertionSortCmpFunc_impl_FaceSig.A1_x2]
    have hne : x.s.name ≠ y.s.name := fun hc => by
      have hnd := hdp hpj
      rw [hL] at hnd
      unfold nm at hnd
      simp only [List.map_append, List.map_cons, List.append_assoc, List.map_nil] at hnd
      have := (List.nodup_append.1 hnd).2.1
      simp only [List.cons_append, List.nil_append, List.nodup_cons, List.mem_cons, not_or] at this
      exact this.1.1 hc.symm
    have hyx : Lt y.s x.s := Lt.tri (by unfold Lt; rw [hless]; simp) hne
    have hall : ∀ a, a ∈ A' ++ [y] → Lt a.s x.s := fun a ha => by
      rcases List.mem_append.1 ha with ha | ha
      · unfold nm at hsort
        simp only [List.map_append, List.map_cons, List.map_nil, List.append_assoc] at hsort
        exact ((List.pairwise_append.1 hsort).2.2 a.s (List.mem_map_of_mem ha) y.s (by simp)).tr hyx
      · simp at ha
        subst ha
        exact hyx
    exact W.out' _ (W.again (i + 1, lj, σj) ⟨by show 1 ≤ i + 1; omega, hT, hpj, stop hall, hnj, hoj⟩ (by simp only; omega) (by rw [wrap_next hil (by omega)]) rfl) fun k j m => rfl
  | true =>
    obtain ⟨σ1, w1, h1, n1, k1⟩ := hT.put (i := j) (by omega) y
    obtain ⟨σ2, w2, h2, n2, k2⟩ := h1.put (i := j - 1) (by simp; omega) x
    have w1' : wrc σj q (j * 3) [.str y.s.name, y.v, .int .i64 y.s.type] = some σ1 := w1
    have w2' : wrc σ1 q ((j - 1) * 3) [.str x.s.name, x.v, .int .i64 x.s.type] = some σ2 := w2
    try simp only [q_bind_some, castInt_int, q_castBool, q_castStr, q_castPtr, q_castFn, q_castAgg, q_castTuple, q_uncons, q_isNil, q_sl, q_nils, q_emp, q_ptr, q_nilp, q_fn, q_cond_true, q_cond_false, Bool.not_true, Bool.not_false, decide_true, decide_false, List.cons_append, List.nil_append, hv j (by omega), hv (j - 1) (by omega), ej, rx', ry', w1', w2']
    have hset : (lj.set j y).set (j - 1) x = A' ++ x :: (y :: Bx) ++ C := by
      rw [hL]
      have e1 : A' ++ [y] ++ x :: Bx ++ C = (A' ++ [y]) ++ (x :: (Bx ++ C)) := by simp
      rw [e1, List.set_append_right _ _ (by omega), hA, Nat.sub_self, List.set_cons_zero]
      have e2 : (A' ++ [y]) ++ y :: (Bx ++ C) = A' ++ (y :: y :: (Bx ++ C)) := by simp
      rw [e2, List.set_append_right _ _ (by omega), show j - 1 - A'.length = 0 by omega, List.set_cons_zero]
      simp
    have hgx : lj[j] = x := by have := List.getElem?_eq_getElem (l := lj) (i := j) (by omega); rw [hx] at this; injection this with this; exact this.symm
    have hgy : lj[j - 1] = y := by have := List.getElem?_eq_getElem (l := lj) (i := j - 1) (by omega); rw [hy] at this; injection this with this; exact this.symm
    have hpp : ((lj.set j y).set (j - 1) x).Perm lj := by
      have : ((lj.set j lj[j - 1]).set (j - 1) lj[j]).Perm lj := List.set_set_perm (by omega) (by omega)
      rw [hgx, hgy] at this
      exact this
    refine W.again (j - 1, (lj.set j y).set (j - 1) x, σ2) ⟨by show j - 1 ≤ i; omega, h2, hpp.trans hpj, ⟨A', x, y :: Bx, C, hset, by show A'.length = j - 1; omega, by simp at hAB ⊢; omega, ?_, fun b hb => ?_⟩, by simp only; rw [n2, n1, hnj], fun t ht => by simp only; rw [k2 t ht, k1 t ht, hoj t ht]⟩ (by simp only; omega) rfl rfl
    · simpa using hsort
    · rcases List.mem_cons.1 hb with rfl | hb
      · exact hless
      · exact hxB b hb
end Go.Y

/- Rows of one's own, and the signatures of functions. -/
set_option linter.unusedVariables false
set_option linter.unusedSimpArgs false
namespace Go.Y
open Go.HM Go.Proofs
/-- A list of numbers in a row of one's own. -/
structure Ow (σ σi : Heap) (v : V) (l : List Int) (R : List Nat) : Prop where
  r : RepR 1 (RInt σi) σi v l R
  a : At0 v
  nd : R.Nodup
  lo : ∀ j, j ∈ R → σ.length ≤ j
  le : Lh σ σi
theorem Ow.nils (σ : Heap) : Ow σ σ .nils [] [] := ⟨.nils, .inl rfl, List.nodup_nil, fun j hj => (List.not_mem_nil hj).elim, Lh.refl _⟩
theorem Ow.start (σ : Heap) : Ow σ (hnew σ 1 []) (.sl σ.length 0 0 true) [] [σ.length] :=
  ⟨.sl σ.length 0 0 true ⟨[], 1, false, 0⟩ [] [] rfl (by simp [hnew]) rfl rfl (by simp) rfl fun i x R hx => by simp at hx, .inr ⟨_, _, _, rfl⟩, by simp, fun j hj => by simp at hj; omega, Lh.new _ _ _⟩
theorem Ow.up {σ σi σ' : Heap} {v : V} {l : List Int} {R : List Nat} (h : Ow σ σi v l R) (hl : Lh σi σ') : Ow σ σ' v l R := ⟨h.r.le hl fun cs x R hq => hq, h.a, h.nd, h.lo, h.le.trans hl⟩
theorem Ow.down {σ0 σ σi : Heap} {v : V} {l : List Int} {R : List Nat} (h : Ow σ σi v l R) (h0 : Lh σ0 σ) : Ow σ0 σi v l R := ⟨h.r, h.a, h.nd, fun j hj => by have := h.lo j hj; have := h0.len; omega, h0.trans h.le⟩
theorem Ow.rep {σ σi : Heap} {v : V} {l : List Int} {R : List Nat} (h : Ow σ σi v l R) : RepS 1 IntRep σi v l := h.r.rep fun cs x R _ hq => RInt.rep cs x R hq
theorem Ow.add {σ σi : Heap} {v : V} {l : List Int} {R : List Nat} (h : Ow σ σi v l R) (n : Int) (hl : l.length ≤ 1048576) :
    ∃ v' σ' R', vappend 1 8 σi v 1 [.int .i64 n] = some (v', σ') ∧ Ow σ σ' v' (l ++ [n]) R' := by
  obtain ⟨v', σ', R', g1, g2, g3, g4, g5, g6, g7⟩ := h.r.app (bytes := 8) h.a (cs := [.int .i64 n]) (x := n) (Rx := []) ⟨rfl, rfl⟩ rfl (fun cs x R hq hk => RInt.keep cs x R hq hk) (fun cs x R hq => RInt.lt cs x R hq) (by simpa using h.nd) (by omega) (by omega)
  have hlen := h.le.len
  refine ⟨v', σ', R', g1, g2, g3, g4, fun j hj => ?_, ⟨by rw [g6]; omega, fun j row hj => ?_⟩⟩
  · rcases g5 j hj with hj | hj | hj
    · omega
    · exact h.lo j hj
    · cases hj
  · have hjl := get_lt hj
    rw [g7 j (by omega) fun hc => by have := h.lo j hc; omega]
    exact h.le.row _ _ hj
def sigOf (f : TreeFun) : FaceSig := ⟨f.name, f.args.map (·.type), f.type⟩
def noSig : FaceSig := ⟨⟨#[]⟩, [], 0⟩
def SigP (σ : Heap) (s : FaceSig) (w : V) (σ' : Heap) : Prop := ∃ av R, w = .agg [.str s.name, av, .int .i64 s.type] ∧ Ow σ σ' av s.args R
theorem argTypes_ends {σ : Heap} {v : V} {l : List TreeArg} (hf : l.length ≤ 1048576) (h : RepS 2 (TreeArg.Rep σ) σ v l) : HM.Ends G n_impl_argTypes [v] σ (fun w σ' => ∃ R, Ow σ σ' w (l.map (·.type)) R) := by
  refine HM.Ends.mk (W.to (fun k _ => impl_argTypes.eq k _ _) ?_)
  refine W.len h ?_
  refine W.loop (S := Nat × V × Heap × List Nat) (fun s => s.1 ≤ l.length ∧ Ow σ s.2.2.1 s.2.1 ((l.take s.1).map (·.type)) s.2.2.2) (fun s => [.v s.2.1, .v v, .v (.int .i64 (l.length : Int)), .v (.int .i64 (s.1 : Int))]) (fun s => s.2.2.1) (fun s => l.length - s.1)
    (fun ⟨i, vi, σi, Ri⟩ ⟨hi, hO⟩ => ?_) (0, .sl σ.length 0 0 true, hnew σ 1 [], [σ.length]) ⟨Nat.zero_le _, Ow.start σ⟩
  simp only at hi hO ⊢
  refine W.to (fun k _ => by rw [impl_argTypes.L0_step]) ?_
  refine B.ite (fun hlt => ?_) fun hlt => ?_
  · have hil : i < l.length := by omega
    have hx : l[i]? = some l[i] := List.getElem?_eq_getElem hil
    generalize l[i] = x at hx
    obtain ⟨r, o, hv, cs, hr, hP⟩ := h.at' hx
    have hr' := hO.le.rdc hr
    cases hP with
    | mk =>
    obtain ⟨v', σ', R', c1, c2⟩ := hO.add x.type (by rw [List.length_map, List.length_take]; omega)
    try simp only [q_bind_some, castInt_int, q_castBool, q_castStr, q_castPtr, q_castFn, q_castAgg, q_castTuple, q_uncons, q_isNil, q_sl, q_nils, q_emp, q_ptr, q_nilp, q_fn, q_cond_true, q_cond_false, Bool.not_true, Bool.not_false, decide_true, decide_false, List.cons_append, List.nil_append, hv, hr', c1, wrap_next hil (by omega)]
    exact W.again (i + 1, v', σ', R') ⟨by show i + 1 ≤ l.length; omega, by rw [take_next' hx, List.map_append]; exact c2⟩ (by simp only; omega) rfl rfl
  · obtain rfl : i = l.length := by omega
    rw [List.take_length] at hO
    try simp only [q_bind_some, castInt_int, q_castBool, q_castStr, q_castPtr, q_castFn, q_castAgg, q_castTuple, q_uncons, q_isNil, q_sl, q_nils, q_emp, q_ptr, q_nilp, q_fn, q_cond_true, q_cond_false, Bool.not_true, Bool.not_false, decide_true, decide_false, List.cons_append, List.nil_append, impl_argTypes.A0_x0]
    exact W.ret ⟨Ri, hO⟩
theorem implSig_ends {σ : Heap} {f : TreeFun} (hf : f.args.length ≤ 1048576) {cs : List V} (h : TreeFun.Rep σ cs f) : HM.Ends G n_impl_TreeFun_sig [.agg cs] σ (SigP σ (sigOf f)) := by
  cases h with
  | mk h1 h2 =>
  refine HM.Ends.mk (W.to (fun k _ => impl_TreeFun_sig.eq k _ _ _ _ _ _ _ _ _ _) ?_)
  refine W.call (argTypes_ends hf h1) ?_
  rintro w σ' ⟨R, hO⟩
  try simp only [q_bind_some, castInt_int, q_castBool, q_castStr, q_castPtr, q_castFn, q_castAgg, q_castTuple, q_uncons, q_isNil, q_sl, q_nils, q_emp, q_ptr, q_nilp, q_fn, q_cond_true, q_cond_false, Bool.not_true, Bool.not_false, decide_true, decide_false, List.cons_append, List.nil_append, one_sl' hO.r.isSl]
  exact W.ret ⟨w, R, rfl, hO⟩
theorem specSig_ends {σ : Heap} {f : TreeFun} (hf : f.args.length ≤ 1048576) {cs : List V} (h : TreeFun.Rep σ cs f) : HM.Ends G n_spec_l3Of [.agg cs] σ (SigP σ (sigOf f)) := by
  cases h with
  | mk h1 h2 =>
  rename_i a0 a1
  refine HM.Ends.mk (W.to (fun k _ => spec_l3Of.eq k _ _ _ _ _ _ _ _ _ _) ?_)
  refine W.loop (S := Nat × V × Heap × List Nat) (fun s => s.1 ≤ f.args.length ∧ Ow σ s.2.2.1 s.2.1 ((f.args.take s.1).map (·.type)) s.2.2.2)
    (fun s => [.box [.str f.name, .bool f.pub, a0, .int .i64 f.type, .int .i64 f.body.kind, .int .i64 f.body.num, .str f.body.name, .str f.body.mod, a1], .box [.str (⟨#[]⟩ : ByteArray), .nils, .int .i64 0], .box [.str f.name, s.2.1, .int .i64 f.type], .v (.int .i64 (s.1 : Int))]) (fun s => s.2.2.1) (fun s => f.args.length - s.1)
    (fun ⟨i, vi, σi, Ri⟩ ⟨hi, hO⟩ => ?_) (0, .nils, σ, []) ⟨Nat.zero_le _, Ow.nils σ⟩
  simp only at hi hO ⊢
  refine W.to (fun k _ => by rw [spec_l3Of.L0_step]) ?_
  refine B.len h1 (B.ite (fun hlt => ?_) fun hlt => ?_)
  · have hil : i < f.args.length := by omega
    have hx : f.args[i]? = some f.args[i] := List.getElem?_eq_getElem hil
    generalize f.args[i] = x at hx
    obtain ⟨r, o, hv, cs, hr, hP⟩ := h1.at' hx
    have hr' := hO.le.rdc hr
    cases hP with
    | mk =>
    have e1 : rdc σi r (o + 1) 1 = some [.int .i64 x.type] := rdc_sub hr' 1 1 (by omega)
    obtain ⟨v', σ', R', c1, c2⟩ := hO.add x.type (by rw [List.length_map, List.length_take]; omega)
    try simp only [q_bind_some, castInt_int, q_castBool, q_castStr, q_castPtr, q_castFn, q_castAgg, q_castTuple, q_uncons, q_isNil, q_sl, q_nils, q_emp, q_ptr, q_nilp, q_fn, q_cond_true, q_cond_false, Bool.not_true, Bool.not_false, decide_true, decide_false, List.cons_append, List.nil_append, hv, e1, c1, one_sl' c2.r.isSl, wrap_next hil (by omega)]
    exact W.again (i + 1, v', σ', R') ⟨by show i + 1 ≤ f.args.length; omega, by rw [take_next' hx, List.map_append]; exact c2⟩ (by simp only; omega) rfl rfl
  · obtain rfl : i = f.args.length := by omega
    rw [List.take_length] at hO
    try simp only [q_bind_some, castInt_int, q_castBool, q_castStr, q_castPtr, q_castFn, q_castAgg, q_castTuple, q_uncons, q_isNil, q_sl, q_nils, q_emp, q_ptr, q_nilp, q_fn, q_cond_true, q_cond_false, Bool.not_true, Bool.not_false, decide_true, decide_false, List.cons_append, List.nil_append, spec_l3Of.A0_x0]
    exact W.ret ⟨vi, Ri, rfl, hO⟩
end Go.Y

/- Names: the words that are names. -/
set_option linter.unusedVariables false
set_option linter.unusedSimpArgs false
namespace Go.Y
open Go.HM Go.Proofs
theorem index_string_runs {σ : Heap} {v : V} {l : List ByteArray} (hf : l.length ≤ 9223372036854775807) (h : RepS 1 StrRep σ v l) (s : ByteArray) :
    ∃ n : Int, (0 ≤ n ↔ s ∈ l) ∧ Runs G n_slices_Index_string_string [v, .str s] σ (.int .i64 n) σ := by
  obtain ⟨w, σ', ⟨rfl, n, rfl, hn⟩, he⟩ := loop (L := slices_Index_string_string.L0) (A := slices_Index_string_string.A0) (S := Nat)
    (Inv := fun i => i ≤ l.length ∧ ∀ j x, j < i → l[j]? = some x → x ≠ s) (Good := fun w σ' => σ' = σ ∧ ∃ n : Int, w = .int .i64 n ∧ (0 ≤ n ↔ s ∈ l))
    (vals := fun i => [.v v, .v (.str s), .v (.int .i64 (l.length : Int)), .v (.int .i64 (i : Int))]) (hp := fun _ => σ) (far := fun i => l.length - i) (fun i ⟨hi, hne⟩ => by
      by_cases hlt : i < l.length
      · obtain ⟨r, o, hv, cs, hr, hP⟩ := h.at hlt
        unfold StrRep at hP
        subst hP
        by_cases hs : s = l[i]
        · refine .inl ⟨_, _, ⟨rfl, (i : Int), rfl, ?_⟩, Ev.now fun k m => ?_⟩
          · simp; rw [hs]; exact List.getElem_mem hlt
          · rw [slices_Index_string_string.L0_step]
            simp [hlt, hv, hr, ← hs, slices_Index_string_string.A0_ret]
        · refine .inr ⟨i + 1, ⟨hlt, fun j x hj hx => ?_⟩, by omega, Ev.now fun k m => ?_⟩
          · by_cases hji : j = i
            · subst hji
              rw [List.getElem?_eq_getElem hlt] at hx
              injection hx with hx
              rw [← hx]; exact fun hc => hs hc.symm
            · exact hne j x (by omega) hx
          · rw [slices_Index_string_string.L0_step]
            have hw : IntKind.wrap .i64 ((i : Int) + 1) = ((i + 1 : Nat) : Int) := wrap_id (by omega) (by omega)
            simp [hlt, hv, hr, hs]
            rw [hw]
            rfl
      · refine .inl ⟨_, _, ⟨rfl, -1, rfl, ?_⟩, Ev.now fun k m => ?_⟩
        · simp
          intro hc
          obtain ⟨j, hj, hjs⟩ := List.getElem_of_mem hc
          exact hne j _ (by omega) (List.getElem?_eq_getElem hj) hjs
        · rw [slices_Index_string_string.L0_step]
          simp [hlt, slices_Index_string_string.A0_x0]) 0 ⟨Nat.zero_le _, fun j x hj => absurd hj (by omega)⟩
  refine ⟨n, hn, Runs.mk ((Ev.far l.length he).mono fun k ⟨e, hk⟩ => ?_)⟩
  have e2 := e k (by omega)
  rw [slices_Index_string_string.eq, h.vlen]
  exact e2
theorem contains_string_runs {σ : Heap} {v : V} {l : List ByteArray} (hf : l.length ≤ 9223372036854775807) (h : RepS 1 StrRep σ v l) (s : ByteArray) :
    Runs G n_slices_Contains_string_string [v, .str s] σ (.bool (decide (s ∈ l))) σ := by
  obtain ⟨n, hn, c⟩ := index_string_runs hf h s
  refine Runs.mk (c.mono fun k e => ?_)
  rw [slices_Contains_string_string.eq]
  simp [e, hn]
theorem inRange_runs {σ : Heap} (n a b : Int) : Runs G n_impl_inRange [.int .i64 n, .int .i64 a, .int .i64 b] σ (.bool (decide (a ≤ n ∧ n ≤ b))) σ :=
  Runs.mk (Ev.now fun k => by
    rw [impl_inRange.eq]
    by_cases h : a ≤ n <;> simp [h])
def kept : List ByteArray := [⟨#[117, 115, 101]⟩, ⟨#[102, 117, 110]⟩, ⟨#[112, 117, 98]⟩, ⟨#[109, 97, 105, 110]⟩, ⟨#[105, 110, 116]⟩, ⟨#[98, 111, 111, 108]⟩, ⟨#[114, 111, 119]⟩, ⟨#[105, 102]⟩, ⟨#[108, 101, 116]⟩, ⟨#[116, 114, 117, 101]⟩, ⟨#[102, 97, 108, 115, 101]⟩, ⟨#[97, 110, 100]⟩, ⟨#[111, 114]⟩, ⟨#[110, 111, 116]⟩, ⟨#[97, 116]⟩, ⟨#[108, 101, 110]⟩, ⟨#[112, 117, 116]⟩, ⟨#[106, 111, 105, 110]⟩, ⟨#[112, 114, 105, 110, 116]⟩]
theorem kept_rep (σ : Heap) : RepS 1 StrRep (hnew σ 1 (kept.map .str)) (.sl σ.length 0 19 true) kept := RepS.lit σ kept .str (fun _ => rfl) true 19 rfl
theorem isOwn_gives (σ : Heap) (s : ByteArray) : Gives G n_impl_isOwn [.str s] σ (.bool (decide (s ∈ kept))) := by
  have c := contains_string_runs (by decide) (kept_rep σ) s
  refine Gives.mk (σ' := hnew σ 1 (kept.map .str)) (Lh.new _ _ _) (c.mono fun k e => ?_)
  rw [impl_isOwn.eq]
  change (hcall G k n_slices_Contains_string_string [(.sl σ.length 0 19 true), .str s] (hnew σ 1 (kept.map .str))).bind _ = _
  rw [e]
  rfl
def Letters (s : ByteArray) : Prop := ∀ i (h : i < s.size), 97 ≤ s[i].toNat ∧ s[i].toNat ≤ 122
def IsName (s : ByteArray) : Prop := Letters s ∧ (1 ≤ s.size ∧ s.size ≤ 8) ∧ ¬ s ∈ kept
noncomputable instance (s : ByteArray) : Decidable (IsName s) := Classical.propDecidable _
theorem implLexName_gives (σ : Heap) (s : ByteArray) (hf : s.size ≤ 9223372036854775807) : Gives G n_impl_LexName [.str s] σ (.bool (decide (IsName s))) := by
  obtain ⟨σ1, l1, c1⟩ := isOwn_gives σ s
  have c2 := inRange_runs (σ := σ) (s.size : Int) 1 8
  obtain ⟨w, σ', ⟨hl, rfl⟩, he⟩ := loop (L := impl_LexName.L0) (A := impl_LexName.A0) (S := Nat)
    (Inv := fun i => i ≤ s.size ∧ ∀ j (h : j < s.size), j < i → 97 ≤ s[j].toNat ∧ s[j].toNat ≤ 122) (Good := fun w σ' => Lh σ σ' ∧ w = .bool (decide (IsName s)))
    (vals := fun i => [.v (.str s), .v (.int .i64 (s.size : Int)), .v (.int .i64 (i : Int))]) (hp := fun _ => σ) (far := fun i => s.size - i) (fun i ⟨hi, hok⟩ => by
      by_cases hlt : i < s.size
      · have hb := sbyte_at hlt
        by_cases hc : 97 ≤ s[i].toNat ∧ s[i].toNat ≤ 122
        · refine .inr ⟨i + 1, ⟨hlt, fun j hj hji => ?_⟩, by omega, Ev.now fun k m => ?_⟩
          · by_cases h : j = i
            · subst h; exact hc
            · exact hok j hj (by omega)
          · rw [impl_LexName.L0_step]
            have hw : IntKind.wrap .i64 ((i : Int) + 1) = ((i + 1 : Nat) : Int) := wrap_id (by omega) (by omega)
            have h1 : ¬ (s[i].toNat : Int) < 97 := by omega
            have h2 : ¬ (122 : Int) < (s[i].toNat : Int) := by omega
            simp only [hb, Option.bind_some, h1, h2, decide_false, cond_false, hw]
            simp [hlt]
        · refine .inl ⟨_, σ, ⟨Lh.refl _, rfl⟩, Ev.now fun k m => ?_⟩
          have hn : ¬ IsName s := fun h => hc (h.1 i hlt)
          rw [impl_LexName.L0_step]
          by_cases h1 : (s[i].toNat : Int) < 97
          · simp only [hb, Option.bind_some, h1, decide_true, cond_true]
            simp [hlt, impl_LexName.A0_ret, hn]
          · have h2 : (122 : Int) < (s[i].toNat : Int) := by omega
            simp only [hb, Option.bind_some, h1, h2, decide_false, cond_false, decide_true, cond_true]
            simp [hlt, impl_LexName.A0_ret, hn]
      · have hl : Letters s := fun j hj => hok j hj (by omega)
        by_cases hr : (1 : Int) ≤ s.size ∧ (s.size : Int) ≤ 8
        · refine .inl ⟨_, σ1, ⟨l1, rfl⟩, (c2.and c1).mono fun k ⟨e2, e1⟩ m => ?_⟩
          have : IsName s ↔ ¬ s ∈ kept := ⟨fun h => h.2.2, fun h => ⟨hl, by omega, h⟩⟩
          rw [impl_LexName.L0_step]
          simp only [Int.ofNat_lt, hlt, decide_false, cond_false, Option.bind_some, impl_LexName.A0_x0, e2, hr, and_self, decide_true, castBool_bool, cond_true, e1]
          simp [this]
        · refine .inl ⟨_, σ, ⟨Lh.refl _, rfl⟩, c2.mono fun k e2 m => ?_⟩
          have : ¬ IsName s := fun h => hr (by have := h.2.1; omega)
          rw [impl_LexName.L0_step]
          simp only [Int.ofNat_lt, hlt, decide_false, cond_false, Option.bind_some, impl_LexName.A0_x0, e2, hr, castBool_bool]
          simp [this]) 0 ⟨Nat.zero_le _, fun j hj hji => absurd hji (by omega)⟩
  refine Gives.mk hl ((Ev.far s.size he).mono fun k ⟨e, hk⟩ => ?_)
  rw [impl_LexName.eq]
  exact e k (by omega)
theorem l1Kept_gives (σ : Heap) (s : ByteArray) : Gives G n_spec_l1Kept [.str s] σ (.bool (decide (s ∈ kept))) := by
  have h := kept_rep σ
  obtain ⟨w, σ', ⟨hl, rfl⟩, he⟩ := loop (L := spec_l1Kept.L0) (A := spec_l1Kept.A0) (S := Nat)
    (Inv := fun i => i ≤ kept.length ∧ ∀ j x, j < i → kept[j]? = some x → x ≠ s) (Good := fun w σ' => Lh σ σ' ∧ w = .bool (decide (s ∈ kept)))
    (vals := fun i => [.v (.str s), .v (.sl σ.length 0 19 true), .v (.int .i64 (i : Int))]) (hp := fun _ => hnew σ 1 (kept.map .str)) (far := fun i => kept.length - i) (fun i ⟨hi, hne⟩ => by
      by_cases hlt : i < kept.length
      · obtain ⟨r, o, hv, cs, hr, hP⟩ := h.at hlt
        unfold StrRep at hP
        subst hP
        by_cases hs : kept[i] = s
        · refine .inl ⟨_, hnew σ 1 (kept.map .str), ⟨Lh.new _ _ _, rfl⟩, Ev.now fun k m => ?_⟩
          have hm : s ∈ kept := hs ▸ List.getElem_mem hlt
          rw [spec_l1Kept.L0_step, h.vlen]
          simp [hlt, hv, hr, hs, spec_l1Kept.A0_ret, hm]
        · refine .inr ⟨i + 1, ⟨hlt, fun j x hj hx => ?_⟩, by omega, Ev.now fun k m => ?_⟩
          · by_cases hji : j = i
            · subst hji
              rw [List.getElem?_eq_getElem hlt] at hx
              injection hx with hx
              rw [← hx]; exact hs
            · exact hne j x (by omega) hx
          · rw [spec_l1Kept.L0_step, h.vlen]
            have hk : kept.length = 19 := rfl
            have hw : IntKind.wrap .i64 ((i : Int) + 1) = ((i + 1 : Nat) : Int) := wrap_id (by omega) (by omega)
            simp [hlt, hv, hr, hs]
            rw [hw]
            rfl
      · refine .inl ⟨_, hnew σ 1 (kept.map .str), ⟨Lh.new _ _ _, rfl⟩, Ev.now fun k m => ?_⟩
        have hm : ¬ s ∈ kept := fun hc => by
          obtain ⟨j, hj, hjs⟩ := List.getElem_of_mem hc
          exact hne j _ (by omega) (List.getElem?_eq_getElem hj) hjs
        rw [spec_l1Kept.L0_step, h.vlen]
        simp [hlt, spec_l1Kept.A0_x0, hm]) 0 ⟨Nat.zero_le _, fun j x hj => absurd hj (by omega)⟩
  refine Gives.mk hl ((Ev.far kept.length he).mono fun k ⟨e, hk⟩ => ?_)
  rw [spec_l1Kept.eq]
  exact e k (by omega)
theorem specLexName_gives (σ : Heap) (s : ByteArray) (hf : s.size ≤ 9223372036854775807) : Gives G n_spec_LexName [.str s] σ (.bool (decide (IsName s))) := by
  by_cases h1 : (s.size : Int) < 1
  · refine Gives.mk (Lh.refl σ) (Ev.now fun k => ?_)
    have : ¬ IsName s := fun h => by have := h.2.1; omega
    rw [spec_LexName.eq]
    simp only [h1, decide_true, cond_true]
    simp [this]
  by_cases h2 : (8 : Int) < (s.size : Int)
  · refine Gives.mk (Lh.refl σ) (Ev.now fun k => ?_)
    have : ¬ IsName s := fun h => by have := h.2.1; omega
    rw [spec_LexName.eq]
    simp only [h1, h2, decide_true, cond_true, decide_false, cond_false]
    simp [this]
  obtain ⟨σ1, l1, c1⟩ := l1Kept_gives σ s
  by_cases h3 : s ∈ kept
  · refine Gives.mk l1 (c1.mono fun k e => ?_)
    have : ¬ IsName s := fun h => h.2.2 h3
    rw [spec_LexName.eq]
    simp only [h1, h2, decide_false, cond_false, e, Option.bind_some, castBool_bool, h3, decide_true, cond_true]
    simp [this]
  obtain ⟨w, σ', ⟨hl, rfl⟩, he⟩ := loop (L := spec_LexName.L0) (A := spec_LexName.A0) (S := Nat)
    (Inv := fun i => i ≤ s.size ∧ ∀ j (h : j < s.size), j < i → 97 ≤ s[j].toNat ∧ s[j].toNat ≤ 122) (Good := fun w σ' => Lh σ σ' ∧ w = .bool (decide (IsName s)))
    (vals := fun i => [.v (.str s), .v (.int .i64 (i : Int))]) (hp := fun _ => σ1) (far := fun i => s.size - i) (fun i ⟨hi, hok⟩ => by
      by_cases hlt : i < s.size
      · have hb := sbyte_at hlt
        by_cases hc : 97 ≤ s[i].toNat ∧ s[i].toNat ≤ 122
        · refine .inr ⟨i + 1, ⟨hlt, fun j hj hji => ?_⟩, by omega, Ev.now fun k m => ?_⟩
          · by_cases h : j = i
            · subst h; exact hc
            · exact hok j hj (by omega)
          · rw [spec_LexName.L0_step]
            have hw : IntKind.wrap .i64 ((i : Int) + 1) = ((i + 1 : Nat) : Int) := wrap_id (by omega) (by omega)
            have h1 : ¬ (s[i].toNat : Int) < 97 := by omega
            have h2 : ¬ (122 : Int) < (s[i].toNat : Int) := by omega
            simp only [hb, Option.bind_some, h1, h2, decide_false, cond_false, hw]
            simp [hlt]
        · refine .inl ⟨_, σ1, ⟨l1, rfl⟩, Ev.now fun k m => ?_⟩
          have hn : ¬ IsName s := fun h => hc (h.1 i hlt)
          rw [spec_LexName.L0_step]
          by_cases h1 : (s[i].toNat : Int) < 97
          · simp only [hb, Option.bind_some, h1, decide_true, cond_true]
            simp [hlt, spec_LexName.A0_ret, hn]
          · have h2 : (122 : Int) < (s[i].toNat : Int) := by omega
            simp only [hb, Option.bind_some, h1, h2, decide_false, cond_false, decide_true, cond_true]
            simp [hlt, spec_LexName.A0_ret, hn]
      · have hl : IsName s := ⟨fun j hj => hok j hj (by omega), by omega, h3⟩
        refine .inl ⟨_, σ1, ⟨l1, rfl⟩, Ev.now fun k m => ?_⟩
        rw [spec_LexName.L0_step]
        simp [hlt, spec_LexName.A0_x0, hl]) 0 ⟨Nat.zero_le _, fun j hj hji => absurd hji (by omega)⟩
  refine Gives.mk hl ((Ev.and c1 (Ev.far s.size he)).mono fun k ⟨e1, e, hk⟩ => ?_)
  rw [spec_LexName.eq]
  simp only [h1, h2, decide_false, cond_false, e1, Option.bind_some, castBool_bool, h3]
  exact e k (by omega)
end Go.Y

/- Lists of names, the size of expressions. -/
set_option linter.unusedVariables false
set_option linter.unusedSimpArgs false
namespace Go.Y
open Go.HM Go.Proofs
def AllNames (l : List ByteArray) : Prop := (∀ x, x ∈ l → IsName x) ∧ l.Nodup
noncomputable instance (l : List ByteArray) : Decidable (AllNames l) := Classical.propDecidable _
theorem nodup_next {l : List ByteArray} {i : Nat} (h : i < l.length) : (l.take (i + 1)).Nodup ↔ (l.take i).Nodup ∧ ¬ l[i] ∈ l.take i := by
  rw [take_next h, List.nodup_append]
  simp
  intro _
  constructor
  · intro hc hm; exact hc _ hm rfl
  · intro hc a ha he; exact hc (he ▸ ha)
theorem AllNames.take {l : List ByteArray} (h : AllNames l) (i : Nat) : AllNames (l.take i) := ⟨fun x hx => h.1 x (List.mem_of_mem_take hx), h.2.sublist (List.take_sublist i l)⟩
theorem areNames_gives (σ : Heap) {v : V} {l : List ByteArray} (h : RepS 1 StrRep σ v l) (hf : l.length ≤ 9223372036854775807) (hx : ∀ x, x ∈ l → x.size ≤ 9223372036854775807) : Gives G n_impl_areNames [v] σ (.bool (decide (AllNames l))) := by
  obtain ⟨w, σ', ⟨hl, rfl⟩, he⟩ := loop (L := impl_areNames.L0) (A := impl_areNames.A0) (S := Nat × Heap)
    (Inv := fun s => s.1 ≤ l.length ∧ Lh σ s.2 ∧ AllNames (l.take s.1)) (Good := fun w σ' => Lh σ σ' ∧ w = .bool (decide (AllNames l)))
    (vals := fun s => [.v v, .v v, .v (.int .i64 (l.length : Int)), .v (.int .i64 (s.1 : Int))]) (hp := fun s => s.2) (far := fun s => l.length - s.1) (fun ⟨i, σi⟩ ⟨hi, hle, hok⟩ => by
      simp only at hi hle hok ⊢
      by_cases hlt : i < l.length
      · obtain ⟨r, o, hv, cs, hr, hP⟩ := (h.le hle).at hlt
        unfold StrRep at hP
        subst hP
        have hm : l[i] ∈ l := List.getElem_mem hlt
        obtain ⟨σ1, l1, c1⟩ := implLexName_gives σi l[i] (hx _ hm)
        by_cases hn : IsName l[i]
        · obtain ⟨u, hu, hR⟩ := h.first hlt
          have c2 := contains_string_runs (by rw [List.length_take]; omega) (hR.le (hle.trans l1)) l[i]
          by_cases hc : l[i] ∈ l.take i
          · refine .inl ⟨_, σ1, ⟨hle.trans l1, rfl⟩, (c1.and c2).mono fun k ⟨e1, e2⟩ m => ?_⟩
            have : ¬ AllNames l := fun ha => ((nodup_next hlt).1 (ha.take (i + 1)).2).2 hc
            rw [impl_areNames.L0_step]
            simp [hlt, hv, hr, e1, hn, hu, e2, hc, impl_areNames.A0_ret, this]
          · refine .inr ⟨(i + 1, σ1), ⟨hlt, hle.trans l1, ⟨fun x hx => ?_, (nodup_next hlt).2 ⟨hok.2, hc⟩⟩⟩, by simp only; omega, (c1.and c2).mono fun k ⟨e1, e2⟩ m => ?_⟩
            · rw [take_next hlt] at hx
              rcases List.mem_append.1 hx with h | h
              · exact hok.1 x h
              · simp at h; rw [h]; exact hn
            · have hw : IntKind.wrap .i64 ((i : Int) + 1) = ((i + 1 : Nat) : Int) := wrap_id (by omega) (by omega)
              rw [impl_areNames.L0_step]
              simp [hlt, hv, hr, e1, hn, hu, e2, hc]
              rw [hw]
              rfl
        · refine .inl ⟨_, σ1, ⟨hle.trans l1, rfl⟩, c1.mono fun k e1 m => ?_⟩
          have : ¬ AllNames l := fun ha => hn (ha.1 _ hm)
          rw [impl_areNames.L0_step]
          simp [hlt, hv, hr, e1, hn, impl_areNames.A0_ret, this]
      · refine .inl ⟨_, σi, ⟨hle, rfl⟩, Ev.now fun k m => ?_⟩
        have : AllNames l := by
          rw [List.take_of_length_le (by omega)] at hok
          exact hok
        rw [impl_areNames.L0_step]
        simp [hlt, impl_areNames.A0_x0, this]) (0, σ) ⟨Nat.zero_le _, Lh.refl _, fun x hx => by simp at hx, by simp⟩
  refine Gives.mk hl ((Ev.far l.length he).mono fun k ⟨e, hk⟩ => ?_)
  rw [impl_areNames.eq, h.vlen]
  exact e k (by simpa using hk)
theorem l2Uses_gives (σ : Heap) {v : V} {l : List ByteArray} (h : RepS 1 StrRep σ v l) (hf : l.length ≤ 9223372036854775807) (hx : ∀ x, x ∈ l → x.size ≤ 9223372036854775807) : Gives G n_spec_l2Uses [v] σ (.bool (decide (AllNames l))) := by
  -- the inner loop: whether l[i] stands among the first i
  have inner : ∀ (i : Nat) (hlt : i < l.length) (σi : Heap), Lh σ σi → Ev fun k => ∀ m0 m, i < m →
      (spec_l2Uses.L1 k m [.v v, .v (.int .i64 (i : Int)), .v (.int .i64 ((0 : Nat) : Int))] σi).bind (spec_l2Uses.A1 k m0) =
        if l[i] ∈ l.take i then some (.ret, [.v (.bool false)], σi) else spec_l2Uses.L0 k m0 [.v v, .v (.int .i64 (IntKind.wrap .i64 ((i : Int) + 1)))] σi := by
    intro i hlt σi hle
    have key : ∀ d j, j + d = i → (∀ q y, q < j → l[q]? = some y → y ≠ l[i]) → ∀ k m0 m, d < m →
        (spec_l2Uses.L1 k m [.v v, .v (.int .i64 (i : Int)), .v (.int .i64 (j : Int))] σi).bind (spec_l2Uses.A1 k m0) =
        if l[i] ∈ l.take i then some (.ret, [.v (.bool false)], σi) else spec_l2Uses.L0 k m0 [.v v, .v (.int .i64 (IntKind.wrap .i64 ((i : Int) + 1)))] σi := by
      intro d
      induction d with
      | zero =>
        intro j hj hne k m0 m hm
        obtain ⟨m, rfl⟩ : ∃ j, m = j + 1 := ⟨m - 1, by omega⟩
        have hc : ¬ l[i] ∈ l.take i := fun hc => by
          obtain ⟨q, hq, hqs⟩ := List.getElem_of_mem hc
          rw [List.getElem_take] at hqs
          rw [List.length_take] at hq
          exact hne q _ (by omega) (List.getElem?_eq_getElem (by omega)) hqs
        have : ¬ j < i := by omega
        rw [spec_l2Uses.L1_step, if_neg hc]
        simp [this, spec_l2Uses.A1_x2]
      | succ d ih =>
        intro j hj hne k m0 m hm
        obtain ⟨m, rfl⟩ : ∃ j, m = j + 1 := ⟨m - 1, by omega⟩
        have hji : j < i := by omega
        obtain ⟨r, o, hv, cs, hr, hP⟩ := (h.le hle).at (show j < l.length by omega)
        unfold StrRep at hP
        subst hP
        obtain ⟨r', o', hv', cs', hr', hP'⟩ := (h.le hle).at hlt
        unfold StrRep at hP'
        subst hP'
        rw [spec_l2Uses.L1_step]
        by_cases hs : l[j] = l[i]
        · have hc : l[i] ∈ l.take i := by
            rw [← hs]
            have : l[j] = (l.take i)[j]'(by rw [List.length_take]; omega) := by rw [List.getElem_take]
            rw [this]
            exact List.getElem_mem _
          simp [hji, hv, hr, hv', hr', hs, hc, spec_l2Uses.A1_ret]
        · have hw : IntKind.wrap .i64 ((j : Int) + 1) = ((j + 1 : Nat) : Int) := wrap_id (by omega) (by omega)
          simp only [Int.ofNat_lt, hji, decide_true, cond_true, hv, hr, hv', hr', Option.bind_some, uncons_cons, castStr_str, isNil_nil, hs, decide_false, cond_false]
          rw [hw]
          refine ih (j + 1) (by omega) (fun q y hq hy => ?_) k m0 m (by omega)
          by_cases hqj : q = j
          · subst hqj
            rw [List.getElem?_eq_getElem (by omega)] at hy
            injection hy with hy
            rw [← hy]; exact hs
          · exact hne q y (by omega) hy
    exact Ev.now fun k m0 m hm => key i 0 (by omega) (fun q y hq => absurd hq (by omega)) k m0 m hm
  obtain ⟨w, σ', ⟨hl, rfl⟩, he⟩ := loop (L := spec_l2Uses.L0) (A := spec_l2Uses.A0) (S := Nat × Heap)
    (Inv := fun s => s.1 ≤ l.length ∧ Lh σ s.2 ∧ AllNames (l.take s.1)) (Good := fun w σ' => Lh σ σ' ∧ w = .bool (decide (AllNames l)))
    (vals := fun s => [.v v, .v (.int .i64 (s.1 : Int))]) (hp := fun s => s.2) (far := fun s => l.length - s.1) (fun ⟨i, σi⟩ ⟨hi, hle, hok⟩ => by
      simp only at hi hle hok ⊢
      by_cases hlt : i < l.length
      · obtain ⟨r, o, hv, cs, hr, hP⟩ := (h.le hle).at hlt
        unfold StrRep at hP
        subst hP
        have hm : l[i] ∈ l := List.getElem_mem hlt
        obtain ⟨σ1, l1, c1⟩ := specLexName_gives σi l[i] (hx _ hm)
        by_cases hn : IsName l[i]
        · have c2 : Ev fun k => ∀ m0, (spec_l2Uses.L1 k k [.v v, .v (.int .i64 (i : Int)), .v (.int .i64 ((0 : Nat) : Int))] σ1).bind (spec_l2Uses.A1 k m0) =
              if l[i] ∈ l.take i then some (.ret, [.v (.bool false)], σ1) else spec_l2Uses.L0 k m0 [.v v, .v (.int .i64 (IntKind.wrap .i64 ((i : Int) + 1)))] σ1 :=
            (Ev.far i (inner i hlt σ1 (hle.trans l1))).mono fun k ⟨e, hk⟩ m0 => e m0 k hk
          by_cases hc : l[i] ∈ l.take i
          · refine .inl ⟨_, σ1, ⟨hle.trans l1, rfl⟩, (c1.and c2).mono fun k ⟨e1, e2⟩ m => ?_⟩
            have : ¬ AllNames l := fun ha => ((nodup_next hlt).1 (ha.take (i + 1)).2).2 hc
            rw [spec_l2Uses.L0_step, (h.le hle).vlen]
            have e3 := e2 m
            rw [if_pos hc] at e3
            simp only [Int.ofNat_lt, hlt, hv, hr, e1, hn, decide_true, cond_true, Option.bind_some, uncons_cons, castStr_str, isNil_nil, castBool_bool, Bool.not_true, cond_false]
            rw [show ((0 : Int)) = ((0 : Nat) : Int) from rfl, e3]
            simp [spec_l2Uses.A0_ret, this]
          · refine .inr ⟨(i + 1, σ1), ⟨hlt, hle.trans l1, ⟨fun x hx => ?_, (nodup_next hlt).2 ⟨hok.2, hc⟩⟩⟩, by simp only; omega, (c1.and c2).mono fun k ⟨e1, e2⟩ m => ?_⟩
            · rw [take_next hlt] at hx
              rcases List.mem_append.1 hx with h | h
              · exact hok.1 x h
              · simp at h; rw [h]; exact hn
            · have hw : IntKind.wrap .i64 ((i : Int) + 1) = ((i + 1 : Nat) : Int) := wrap_id (by omega) (by omega)
              have e3 := e2 m
              rw [if_neg hc, hw] at e3
              rw [spec_l2Uses.L0_step, (h.le hle).vlen]
              simp only [Int.ofNat_lt, hlt, hv, hr, e1, hn, decide_true, cond_true, Option.bind_some, uncons_cons, castStr_str, isNil_nil, castBool_bool, Bool.not_true, cond_false]
              rw [show ((0 : Int)) = ((0 : Nat) : Int) from rfl, e3]
        · refine .inl ⟨_, σ1, ⟨hle.trans l1, rfl⟩, c1.mono fun k e1 m => ?_⟩
          have : ¬ AllNames l := fun ha => hn (ha.1 _ hm)
          rw [spec_l2Uses.L0_step, (h.le hle).vlen]
          simp [hlt, hv, hr, e1, hn, spec_l2Uses.A0_ret, this]
      · refine .inl ⟨_, σi, ⟨hle, rfl⟩, Ev.now fun k m => ?_⟩
        have : AllNames l := by
          rw [List.take_of_length_le (by omega)] at hok
          exact hok
        rw [spec_l2Uses.L0_step, (h.le hle).vlen]
        simp [hlt, spec_l2Uses.A0_x0, this]) (0, σ) ⟨Nat.zero_le _, Lh.refl _, fun x hx => by simp at hx, by simp⟩
  refine Gives.mk hl ((Ev.far l.length he).mono fun k ⟨e, hk⟩ => ?_)
  rw [spec_l2Uses.eq]
  exact e k (by simpa using hk)
mutual
def TreeExpr.many : TreeExpr → Nat
  | ⟨_, _, _, _, kids⟩ => 1 + TreeExpr.manyS kids
def TreeExpr.manyS : List TreeExpr → Nat
  | [] => 0
  | e :: es => e.many + TreeExpr.manyS es
end
theorem TreeExpr.manyS_eq : ∀ l, TreeExpr.manyS l = totS TreeExpr.many l
  | [] => rfl
  | e :: es => by rw [TreeExpr.manyS, totS, TreeExpr.manyS_eq]
theorem TreeExpr.many_eq (e : TreeExpr) : e.many = 1 + totS TreeExpr.many e.kids := by
  cases e; rw [TreeExpr.many, TreeExpr.manyS_eq]
mutual
def TreeExpr.deep : TreeExpr → Nat
  | ⟨_, _, _, _, kids⟩ => TreeExpr.deepS kids + 1
def TreeExpr.deepS : List TreeExpr → Nat
  | [] => 0
  | e :: es => max e.deep (TreeExpr.deepS es)
end
theorem TreeExpr.deepS_eq : ∀ l, TreeExpr.deepS l = maxS TreeExpr.deep l
  | [] => rfl
  | e :: es => by rw [TreeExpr.deepS, maxS, TreeExpr.deepS_eq]
theorem TreeExpr.deep_eq (e : TreeExpr) : e.deep = maxS TreeExpr.deep e.kids + 1 := by
  cases e; rw [TreeExpr.deep, TreeExpr.deepS_eq]
theorem totS_le {α : Type} {f g : α → Nat} : ∀ (l : List α), (∀ x, x ∈ l → f x ≤ 1 + g x) → totS f l ≤ l.length + totS g l
  | [], _ => by simp [totS]
  | x :: l, h => by
    have := totS_le l (fun y hy => h y (by simp [hy]))
    have := h x (by simp)
    rw [totS, totS, List.length_cons]
    omega
theorem maxS_le {α : Type} {f g : α → Nat} : ∀ (l : List α), (∀ x, x ∈ l → f x ≤ g x) → maxS f l ≤ totS g l
  | [], _ => by simp [totS, maxS]
  | x :: l, h => by
    have := maxS_le l (fun y hy => h y (by simp [hy]))
    have := h x (by simp)
    rw [totS, maxS]
    omega
theorem TreeExpr.many_le (e : TreeExpr) : e.many ≤ 1 + e.total := by
  rw [TreeExpr.many_eq, TreeExpr.total_eq]
  have := totS_le (f := TreeExpr.many) (g := TreeExpr.total) e.kids (fun x hx => TreeExpr.many_le x)
  omega
termination_by SizeOf.sizeOf e
decreasing_by
  cases e
  have := List.sizeOf_lt_of_mem hx
  simp at this ⊢
  omega
theorem TreeExpr.deep_le (e : TreeExpr) : e.deep ≤ e.many := by
  rw [TreeExpr.many_eq, TreeExpr.deep_eq]
  have := maxS_le (f := TreeExpr.deep) (g := TreeExpr.many) e.kids (fun x hx => TreeExpr.deep_le x)
  omega
termination_by SizeOf.sizeOf e
decreasing_by
  cases e
  have := List.sizeOf_lt_of_mem hx
  simp at this ⊢
  omega
theorem TreeExpr.kid_total {e x : TreeExpr} (hx : x ∈ e.kids) : x.total ≤ e.total := by
  rw [TreeExpr.total_eq e]
  have := totS_mem TreeExpr.total hx
  omega
theorem implTreeNodes_runs (e : TreeExpr) (ht : e.total ≤ 1048576) {σ : Heap} {cs : List V} (hr : TreeExpr.Rep σ cs e) : Runs G n_impl_TreeNodes [.agg cs] σ (.tuple [.int .i64 e.many, .int .i64 e.deep]) σ := by
  have ih : ∀ x, x ∈ e.kids → ∀ cs, TreeExpr.Rep σ cs x → Runs G n_impl_TreeNodes [.agg cs] σ (.tuple [.int .i64 x.many, .int .i64 x.deep]) σ := fun x hx cs hr => implTreeNodes_runs x (Nat.le_trans (TreeExpr.kid_total hx) ht) hr
  have hm := TreeExpr.many_le e
  have hd := TreeExpr.deep_le e
  have hme := TreeExpr.many_eq e
  have hde := TreeExpr.deep_eq e
  have hl : e.kids.length ≤ 1048576 := by rw [TreeExpr.total_eq] at ht; omega
  cases hr with
  | mk h =>
  rename_i a
  obtain ⟨w, σ', ⟨rfl, rfl⟩, he⟩ := loop (L := impl_TreeNodes.L0) (A := impl_TreeNodes.A0) (S := Nat)
    (Inv := fun i => i ≤ e.kids.length) (Good := fun w σ' => σ' = σ ∧ w = .tuple [.int .i64 e.many, .int .i64 e.deep])
    (vals := fun i => [.v (.int .i64 ((1 + totS TreeExpr.many (e.kids.take i) : Nat) : Int)), .v (.int .i64 ((maxS TreeExpr.deep (e.kids.take i) : Nat) : Int)), .v a, .v (.int .i64 (e.kids.length : Int)), .v (.int .i64 (i : Int))]) (hp := fun _ => σ) (far := fun i => e.kids.length - i) (fun i hi => by
      by_cases hlt : i < e.kids.length
      · obtain ⟨r, o, hv, cs, hr, hP⟩ := h.at hlt
        have c := ih _ (List.getElem_mem hlt) cs hP
        have e1 : totS TreeExpr.many (e.kids.take (i + 1)) = totS TreeExpr.many (e.kids.take i) + e.kids[i].many := by rw [take_next hlt, totS_append]; simp [totS]
        have e2 : maxS TreeExpr.deep (e.kids.take (i + 1)) = max (maxS TreeExpr.deep (e.kids.take i)) e.kids[i].deep := by rw [take_next hlt, maxS_append]; simp [maxS]
        have b1 := totS_take_le TreeExpr.many e.kids (i + 1)
        generalize e.kids[i] = x at hP c e1 e2
        cases hP with
        | mk hk =>
        refine .inr ⟨i + 1, hlt, by omega, c.mono fun k c m => ?_⟩
        have hw : IntKind.wrap .i64 ((i : Int) + 1) = ((i + 1 : Nat) : Int) := wrap_id (by omega) (by omega)
        have hw1 : IntKind.wrap .i64 (((1 + totS TreeExpr.many (e.kids.take i) : Nat) : Int) + (x.many : Int)) = ((1 + totS TreeExpr.many (e.kids.take (i + 1)) : Nat) : Int) := by rw [wrap_id (by omega) (by omega)]; omega
        have hw2 : (if ((maxS TreeExpr.deep (e.kids.take i) : Nat) : Int) < (x.deep : Int) then (x.deep : Int) else ((maxS TreeExpr.deep (e.kids.take i) : Nat) : Int)) = ((maxS TreeExpr.deep (e.kids.take (i + 1)) : Nat) : Int) := by rw [e2]; split <;> omega
        rw [impl_TreeNodes.L0_step]
        simp only [Int.ofNat_lt, hlt, decide_true, cond_true, hv, hr, Option.bind_some, uncons_cons, castInt_int, castStr_str, isNil_nil, c, castTuple_tuple]
        rw [hw, hw1, ← hw2]
        simp only [Int.ofNat_lt]
      · refine .inl ⟨_, σ, ⟨rfl, rfl⟩, Ev.now fun k m => ?_⟩
        rw [impl_TreeNodes.L0_step]
        simp only [Int.ofNat_lt, hlt, decide_false, cond_false, Option.bind_some, impl_TreeNodes.A0_x0]
        rw [List.take_of_length_le (by omega), ← hme, wrap_id (by omega) (by omega), hde]
        rfl) 0 (Nat.zero_le _)
  refine Runs.mk ((Ev.far e.kids.length he).mono fun k ⟨e1, hk⟩ => ?_)
  rw [impl_TreeNodes.eq, h.vlen]
  exact e1 k (by simpa using hk)
termination_by SizeOf.sizeOf e
decreasing_by
  cases e
  have := List.sizeOf_lt_of_mem hx
  simp at this ⊢
  omega
theorem specTreeNodes_runs (e : TreeExpr) (ht : e.total ≤ 1048576) {σ : Heap} {cs : List V} (hr : TreeExpr.Rep σ cs e) : Runs G n_spec_TreeNodes [.agg cs] σ (.tuple [.int .i64 e.many, .int .i64 e.deep]) σ := by
  have ih : ∀ x, x ∈ e.kids → ∀ cs, TreeExpr.Rep σ cs x → Runs G n_spec_TreeNodes [.agg cs] σ (.tuple [.int .i64 x.many, .int .i64 x.deep]) σ := fun x hx cs hr => specTreeNodes_runs x (Nat.le_trans (TreeExpr.kid_total hx) ht) hr
  have hm := TreeExpr.many_le e
  have hd := TreeExpr.deep_le e
  have hme := TreeExpr.many_eq e
  have hde := TreeExpr.deep_eq e
  have hl : e.kids.length ≤ 1048576 := by rw [TreeExpr.total_eq] at ht; omega
  cases hr with
  | mk h =>
  rename_i a
  obtain ⟨w, σ', ⟨rfl, rfl⟩, he⟩ := loop (L := spec_TreeNodes.L0) (A := spec_TreeNodes.A0) (S := Nat)
    (Inv := fun i => i ≤ e.kids.length) (Good := fun w σ' => σ' = σ ∧ w = .tuple [.int .i64 e.many, .int .i64 e.deep])
    (vals := fun i => [.box [.int .i64 e.kind, .int .i64 e.num, .str e.name, .str e.mod, a], .v (.int .i64 ((1 + totS TreeExpr.many (e.kids.take i) : Nat) : Int)), .v (.int .i64 ((maxS TreeExpr.deep (e.kids.take i) : Nat) : Int)), .v (.int .i64 (i : Int))]) (hp := fun _ => σ) (far := fun i => e.kids.length - i) (fun i hi => by
      by_cases hlt : i < e.kids.length
      · obtain ⟨r, o, hv, cs, hr, hP⟩ := h.at hlt
        have c := ih _ (List.getElem_mem hlt) cs hP
        have e1 : totS TreeExpr.many (e.kids.take (i + 1)) = totS TreeExpr.many (e.kids.take i) + e.kids[i].many := by rw [take_next hlt, totS_append]; simp [totS]
        have e2 : maxS TreeExpr.deep (e.kids.take (i + 1)) = max (maxS TreeExpr.deep (e.kids.take i)) e.kids[i].deep := by rw [take_next hlt, maxS_append]; simp [maxS]
        have b1 := totS_take_le TreeExpr.many e.kids (i + 1)
        generalize e.kids[i] = x at hP c e1 e2
        cases hP with
        | mk hk =>
        refine .inr ⟨i + 1, hlt, by omega, c.mono fun k c m => ?_⟩
        have hw : IntKind.wrap .i64 ((i : Int) + 1) = ((i + 1 : Nat) : Int) := wrap_id (by omega) (by omega)
        have hw1 : IntKind.wrap .i64 (((1 + totS TreeExpr.many (e.kids.take i) : Nat) : Int) + (x.many : Int)) = ((1 + totS TreeExpr.many (e.kids.take (i + 1)) : Nat) : Int) := by rw [wrap_id (by omega) (by omega)]; omega
        rw [spec_TreeNodes.L0_step, h.vlen]
        by_cases hlt2 : maxS TreeExpr.deep (e.kids.take i) < x.deep
        · simp only [Int.ofNat_lt, hlt, decide_true, cond_true, hv, hr, Option.bind_some, uncons_cons, castInt_int, castStr_str, isNil_nil, c, castTuple_tuple, hlt2]
          rw [hw, hw1, e2, Nat.max_eq_right (by omega)]
        · simp only [Int.ofNat_lt, hlt, decide_true, cond_true, hv, hr, Option.bind_some, uncons_cons, castInt_int, castStr_str, isNil_nil, c, castTuple_tuple, hlt2, decide_false, cond_false]
          rw [hw, hw1, e2, Nat.max_eq_left (by omega)]
      · refine .inl ⟨_, σ, ⟨rfl, rfl⟩, Ev.now fun k m => ?_⟩
        rw [spec_TreeNodes.L0_step, h.vlen]
        simp only [Int.ofNat_lt, hlt, decide_false, cond_false, Option.bind_some, spec_TreeNodes.A0_x0]
        rw [List.take_of_length_le (by omega), ← hme, wrap_id (by omega) (by omega), hde]
        rfl) 0 (Nat.zero_le _)
  refine Runs.mk ((Ev.far e.kids.length he).mono fun k ⟨e1, hk⟩ => ?_)
  rw [spec_TreeNodes.eq]
  exact e1 k (by simpa using hk)
termination_by SizeOf.sizeOf e
decreasing_by
  cases e
  have := List.sizeOf_lt_of_mem hx
  simp at this ⊢
  omega
end Go.Y

/- Types and short numbers. -/
set_option linter.unusedVariables false
set_option linter.unusedSimpArgs false
set_option maxRecDepth 100000
namespace Go.Y
open Go.HM Go.Proofs
theorem isType_runs {σ : Heap} (n : Int) : Runs G n_impl_isType [.int .i64 n] σ (.bool (decide (1 ≤ n ∧ n ≤ 3))) σ :=
  Runs.mk ((inRange_runs (σ := σ) n 1 3).mono fun k e => by rw [impl_isType.eq]; simp only [e, Option.bind_some, castBool_bool])
theorem isShort_runs {σ : Heap} (n : Int) : Runs G n_impl_isShort [.int .i64 n] σ (.bool (decide (-99999999999999999 ≤ n ∧ n ≤ 99999999999999999))) σ :=
  Runs.mk ((inRange_runs (σ := σ) n (-99999999999999999) 99999999999999999).mono fun k e => by rw [impl_isShort.eq]; simp only [e, Option.bind_some, castBool_bool])
theorem treeType_gives (σ : Heap) (n : Int) : ∃ s : ByteArray, (s = ⟨#[]⟩ ↔ ¬ (1 ≤ n ∧ n ≤ 3)) ∧ Gives G n_spec_TreeType [.int .i64 n] σ (.str s) := by
  by_cases h1 : n < 1
  · refine ⟨⟨#[]⟩, by simp; omega, Gives.mk (Lh.refl σ) (Ev.now fun k => ?_)⟩
    rw [spec_TreeType.eq]
    simp only [h1, decide_true, cond_true]
  by_cases h2 : 3 < n
  · refine ⟨⟨#[]⟩, by simp; omega, Gives.mk (Lh.refl σ) (Ev.now fun k => ?_)⟩
    rw [spec_TreeType.eq]
    simp only [h1, h2, decide_true, cond_true, decide_false, cond_false]
  have hl : RepS 1 StrRep (hnew σ 1 (([⟨#[105, 110, 116]⟩, ⟨#[98, 111, 111, 108]⟩, ⟨#[114, 111, 119]⟩] : List ByteArray).map .str)) (.sl σ.length 0 3 true) [⟨#[105, 110, 116]⟩, ⟨#[98, 111, 111, 108]⟩, ⟨#[114, 111, 119]⟩] := RepS.lit σ _ .str (fun _ => rfl) true 3 rfl
  obtain ⟨i, rfl⟩ : ∃ i : Nat, n = (i : Int) + 1 := ⟨(n - 1).toNat, by omega⟩
  have hi : i < 3 := by omega
  obtain ⟨r, o, hv, cs, hr, hP⟩ := hl.at (i := i) hi
  unfold StrRep at hP
  subst hP
  have hw : IntKind.wrap .i64 ((i : Int) + 1 - 1) = (i : Int) := by rw [wrap_id (by omega) (by omega)]; omega
  refine ⟨([⟨#[105, 110, 116]⟩, ⟨#[98, 111, 111, 108]⟩, ⟨#[114, 111, 119]⟩] : List ByteArray)[i]'hi, ?_, Gives.mk (σ' := hnew σ 1 (([⟨#[105, 110, 116]⟩, ⟨#[98, 111, 111, 108]⟩, ⟨#[114, 111, 119]⟩] : List ByteArray).map .str)) (Lh.new _ _ _) (Ev.now fun k => ?_)⟩
  · have : i = 0 ∨ i = 1 ∨ i = 2 := by omega
    rcases this with rfl | rfl | rfl <;> simp <;> decide
  · rw [spec_TreeType.eq]
    simp only [h1, h2, decide_false, cond_false, hw, hv, Option.bind_some]
    change (rdc (hnew σ 1 (([⟨#[105, 110, 116]⟩, ⟨#[98, 111, 111, 108]⟩, ⟨#[114, 111, 119]⟩] : List ByteArray).map .str)) r o 1).bind _ = _
    rw [hr]
    rfl
end Go.Y

/- Arities, types, lists of parameters. -/
set_option linter.unusedVariables false
set_option linter.unusedSimpArgs false
set_option maxRecDepth 100000
namespace Go.Y
open Go.HM Go.Proofs
def arity (s : ByteArray) : Int :=
  if s = ⟨#[110, 111, 116]⟩ then 1 else if s = ⟨#[108, 101, 110]⟩ then 1 else if s = ⟨#[112, 114, 105, 110, 116]⟩ then 1 else if s = ⟨#[112, 117, 116]⟩ then 3 else
  if s = ⟨#[43]⟩ then 2 else if s = ⟨#[45]⟩ then 2 else if s = ⟨#[42]⟩ then 2 else if s = ⟨#[47]⟩ then 2 else if s = ⟨#[37]⟩ then 2 else if s = ⟨#[60]⟩ then 2 else if s = ⟨#[60, 61]⟩ then 2 else if s = ⟨#[61]⟩ then 2 else
  if s = ⟨#[97, 116]⟩ then 2 else if s = ⟨#[106, 111, 105, 110]⟩ then 2 else if s = ⟨#[97, 110, 100]⟩ then 2 else if s = ⟨#[111, 114]⟩ then 2 else -1
theorem implArity_runs {σ : Heap} (s : ByteArray) : Runs G n_impl_TreeArity [.str s] σ (.int .i64 (arity s)) σ := Runs.mk (Ev.now fun k => by
  rw [impl_TreeArity.eq]
  by_cases h1 : s = ⟨#[110, 111, 116]⟩
  · subst h1; kernel_rfl
  by_cases h2 : s = ⟨#[108, 101, 110]⟩
  · subst h2; kernel_rfl
  by_cases h3 : s = ⟨#[112, 114, 105, 110, 116]⟩
  · subst h3; kernel_rfl
  by_cases h4 : s = ⟨#[112, 117, 116]⟩
  · subst h4; kernel_rfl
  by_cases h5 : s = ⟨#[43]⟩
  · subst h5; kernel_rfl
  by_cases h6 : s = ⟨#[45]⟩
  · subst h6; kernel_rfl
  by_cases h7 : s = ⟨#[42]⟩
  · subst h7; kernel_rfl
  by_cases h8 : s = ⟨#[47]⟩
  · subst h8; kernel_rfl
  by_cases h9 : s = ⟨#[37]⟩
  · subst h9; kernel_rfl
  by_cases h10 : s = ⟨#[60]⟩
  · subst h10; kernel_rfl
  by_cases h11 : s = ⟨#[60, 61]⟩
  · subst h11; kernel_rfl
  by_cases h12 : s = ⟨#[61]⟩
  · subst h12; kernel_rfl
  by_cases h13 : s = ⟨#[97, 116]⟩
  · subst h13; kernel_rfl
  by_cases h14 : s = ⟨#[106, 111, 105, 110]⟩
  · subst h14; kernel_rfl
  by_cases h15 : s = ⟨#[97, 110, 100]⟩
  · subst h15; kernel_rfl
  by_cases h16 : s = ⟨#[111, 114]⟩
  · subst h16; kernel_rfl
  simp only [arity, h1, h2, h3, h4, h5, h6, h7, h8, h9, h10, h11, h12, h13, h14, h15, h16, decide_false, cond_false, if_false])
def prims : List ByteArray := [⟨#[43]⟩, ⟨#[45]⟩, ⟨#[42]⟩, ⟨#[47]⟩, ⟨#[37]⟩, ⟨#[60]⟩, ⟨#[60, 61]⟩, ⟨#[61]⟩, ⟨#[110, 111, 116]⟩, ⟨#[97, 116]⟩, ⟨#[108, 101, 110]⟩, ⟨#[112, 117, 116]⟩, ⟨#[106, 111, 105, 110]⟩, ⟨#[112, 114, 105, 110, 116]⟩, ⟨#[97, 110, 100]⟩, ⟨#[111, 114]⟩]
theorem prims_runs (σ : Heap) : Runs G n_spec_l2Prims [] σ (.sl σ.length 0 16 true) (hnew σ 1 (prims.map .str)) := Runs.mk (Ev.now fun k => by rw [spec_l2Prims.eq]; rfl)
theorem l2Prim_gives (σ : Heap) (s : ByteArray) : ∃ n : Int, ((n = 0 ∧ ∀ x, x ∈ prims → x ≠ s) ∨ (∃ i, ∃ h : i < prims.length, prims[i] = s ∧ n = (i : Int) + 1)) ∧ Gives G n_spec_l2Prim [.str s] σ (.int .i64 n) := by
  have h : RepS 1 StrRep (hnew σ 1 (prims.map .str)) (.sl σ.length 0 16 true) prims := RepS.lit σ prims .str (fun _ => rfl) true 16 rfl
  have hp : prims.length = 16 := rfl
  obtain ⟨w, σ', ⟨hl, n, hn, rfl⟩, he⟩ := loop (L := spec_l2Prim.L0) (A := spec_l2Prim.A0) (S := Nat)
    (Inv := fun i => i ≤ prims.length ∧ ∀ j x, j < i → prims[j]? = some x → x ≠ s) (Good := fun w σ' => Lh σ σ' ∧ ∃ n : Int, ((n = 0 ∧ ∀ x, x ∈ prims → x ≠ s) ∨ (∃ i, ∃ h : i < prims.length, prims[i] = s ∧ n = (i : Int) + 1)) ∧ w = .int .i64 n)
    (vals := fun i => [.v (.str s), .v (.sl σ.length 0 16 true), .v (.int .i64 (i : Int))]) (hp := fun _ => hnew σ 1 (prims.map .str)) (far := fun i => prims.length - i) (fun i ⟨hi, hne⟩ => by
      by_cases hlt : i < prims.length
      · obtain ⟨r, o, hv, cs, hr, hP⟩ := h.at hlt
        unfold StrRep at hP
        subst hP
        have hw : IntKind.wrap .i64 ((i : Int) + 1) = ((i + 1 : Nat) : Int) := wrap_id (by omega) (by omega)
        by_cases hs : prims[i] = s
        · refine .inl ⟨.int .i64 ((i : Int) + 1), hnew σ 1 (prims.map .str), ⟨Lh.new _ _ _, _, .inr ⟨i, hlt, hs, rfl⟩, rfl⟩, Ev.now fun k m => ?_⟩
          rw [spec_l2Prim.L0_step, h.vlen]
          simp [hlt, hv, hr, hs, spec_l2Prim.A0_ret, hw]
        · refine .inr ⟨i + 1, ⟨hlt, fun j x hj hx => ?_⟩, by omega, Ev.now fun k m => ?_⟩
          · by_cases hji : j = i
            · subst hji
              rw [List.getElem?_eq_getElem hlt] at hx
              injection hx with hx
              rw [← hx]; exact hs
            · exact hne j x (by omega) hx
          · rw [spec_l2Prim.L0_step, h.vlen]
            simp [hlt, hv, hr, hs]
            rw [hw]
            rfl
      · refine .inl ⟨.int .i64 0, hnew σ 1 (prims.map .str), ⟨Lh.new _ _ _, 0, .inl ⟨rfl, fun x hx hc => ?_⟩, rfl⟩, Ev.now fun k m => ?_⟩
        · obtain ⟨j, hj, hjs⟩ := List.getElem_of_mem hx
          exact hne j _ (by omega) (List.getElem?_eq_getElem hj) (hjs.trans hc)
        · rw [spec_l2Prim.L0_step, h.vlen]
          simp [hlt, spec_l2Prim.A0_x0]) 0 ⟨Nat.zero_le _, fun j x hj => absurd hj (by omega)⟩
  refine ⟨n, hn, Gives.mk hl (((prims_runs σ).and (Ev.far prims.length he)).mono fun k ⟨e1, e, hk⟩ => ?_)⟩
  rw [spec_l2Prim.eq, e1]
  exact e k (by omega)
theorem specArity_gives (σ : Heap) (s : ByteArray) : Gives G n_spec_TreeArity [.str s] σ (.int .i64 (arity s)) := by
  obtain ⟨n, hn, σ1, l1, c1⟩ := l2Prim_gives σ s
  refine Gives.mk l1 (c1.mono fun k e => ?_)
  rw [spec_TreeArity.eq, e]
  rcases hn with ⟨rfl, hn⟩ | ⟨i, hi, hs, rfl⟩
  · have h : ∀ x, x ∈ prims → ¬ s = x := fun x hx hc => hn x hx hc.symm
    have ha : arity s = -1 := by
      simp only [prims, List.mem_cons, List.not_mem_nil, or_false, forall_eq_or_imp, forall_eq] at h
      simp [arity, h]
    rw [ha]
    rfl
  · have hp : prims.length = 16 := rfl
    have : i = 0 ∨ i = 1 ∨ i = 2 ∨ i = 3 ∨ i = 4 ∨ i = 5 ∨ i = 6 ∨ i = 7 ∨ i = 8 ∨ i = 9 ∨ i = 10 ∨ i = 11 ∨ i = 12 ∨ i = 13 ∨ i = 14 ∨ i = 15 := by omega
    subst hs
    rcases this with rfl | rfl | rfl | rfl | rfl | rfl | rfl | rfl | rfl | rfl | rfl | rfl | rfl | rfl | rfl | rfl <;> (first | rfl | (show (_ : Option (V × Heap)) = _; kernel_rfl))
end Go.Y

/- Right expressions. -/
set_option linter.unusedVariables false
set_option linter.unusedSimpArgs false
set_option maxRecDepth 100000
set_option maxHeartbeats 2000000
namespace Go.Y
open Go.HM Go.Proofs
abbrev E0 : ByteArray := ⟨#[]⟩
def NodeOk (e : TreeExpr) : Prop :=
  (e.kind = 1 ∧ (e.kids.length : Int) = 0 ∧ e.name = E0 ∧ e.mod = E0 ∧ -99999999999999999 ≤ e.num ∧ e.num ≤ 99999999999999999) ∨
  (e.kind = 2 ∧ (e.kids.length : Int) = 0 ∧ e.name = E0 ∧ e.mod = E0 ∧ 0 ≤ e.num ∧ e.num ≤ 1) ∨
  (e.kind = 3 ∧ (e.kids.length : Int) = 0 ∧ e.num = 0 ∧ e.mod = E0 ∧ IsName e.name) ∨
  (e.kind = 4 ∧ e.num = 0 ∧ e.mod = E0 ∧ (e.kids.length : Int) = arity e.name) ∨
  (e.kind = 5 ∧ (e.kids.length : Int) = 3 ∧ e.num = 0 ∧ e.name = E0 ∧ e.mod = E0) ∨
  (e.kind = 6 ∧ (e.kids.length : Int) = 2 ∧ e.num = 0 ∧ e.mod = E0 ∧ IsName e.name) ∨
  (e.kind = 7 ∧ (e.kids.length : Int) ≤ 4 ∧ e.num = 0 ∧ IsName e.name ∧ (e.mod = E0 ∨ IsName e.mod)) ∨
  (e.kind = 8 ∧ (e.kids.length : Int) ≤ 8 ∧ e.num = 0 ∧ e.name = E0 ∧ e.mod = E0)
noncomputable instance (e : TreeExpr) : Decidable (NodeOk e) := Classical.propDecidable _
theorem partsOk_gives {σ : Heap} {e : TreeExpr} (hf : e.Fit) {cs : List V} (hr : TreeExpr.Rep σ cs e) : Gives G n_impl_TreeExpr_partsOk [.agg cs] σ (.bool (decide (NodeOk e))) := by
  cases hf with
  | mk f0 f1 f2 f3 f4 f5 =>
  cases hr with
  | mk h =>
  have hv := h.vlen
  obtain ⟨σ1, l1, c1⟩ := implLexName_gives σ e.name f2
  obtain ⟨σ2, l2, c2⟩ := implLexName_gives σ1 e.mod f3
  have c3 := isShort_runs (σ := σ) e.num
  have c4 := inRange_runs (σ := σ) e.num 0 1
  have c5 := implArity_runs (σ := σ) e.name
  by_cases k1 : e.kind = 1
  · refine Gives.mk (Lh.refl σ) (c3.mono fun k e3 => ?_)
    rw [impl_TreeExpr_partsOk.eq]
    by_cases hn : e.name = E0
    · by_cases hm : e.mod = E0
      · by_cases hs : -99999999999999999 ≤ e.num ∧ e.num ≤ 99999999999999999 <;> simp [k1, hn, hm, e3, hv, NodeOk, hs]
      · simp [k1, hn, hm, NodeOk]
    · simp [k1, hn, NodeOk]
  by_cases k2 : e.kind = 2
  · refine Gives.mk (Lh.refl σ) (c4.mono fun k e4 => ?_)
    rw [impl_TreeExpr_partsOk.eq]
    by_cases hn : e.name = E0
    · by_cases hm : e.mod = E0
      · by_cases hs : 0 ≤ e.num ∧ e.num ≤ 1 <;> simp [k2, hn, hm, e4, hv, NodeOk, hs]
      · simp [k2, hn, hm, NodeOk]
    · simp [k2, hn, NodeOk]
  by_cases h0 : e.num = 0
  rotate_left
  · refine Gives.mk (Lh.refl σ) (Ev.now fun k => ?_)
    have : ¬ NodeOk e := by simp [NodeOk, k1, k2, h0]
    rw [impl_TreeExpr_partsOk.eq]
    by_cases hn : e.name = E0 <;> simp [k1, k2, hn, h0, this]
  by_cases k3 : e.kind = 3
  · refine Gives.mk l1 (c1.mono fun k e1 => ?_)
    rw [impl_TreeExpr_partsOk.eq]
    by_cases hi : IsName e.name <;> by_cases hm : e.mod = E0 <;> by_cases hn : e.name = E0 <;> simp [k3, h0, hm, hn, e1, hv, NodeOk, hi] <;> simp_all
  by_cases k4 : e.kind = 4
  · refine Gives.mk (Lh.refl σ) (c5.mono fun k e5 => ?_)
    rw [impl_TreeExpr_partsOk.eq]
    by_cases hm : e.mod = E0 <;> by_cases hn : e.name = E0 <;> simp [k4, h0, hm, hn, e5, hv, NodeOk] <;> simp_all
  by_cases k5 : e.kind = 5
  · refine Gives.mk (Lh.refl σ) (Ev.now fun k => ?_)
    rw [impl_TreeExpr_partsOk.eq]
    by_cases hm : e.mod = E0 <;> by_cases hn : e.name = E0 <;> simp [k5, h0, hm, hn, hv, NodeOk]
  by_cases k6 : e.kind = 6
  · refine Gives.mk l1 (c1.mono fun k e1 => ?_)
    rw [impl_TreeExpr_partsOk.eq]
    by_cases hi : IsName e.name <;> by_cases hm : e.mod = E0 <;> by_cases hn : e.name = E0 <;> simp [k6, h0, hm, hn, e1, hv, NodeOk, hi] <;> simp_all
  by_cases k7 : e.kind = 7
  · by_cases hi : IsName e.name
    · by_cases hm : e.mod = E0
      · refine Gives.mk l1 (c1.mono fun k e1 => ?_)
        rw [impl_TreeExpr_partsOk.eq]
        by_cases hn : e.name = E0 <;> simp [k7, h0, hm, hn, e1, hv, NodeOk, hi] <;> simp_all
      · refine Gives.mk (l1.trans l2) ((c1.and c2).mono fun k ⟨e1, e2⟩ => ?_)
        rw [impl_TreeExpr_partsOk.eq]
        by_cases hM : IsName e.mod <;> by_cases hn : e.name = E0 <;> simp [k7, h0, hm, hn, e1, e2, hv, NodeOk, hi, hM] <;> simp_all
    · refine Gives.mk l1 (c1.mono fun k e1 => ?_)
      rw [impl_TreeExpr_partsOk.eq]
      by_cases hn : e.name = E0 <;> simp [k7, h0, hn, e1, hv, NodeOk, hi] <;> simp_all
  refine Gives.mk (Lh.refl σ) (Ev.now fun k => ?_)
  rw [impl_TreeExpr_partsOk.eq]
  by_cases k8 : e.kind = 8 <;> by_cases hm : e.mod = E0 <;> by_cases hn : e.name = E0 <;> simp [k1, k2, k3, k4, k5, k6, k7, k8, h0, hm, hn, hv, NodeOk]
theorem l2Plain_runs {σ : Heap} {n1 n2 : Int} {s3 s4 : ByteArray} {a5 : V} (b6 b7 b8 : Bool) : Runs G n_spec_l2Plain [.agg [.int .i64 n1, .int .i64 n2, .str s3, .str s4, a5], .bool b6, .bool b7, .bool b8] σ (.bool (decide ((b6 = true ∨ n2 = 0) ∧ (b7 = true ∨ s3 = E0) ∧ (b8 = true ∨ s4 = E0)))) σ := Runs.mk (Ev.now fun k => by
  rw [spec_l2Plain.eq]
  cases b6 <;> cases b7 <;> cases b8 <;> by_cases h1 : n2 = 0 <;> by_cases h2 : s3 = E0 <;> simp [h1, h2])
theorem l2Node_gives {σ : Heap} {e : TreeExpr} (hf : e.Fit) {cs : List V} (hr : TreeExpr.Rep σ cs e) : Gives G n_spec_l2Node [.agg cs] σ (.bool (decide (NodeOk e))) := by
  cases hf with
  | mk f0 f1 f2 f3 f4 f5 =>
  cases hr with
  | mk h =>
  rename_i a
  have hv := h.vlen
  obtain ⟨σ1, l1, c1⟩ := specLexName_gives σ e.name f2
  obtain ⟨σ2, l2, c2⟩ := specLexName_gives σ1 e.mod f3
  obtain ⟨σ5, l5, c5⟩ := specArity_gives σ e.name
  have c3 := l2Plain_runs (σ := σ) (n1 := e.kind) (n2 := e.num) (s3 := e.name) (s4 := e.mod) (a5 := a) true false false
  have c6 := l2Plain_runs (σ := σ) (n1 := e.kind) (n2 := e.num) (s3 := e.name) (s4 := e.mod) (a5 := a) false true false
  have c7 := l2Plain_runs (σ := σ) (n1 := e.kind) (n2 := e.num) (s3 := e.name) (s4 := e.mod) (a5 := a) false false false
  have c8 := l2Plain_runs (σ := σ) (n1 := e.kind) (n2 := e.num) (s3 := e.name) (s4 := e.mod) (a5 := a) false true true
  simp only [true_or, Bool.false_eq_true, false_or, true_and, and_true] at c3 c6 c7 c8
  have big : (e.num < 100000000000000000 ∧ -100000000000000000 < e.num) ↔ (-99999999999999999 ≤ e.num ∧ e.num ≤ 99999999999999999) := by omega
  have flag : (e.num = 0 ∨ e.num = 1) ↔ (0 ≤ e.num ∧ e.num ≤ 1) := by omega
  by_cases k1 : e.kind = 1
  · refine Gives.mk (Lh.refl σ) (c3.mono fun k e3 => ?_)
    have hN : NodeOk e ↔ ((e.kids.length : Int) = 0 ∧ e.name = E0 ∧ e.mod = E0 ∧ (e.num < 100000000000000000 ∧ -100000000000000000 < e.num)) := by rw [big]; simp [NodeOk, k1]
    rw [spec_l2Node.eq]
    simp only [hv, Option.bind_some, e3, castBool_bool]
    by_cases hl : e.kids = [] <;> by_cases hn : e.name = E0 <;> by_cases hm : e.mod = E0 <;> by_cases hs : e.num < 100000000000000000 <;> simp [k1, hl, hn, hm, hs, hN]
  by_cases k2 : e.kind = 2
  · refine Gives.mk (Lh.refl σ) (c3.mono fun k e3 => ?_)
    have hN : NodeOk e ↔ ((e.kids.length : Int) = 0 ∧ e.name = E0 ∧ e.mod = E0 ∧ (e.num = 0 ∨ e.num = 1)) := by rw [flag]; simp [NodeOk, k2]
    rw [spec_l2Node.eq]
    simp only [hv, Option.bind_some, e3, castBool_bool]
    by_cases hl : e.kids = [] <;> by_cases hn : e.name = E0 <;> by_cases hm : e.mod = E0 <;> by_cases hs : e.num = 0 <;> simp [k2, hl, hn, hm, hs, hN]
  by_cases k3 : e.kind = 3
  · have hN : NodeOk e ↔ ((e.kids.length : Int) = 0 ∧ (e.num = 0 ∧ e.mod = E0) ∧ IsName e.name) := by simp [NodeOk, k3, and_assoc]
    by_cases hl : e.kids = []
    · by_cases hp : e.num = 0 ∧ e.mod = E0
      · refine Gives.mk l1 ((c6.and c1).mono fun k ⟨e6, e1⟩ => ?_)
        rw [spec_l2Node.eq]
        simp only [hv, Option.bind_some, e6, castBool_bool, e1]
        simp [k3, hl, hp, hN]
      · refine Gives.mk (Lh.refl σ) (c6.mono fun k e6 => ?_)
        rw [spec_l2Node.eq]
        simp only [hv, Option.bind_some, e6, castBool_bool]
        simp [k3, hl, hp, hN]
    · refine Gives.mk (Lh.refl σ) (Ev.now fun k => ?_)
      rw [spec_l2Node.eq]
      simp [hv, k3, hl, hN]
  by_cases k4 : e.kind = 4
  · have hN : NodeOk e ↔ ((e.num = 0 ∧ e.mod = E0) ∧ (e.kids.length : Int) = arity e.name) := by simp [NodeOk, k4, and_assoc]
    by_cases hp : e.num = 0 ∧ e.mod = E0
    · refine Gives.mk l5 ((c6.and c5).mono fun k ⟨e6, e5⟩ => ?_)
      rw [spec_l2Node.eq]
      simp only [hv, Option.bind_some, e6, castBool_bool, e5, castInt_int]
      simp [k4, hp, hN]
    · refine Gives.mk (Lh.refl σ) (c6.mono fun k e6 => ?_)
      rw [spec_l2Node.eq]
      simp only [hv, Option.bind_some, e6, castBool_bool]
      simp [k4, hp, hN]
  by_cases k5 : e.kind = 5
  · have hN : NodeOk e ↔ ((e.kids.length : Int) = 3 ∧ (e.num = 0 ∧ e.name = E0 ∧ e.mod = E0)) := by simp [NodeOk, k5]
    refine Gives.mk (Lh.refl σ) (c7.mono fun k e7 => ?_)
    rw [spec_l2Node.eq]
    simp only [hv, Option.bind_some, e7, castBool_bool]
    by_cases hl : (e.kids.length : Int) = 3 <;> by_cases hp : e.num = 0 ∧ e.name = E0 ∧ e.mod = E0 <;> simp [k5, hl, hp, hN]
  by_cases k6 : e.kind = 6
  · have hN : NodeOk e ↔ ((e.kids.length : Int) = 2 ∧ (e.num = 0 ∧ e.mod = E0) ∧ IsName e.name) := by simp [NodeOk, k6, and_assoc]
    by_cases hl : (e.kids.length : Int) = 2
    · by_cases hp : e.num = 0 ∧ e.mod = E0
      · refine Gives.mk l1 ((c6.and c1).mono fun k ⟨e6, e1⟩ => ?_)
        rw [spec_l2Node.eq]
        simp only [hv, Option.bind_some, e6, castBool_bool, e1]
        simp [k6, hl, hp, hN]
      · refine Gives.mk (Lh.refl σ) (c6.mono fun k e6 => ?_)
        rw [spec_l2Node.eq]
        simp only [hv, Option.bind_some, e6, castBool_bool]
        simp [k6, hl, hp, hN]
    · refine Gives.mk (Lh.refl σ) (Ev.now fun k => ?_)
      rw [spec_l2Node.eq]
      simp [hv, k6, hl, hN]
  by_cases k7 : e.kind = 7
  · have hN : NodeOk e ↔ ((e.kids.length : Int) ≤ 4 ∧ e.num = 0 ∧ IsName e.name ∧ (e.mod = E0 ∨ IsName e.mod)) := by simp [NodeOk, k7]
    by_cases hl : (e.kids.length : Int) ≤ 4
    · by_cases hp : e.num = 0
      · by_cases hi : IsName e.name
        · by_cases hm : e.mod = E0
          · refine Gives.mk l1 ((c8.and c1).mono fun k ⟨e8, e1⟩ => ?_)
            rw [spec_l2Node.eq]
            simp only [hv, Option.bind_some, e8, castBool_bool, e1]
            simp [k7, hl, hp, hN, hi, hm]
          · refine Gives.mk (l1.trans l2) ((c8.and (c1.and c2)).mono fun k ⟨e8, e1, e2⟩ => ?_)
            rw [spec_l2Node.eq]
            simp only [hv, Option.bind_some, e8, castBool_bool, e1, e2]
            simp [k7, hl, hp, hN, hi, hm]
        · refine Gives.mk l1 ((c8.and c1).mono fun k ⟨e8, e1⟩ => ?_)
          rw [spec_l2Node.eq]
          simp only [hv, Option.bind_some, e8, castBool_bool, e1]
          simp [k7, hl, hp, hN, hi]
      · refine Gives.mk (Lh.refl σ) (c8.mono fun k e8 => ?_)
        rw [spec_l2Node.eq]
        simp only [hv, Option.bind_some, e8, castBool_bool]
        simp [k7, hl, hp, hN]
    · refine Gives.mk (Lh.refl σ) (Ev.now fun k => ?_)
      rw [spec_l2Node.eq]
      simp [hv, k7, hl, hN]
  refine Gives.mk (Lh.refl σ) (c7.mono fun k e7 => ?_)
  rw [spec_l2Node.eq]
  simp only [hv, Option.bind_some, e7, castBool_bool]
  by_cases k8 : e.kind = 8 <;> by_cases hl : (e.kids.length : Int) ≤ 8 <;> by_cases hp : e.num = 0 ∧ e.name = E0 ∧ e.mod = E0 <;> simp [k1, k2, k3, k4, k5, k6, k7, k8, hl, hp, NodeOk]
end Go.Y

/- Right expressions, all through. -/
set_option linter.unusedVariables false
set_option linter.unusedSimpArgs false
namespace Go.Y
open Go.HM Go.Proofs
inductive Right : TreeExpr → Prop where
  | mk {e : TreeExpr} : NodeOk e → (∀ x, x ∈ e.kids → Right x) → Right e
theorem right_iff (e : TreeExpr) : Right e ↔ NodeOk e ∧ ∀ x, x ∈ e.kids → Right x := ⟨fun h => by cases h with | mk a b => exact ⟨a, b⟩, fun h => .mk h.1 h.2⟩
noncomputable instance (e : TreeExpr) : Decidable (Right e) := Classical.propDecidable _
noncomputable def has {α : Type} (P : α → Prop) (l : List α) : Bool := @decide (∃ x, x ∈ l ∧ P x) (Classical.propDecidable _)
theorem has_true {α : Type} {P : α → Prop} {l : List α} : has P l = true ↔ ∃ x, x ∈ l ∧ P x := by simp [has]
theorem has_false {α : Type} {P : α → Prop} {l : List α} : has P l = false ↔ ∀ x, x ∈ l → ¬ P x := by simp [has]
theorem containsExpr_gives {σ : Heap} {v : V} {l : List TreeExpr} (hf : l.length ≤ 9223372036854775807) (h : RepS 5 (TreeExpr.Rep σ) σ v l) (f : FuncId) (P : TreeExpr → Prop)
    (hx : ∀ x, x ∈ l → ∀ σ cs, TreeExpr.Rep σ cs x → ∃ b, (b = true ↔ P x) ∧ Gives G f [.agg cs] σ (.bool b)) : Gives G n_slices_ContainsFunc_impl_TreeExpr_impl_TreeExpr [v, .fn f []] σ (.bool (has P l)) := by
  obtain ⟨w, σ', ⟨hl, n, hn, rfl⟩, he⟩ := loop (L := slices_IndexFunc_impl_TreeExpr_impl_TreeExpr.L0) (A := slices_IndexFunc_impl_TreeExpr_impl_TreeExpr.A0) (S := Nat × Heap)
    (Inv := fun s => s.1 ≤ l.length ∧ Lh σ s.2 ∧ ∀ x, x ∈ l.take s.1 → ¬ P x) (Good := fun w σ' => Lh σ σ' ∧ ∃ n : Int, (0 ≤ n ↔ ∃ x, x ∈ l ∧ P x) ∧ w = .int .i64 n)
    (vals := fun s => [.v v, .v (.fn f []), .v (.int .i64 (l.length : Int)), .v (.int .i64 (s.1 : Int))]) (hp := fun s => s.2) (far := fun s => l.length - s.1) (fun ⟨i, σi⟩ ⟨hi, hle, hok⟩ => by
      simp only at hi hle hok ⊢
      have hle' : RepS 5 (TreeExpr.Rep σi) σi v l := h.mono hle fun cs x _ hc => TreeExpr.Rep.le hle x hc
      by_cases hlt : i < l.length
      · obtain ⟨r, o, hv, cs, hr, hP⟩ := hle'.at hlt
        have hm : l[i] ∈ l := List.getElem_mem hlt
        obtain ⟨b, hb, σ1, l1, c1⟩ := hx _ hm σi cs hP
        have ht := take_next hlt
        generalize l[i] = x at hP hm hb ht
        cases hP with
        | mk hk =>
        have hw : IntKind.wrap .i64 ((i : Int) + 1) = ((i + 1 : Nat) : Int) := wrap_id (by omega) (by omega)
        cases b with
        | true =>
          refine .inl ⟨.int .i64 (i : Int), σ1, ⟨hle.trans l1, (i : Int), ?_, rfl⟩, c1.mono fun k e1 m => ?_⟩
          · exact ⟨fun _ => ⟨x, hm, hb.1 rfl⟩, fun _ => by omega⟩
          · rw [slices_IndexFunc_impl_TreeExpr_impl_TreeExpr.L0_step]
            simp [hlt, hv, hr, e1, slices_IndexFunc_impl_TreeExpr_impl_TreeExpr.A0_ret]
        | false =>
          refine .inr ⟨(i + 1, σ1), ⟨hlt, hle.trans l1, fun y hy => ?_⟩, by simp only; omega, c1.mono fun k e1 m => ?_⟩
          · rw [ht] at hy
            rcases List.mem_append.1 hy with h1 | h1
            · exact hok y h1
            · simp at h1; rw [h1]; intro hc; have := hb.2 hc; cases this
          · rw [slices_IndexFunc_impl_TreeExpr_impl_TreeExpr.L0_step]
            simp [hlt, hv, hr, e1]
            rw [hw]
            rfl
      · refine .inl ⟨.int .i64 (-1), σi, ⟨hle, -1, ?_, rfl⟩, Ev.now fun k m => ?_⟩
        · rw [List.take_of_length_le (by omega)] at hok
          simp
          exact hok
        · rw [slices_IndexFunc_impl_TreeExpr_impl_TreeExpr.L0_step]
          simp [hlt, slices_IndexFunc_impl_TreeExpr_impl_TreeExpr.A0_x0]) (0, σ) ⟨Nat.zero_le _, Lh.refl _, fun x hx => by simp at hx⟩
  have c2 : Runs G n_slices_IndexFunc_impl_TreeExpr_impl_TreeExpr [v, .fn f []] σ (.int .i64 n) σ' := Runs.mk ((Ev.far l.length he).mono fun k ⟨e, hk⟩ => by
    rw [slices_IndexFunc_impl_TreeExpr_impl_TreeExpr.eq, h.vlen]
    exact e k (by simpa using hk))
  refine Gives.mk hl (c2.mono fun k e => ?_)
  rw [slices_ContainsFunc_impl_TreeExpr_impl_TreeExpr.eq, e]
  have : has P l = decide (0 ≤ n) := by
    by_cases h0 : 0 ≤ n
    · rw [has_true.2 (hn.1 h0)]; simp [h0]
    · rw [has_false.2 fun x hx hp => h0 (hn.2 ⟨x, hx, hp⟩)]; simp [h0]
  rw [this]
  rfl
theorem fit_kids {e : TreeExpr} (h : e.Fit) : e.kids.length ≤ 9223372036854775807 ∧ ∀ x, x ∈ e.kids → x.Fit := by cases h with | mk f0 f1 f2 f3 f4 f5 => exact ⟨f4, f5⟩
theorem isRight_gives (e : TreeExpr) (hf : e.Fit) {σ : Heap} {cs : List V} (hr : TreeExpr.Rep σ cs e) : Gives G n_impl_TreeExpr_isRight [.agg cs] σ (.bool (decide (Right e))) := by
  have ih : ∀ x, x ∈ e.kids → ∀ σ cs, TreeExpr.Rep σ cs x → ∃ b, (b = true ↔ ¬ Right x) ∧ Gives G n_impl_TreeExpr_isRight_1 [.agg cs] σ (.bool b) := fun x hx σ cs hr => by
    obtain ⟨σ1, l1, c1⟩ := isRight_gives x ((fit_kids hf).2 x hx) hr
    refine ⟨!decide (Right x), by simp, Gives.mk l1 (c1.mono fun k e1 => ?_)⟩
    cases hr with
    | mk hk =>
    rw [impl_TreeExpr_isRight_1.eq, e1]
    rfl
  obtain ⟨σ1, l1, c1⟩ := partsOk_gives hf hr
  cases hr with
  | mk h =>
  rename_i a
  by_cases hn : NodeOk e
  · obtain ⟨σ2, l2, c2⟩ := containsExpr_gives (fit_kids hf).1 (h.mono l1 fun cs x _ hc => TreeExpr.Rep.le l1 x hc) n_impl_TreeExpr_isRight_1 (fun x => ¬ Right x) ih
    refine Gives.mk (l1.trans l2) ((c1.and c2).mono fun k ⟨e1, e2⟩ => ?_)
    rw [impl_TreeExpr_isRight.eq, e1]
    simp only [Option.bind_some, castBool_bool, hn, decide_true, cond_true, e2]
    have : (!has (fun x => ¬ Right x) e.kids) = decide (Right e) := by
      by_cases hr : Right e
      · rw [has_false.2 fun x hx hp => hp (((right_iff e).1 hr).2 x hx)]; simp [hr]
      · have : has (fun x => ¬ Right x) e.kids = true := Classical.byContradiction fun hc => hr (.mk hn fun x hx => Classical.byContradiction fun hp => hc (has_true.2 ⟨x, hx, hp⟩))
        rw [this]; simp [hr]
    rw [this]
  · refine Gives.mk l1 (c1.mono fun k e1 => ?_)
    have : ¬ Right e := fun hr => hn ((right_iff e).1 hr).1
    rw [impl_TreeExpr_isRight.eq, e1]
    simp [hn, this]
termination_by SizeOf.sizeOf e
decreasing_by
  cases e
  have := List.sizeOf_lt_of_mem hx
  simp at this ⊢
  omega
theorem exprOk_gives (e : TreeExpr) (hf : e.Fit) (ht : e.total ≤ 1048576) {σ : Heap} {cs : List V} (hr : TreeExpr.Rep σ cs e) : ∃ b, (b = true ↔ e.many ≤ 150 ∧ e.deep ≤ 16 ∧ Right e) ∧ Gives G n_impl_exprOk [.agg cs] σ (.bool b) := by
  have c1 := implTreeNodes_runs e ht hr
  obtain ⟨σ2, l2, c2⟩ := isRight_gives e hf hr
  cases hr with
  | mk h =>
  by_cases h1 : e.many ≤ 150
  · by_cases h2 : e.deep ≤ 16
    · refine ⟨decide (Right e), by simp [h1, h2], Gives.mk l2 ((c1.and c2).mono fun k ⟨e1, e2⟩ => ?_)⟩
      have h1' : (e.many : Int) ≤ 150 := by omega
      have h2' : (e.deep : Int) ≤ 16 := by omega
      rw [impl_exprOk.eq]
      simp only [e1, Option.bind_some, castTuple_tuple, uncons_cons, castInt_int, isNil_nil, h1', h2', decide_true, cond_true, e2, castBool_bool]
    · refine ⟨false, by simp [h2], Gives.mk (Lh.refl σ) (c1.mono fun k e1 => ?_)⟩
      have h1' : (e.many : Int) ≤ 150 := by omega
      have h2' : ¬ (e.deep : Int) ≤ 16 := by omega
      rw [impl_exprOk.eq]
      simp only [e1, Option.bind_some, castTuple_tuple, uncons_cons, castInt_int, isNil_nil, h1', h2', decide_true, cond_true, decide_false, cond_false]
  · refine ⟨false, by simp [h1], Gives.mk (Lh.refl σ) (c1.mono fun k e1 => ?_)⟩
    have h1' : ¬ (e.many : Int) ≤ 150 := by omega
    rw [impl_exprOk.eq]
    simp only [e1, Option.bind_some, castTuple_tuple, uncons_cons, castInt_int, isNil_nil, h1', decide_false, cond_false]
theorem l2Expr_gives (e : TreeExpr) (hf : e.Fit) {σ : Heap} {cs : List V} (hr : TreeExpr.Rep σ cs e) : Gives G n_spec_l2Expr [.agg cs] σ (.bool (decide (Right e))) := by
  have ih : ∀ x, x ∈ e.kids → ∀ σ cs, TreeExpr.Rep σ cs x → Gives G n_spec_l2Expr [.agg cs] σ (.bool (decide (Right x))) := fun x hx σ cs hr => l2Expr_gives x ((fit_kids hf).2 x hx) hr
  obtain ⟨σ1, l1, c1⟩ := l2Node_gives hf hr
  have hlen := (fit_kids hf).1
  cases hr with
  | mk h =>
  rename_i a
  by_cases hn : NodeOk e
  · obtain ⟨w, σ', ⟨hl, rfl⟩, he⟩ := loop (L := spec_l2Expr.L0) (A := spec_l2Expr.A0) (S := Nat × Heap)
      (Inv := fun s => s.1 ≤ e.kids.length ∧ Lh σ s.2 ∧ ∀ x, x ∈ e.kids.take s.1 → Right x) (Good := fun w σ' => Lh σ σ' ∧ w = .bool (decide (Right e)))
      (vals := fun s => [.box [.int .i64 e.kind, .int .i64 e.num, .str e.name, .str e.mod, a], .v (.int .i64 (s.1 : Int))]) (hp := fun s => s.2) (far := fun s => e.kids.length - s.1) (fun ⟨i, σi⟩ ⟨hi, hle, hok⟩ => by
        simp only at hi hle hok ⊢
        have hle' : RepS 5 (TreeExpr.Rep σi) σi a e.kids := h.mono hle fun cs x _ hc => TreeExpr.Rep.le hle x hc
        by_cases hlt : i < e.kids.length
        · obtain ⟨r, o, hv, cs, hr, hP⟩ := hle'.at hlt
          have hm : e.kids[i] ∈ e.kids := List.getElem_mem hlt
          obtain ⟨σ2, l2, c2⟩ := ih _ hm σi cs hP
          have ht := take_next hlt
          generalize e.kids[i] = x at hP hm ht c2
          cases hP with
          | mk hk =>
          have hw : IntKind.wrap .i64 ((i : Int) + 1) = ((i + 1 : Nat) : Int) := wrap_id (by omega) (by omega)
          by_cases hR : Right x
          · refine .inr ⟨(i + 1, σ2), ⟨hlt, hle.trans l2, fun y hy => ?_⟩, by simp only; omega, c2.mono fun k e1 m => ?_⟩
            · rw [ht] at hy
              rcases List.mem_append.1 hy with h1 | h1
              · exact hok y h1
              · simp at h1; rw [h1]; exact hR
            · rw [spec_l2Expr.L0_step, hle'.vlen]
              simp [hlt, hv, hr, e1, hR]
              rw [hw]
              rfl
          · refine .inl ⟨_, σ2, ⟨hle.trans l2, rfl⟩, c2.mono fun k e1 m => ?_⟩
            have : ¬ Right e := fun hc => hR (((right_iff e).1 hc).2 x hm)
            rw [spec_l2Expr.L0_step, hle'.vlen]
            simp [hlt, hv, hr, e1, hR, spec_l2Expr.A0_ret, this]
        · refine .inl ⟨_, σi, ⟨hle, rfl⟩, Ev.now fun k m => ?_⟩
          rw [List.take_of_length_le (by omega)] at hok
          have : Right e := .mk hn hok
          rw [spec_l2Expr.L0_step, hle'.vlen]
          simp [hlt, spec_l2Expr.A0_x0, this]) (0, σ1) ⟨Nat.zero_le _, l1, fun x hx => by simp at hx⟩
    refine Gives.mk hl ((Ev.and c1 (Ev.far e.kids.length he)).mono fun k ⟨e1, e2, hk⟩ => ?_)
    rw [spec_l2Expr.eq]
    simp only [e1, Option.bind_some, castBool_bool, hn, decide_true, Bool.not_true, cond_false]
    exact e2 k (by simpa using hk)
  · refine Gives.mk l1 (c1.mono fun k e1 => ?_)
    have : ¬ Right e := fun hr => hn ((right_iff e).1 hr).1
    rw [spec_l2Expr.eq]
    simp [e1, hn, this]
termination_by SizeOf.sizeOf e
decreasing_by
  cases e
  have := List.sizeOf_lt_of_mem hx
  simp at this ⊢
  omega
end Go.Y

/- Parameters and bodies. -/
set_option linter.unusedVariables false
set_option linter.unusedSimpArgs false
namespace Go.Y
open Go.HM Go.Proofs
theorem argNames_runs {σ : Heap} {v : V} {l : List TreeArg} (hf : l.length ≤ 1048576) (h : RepS 2 (TreeArg.Rep σ) σ v l) :
    ∃ v' σ', Lh σ σ' ∧ RepS 1 StrRep σ' v' (l.map (·.name)) ∧ Runs G n_impl_argNames [v] σ v' σ' := by
  obtain ⟨w, σ', ⟨hl, hg⟩, he⟩ := loop (L := impl_argNames.L0) (A := impl_argNames.A0) (S := Nat × V × Heap)
    (Inv := fun s => s.1 ≤ l.length ∧ Lh σ s.2.2 ∧ Grown σ.length 1 StrRep s.2.2 s.2.1 ((l.take s.1).map (·.name))) (Good := fun w σ' => Lh σ σ' ∧ RepS 1 StrRep σ' w (l.map (·.name)))
    (vals := fun s => [.v s.2.1, .v v, .v (.int .i64 (l.length : Int)), .v (.int .i64 (s.1 : Int))]) (hp := fun s => s.2.2) (far := fun s => l.length - s.1) (fun ⟨i, u, σi⟩ ⟨hi, hle, hg⟩ => by
      simp only at hi hle hg ⊢
      have hle' : RepS 2 (TreeArg.Rep σi) σi v l := h.mono hle fun cs x _ hc => TreeArg.Rep.le hle hc
      by_cases hlt : i < l.length
      · obtain ⟨r, o, hv, cs, hr, hP⟩ := hle'.at hlt
        have ht := take_next hlt
        generalize l[i] = x at hP ht
        cases hP with
        | mk =>
        have hw : IntKind.wrap .i64 ((i : Int) + 1) = ((i + 1 : Nat) : Int) := wrap_id (by omega) (by omega)
        have hli : ((l.take i).map (·.name)).length ≤ 1048576 := by rw [List.length_map, List.length_take]; omega
        obtain ⟨u', σ', ha, hg', hk⟩ := hg.app (bytes := 16) (Chunks.one (P := StrRep) (cs := [.str x.name]) (x := x.name) rfl) (by simp only [List.length_singleton]; omega) (by simp only [List.length_singleton]; omega)
        have ha' : vappend 1 16 σi u 1 [.str x.name] = some (u', σ') := ha
        refine .inr ⟨(i + 1, u', σ'), ⟨hlt, hk σ (Nat.le_refl _) hle, ?_⟩, by simp only; omega, Ev.now fun k m => ?_⟩
        · simp only
          rw [ht, List.map_append]
          exact hg'
        · rw [impl_argNames.L0_step]
          simp [hlt, hv, hr, ha']
          rw [hw]
          rfl
      · refine .inl ⟨u, σi, ⟨hle, ?_⟩, Ev.now fun k m => ?_⟩
        · rw [List.take_of_length_le (by omega)] at hg
          exact hg.rep fun cs x _ hc => hc
        · rw [impl_argNames.L0_step]
          simp [hlt, impl_argNames.A0_x0]) (0, .sl σ.length 0 0 true, hnew σ 1 []) ⟨Nat.zero_le _, Lh.new _ _ _, Grown.start σ 1 StrRep true⟩
  refine ⟨w, σ', hl, hg, Runs.mk ((Ev.far l.length he).mono fun k ⟨e, hk⟩ => ?_)⟩
  rw [impl_argNames.eq, h.vlen]
  exact e k (by simpa using hk)
theorem containsArg_gives {σ : Heap} {v : V} {l : List TreeArg} (hf : l.length ≤ 9223372036854775807) (h : RepS 2 (TreeArg.Rep σ) σ v l) (f : FuncId) (P : TreeArg → Prop)
    (hx : ∀ x, x ∈ l → ∀ σ cs, TreeArg.Rep σ cs x → ∃ b, (b = true ↔ P x) ∧ Gives G f [.agg cs] σ (.bool b)) : Gives G n_slices_ContainsFunc_impl_TreeArg_impl_TreeArg [v, .fn f []] σ (.bool (has P l)) := by
  obtain ⟨w, σ', ⟨hl, n, hn, rfl⟩, he⟩ := loop (L := slices_IndexFunc_impl_TreeArg_impl_TreeArg.L0) (A := slices_IndexFunc_impl_TreeArg_impl_TreeArg.A0) (S := Nat × Heap)
    (Inv := fun s => s.1 ≤ l.length ∧ Lh σ s.2 ∧ ∀ x, x ∈ l.take s.1 → ¬ P x) (Good := fun w σ' => Lh σ σ' ∧ ∃ n : Int, (0 ≤ n ↔ ∃ x, x ∈ l ∧ P x) ∧ w = .int .i64 n)
    (vals := fun s => [.v v, .v (.fn f []), .v (.int .i64 (l.length : Int)), .v (.int .i64 (s.1 : Int))]) (hp := fun s => s.2) (far := fun s => l.length - s.1) (fun ⟨i, σi⟩ ⟨hi, hle, hok⟩ => by
      simp only at hi hle hok ⊢
      have hle' : RepS 2 (TreeArg.Rep σi) σi v l := h.mono hle fun cs x _ hc => TreeArg.Rep.le hle hc
      by_cases hlt : i < l.length
      · obtain ⟨r, o, hv, cs, hr, hP⟩ := hle'.at hlt
        have hm : l[i] ∈ l := List.getElem_mem hlt
        obtain ⟨b, hb, σ1, l1, c1⟩ := hx _ hm σi cs hP
        have ht := take_next hlt
        generalize l[i] = x at hP hm hb ht
        cases hP with
        | mk =>
        have hw : IntKind.wrap .i64 ((i : Int) + 1) = ((i + 1 : Nat) : Int) := wrap_id (by omega) (by omega)
        cases b with
        | true =>
          refine .inl ⟨.int .i64 (i : Int), σ1, ⟨hle.trans l1, (i : Int), ?_, rfl⟩, c1.mono fun k e1 m => ?_⟩
          · exact ⟨fun _ => ⟨x, hm, hb.1 rfl⟩, fun _ => by omega⟩
          · rw [slices_IndexFunc_impl_TreeArg_impl_TreeArg.L0_step]
            simp [hlt, hv, hr, e1, slices_IndexFunc_impl_TreeArg_impl_TreeArg.A0_ret]
        | false =>
          refine .inr ⟨(i + 1, σ1), ⟨hlt, hle.trans l1, fun y hy => ?_⟩, by simp only; omega, c1.mono fun k e1 m => ?_⟩
          · rw [ht] at hy
            rcases List.mem_append.1 hy with h1 | h1
            · exact hok y h1
            · simp at h1; rw [h1]; intro hc; have := hb.2 hc; cases this
          · rw [slices_IndexFunc_impl_TreeArg_impl_TreeArg.L0_step]
            simp [hlt, hv, hr, e1]
            rw [hw]
            rfl
      · refine .inl ⟨.int .i64 (-1), σi, ⟨hle, -1, ?_, rfl⟩, Ev.now fun k m => ?_⟩
        · rw [List.take_of_length_le (by omega)] at hok
          simp
          exact hok
        · rw [slices_IndexFunc_impl_TreeArg_impl_TreeArg.L0_step]
          simp [hlt, slices_IndexFunc_impl_TreeArg_impl_TreeArg.A0_x0]) (0, σ) ⟨Nat.zero_le _, Lh.refl _, fun x hx => by simp at hx⟩
  have c2 : Runs G n_slices_IndexFunc_impl_TreeArg_impl_TreeArg [v, .fn f []] σ (.int .i64 n) σ' := Runs.mk ((Ev.far l.length he).mono fun k ⟨e, hk⟩ => by
    rw [slices_IndexFunc_impl_TreeArg_impl_TreeArg.eq, h.vlen]
    exact e k (by simpa using hk))
  refine Gives.mk hl (c2.mono fun k e => ?_)
  rw [slices_ContainsFunc_impl_TreeArg_impl_TreeArg.eq, e]
  have : has P l = decide (0 ≤ n) := by
    by_cases h0 : 0 ≤ n
    · rw [has_true.2 (hn.1 h0)]; simp [h0]
    · rw [has_false.2 fun x hx hp => h0 (hn.2 ⟨x, hx, hp⟩)]; simp [h0]
  rw [this]
  rfl
def IsType (n : Int) : Prop := 1 ≤ n ∧ n ≤ 3
theorem treeOk1_gives (x : TreeArg) (σ : Heap) (cs : List V) (hr : TreeArg.Rep σ cs x) : ∃ b, (b = true ↔ ¬ IsType x.type) ∧ Gives G n_impl_TreeOk_1 [.agg cs] σ (.bool b) := by
  cases hr with
  | mk =>
  refine ⟨!decide (1 ≤ x.type ∧ x.type ≤ 3), by simp [IsType]; omega, Gives.mk (Lh.refl σ) ((isType_runs (σ := σ) x.type).mono fun k e => ?_)⟩
  rw [impl_TreeOk_1.eq, e]
  rfl
def bodies (m : TreeMod) : List TreeExpr := m.funs.map (·.body) ++ m.main
theorem bodies_runs {σ : Heap} {m : TreeMod} (hf : m.funs.length ≤ 1048576) (hm : m.main.length ≤ 1048576) {cs : List V} (hr : TreeMod.Rep σ cs m) :
    ∃ v' σ', Lh σ σ' ∧ RepS 5 (TreeExpr.Rep σ') σ' v' (bodies m) ∧ Runs G n_impl_TreeMod_bodies [.agg cs] σ v' σ' := by
  cases hr with
  | mk h0 h1 h2 =>
  rename_i a0 a1 a2
  obtain ⟨w, σ', ⟨hl, hg⟩, he⟩ := loop (L := impl_TreeMod_bodies.L0) (A := impl_TreeMod_bodies.A0) (S := Nat × V × Heap)
    (Inv := fun s => s.1 ≤ m.funs.length ∧ Lh σ s.2.2 ∧ Grown σ.length 5 (TreeExpr.Rep σ) s.2.2 s.2.1 ((m.funs.take s.1).map (·.body))) (Good := fun w σ' => Lh σ σ' ∧ RepS 5 (TreeExpr.Rep σ') σ' w (bodies m))
    (vals := fun s => [.box [a0, a1, a2], .v s.2.1, .v a1, .v (.int .i64 (m.funs.length : Int)), .v (.int .i64 (s.1 : Int))]) (hp := fun s => s.2.2) (far := fun s => m.funs.length - s.1) (fun ⟨i, u, σi⟩ ⟨hi, hle, hg⟩ => by
      simp only at hi hle hg ⊢
      by_cases hlt : i < m.funs.length
      · obtain ⟨r, o, hv, cs, hr, hP⟩ := h1.at hlt
        have hr2 := hle.rdc hr
        have ht := take_next hlt
        generalize m.funs[i] = x at hP ht
        cases hP with
        | mk k0 k1 =>
        rename_i b0 b1
        have hw : IntKind.wrap .i64 ((i : Int) + 1) = ((i + 1 : Nat) : Int) := wrap_id (by omega) (by omega)
        have hli : ((m.funs.take i).map (·.body)).length ≤ 1048576 := by rw [List.length_map, List.length_take]; omega
        obtain ⟨u', σ', ha, hg', hk⟩ := hg.app (bytes := 72) (Chunks.one (P := TreeExpr.Rep σ) (cs := [.int .i64 x.body.kind, .int .i64 x.body.num, .str x.body.name, .str x.body.mod, b1]) (x := x.body) (.mk k1)) (by simp only [List.length_singleton]; omega) (by simp only [List.length_singleton]; omega)
        have ha' : vappend 5 72 σi u 1 [.int .i64 x.body.kind, .int .i64 x.body.num, .str x.body.name, .str x.body.mod, b1] = some (u', σ') := ha
        refine .inr ⟨(i + 1, u', σ'), ⟨hlt, hk σ (Nat.le_refl _) hle, ?_⟩, by simp only; omega, Ev.now fun k m => ?_⟩
        · simp only
          rw [ht, List.map_append]
          exact hg'
        · rw [impl_TreeMod_bodies.L0_step]
          simp [hlt, hv, hr2, ha']
          rw [hw]
          rfl
      · rw [List.take_of_length_le (by omega)] at hg
        obtain ⟨cs, hc, hch⟩ := (h2.le hle).cells
        obtain ⟨u', σ', ha, hg', hk⟩ := hg.app (bytes := 72) hch (by rw [List.length_map]; omega) (by rw [List.length_map]; omega)
        have hl' := hk σ (Nat.le_refl _) hle
        refine .inl ⟨u', σ', ⟨hl', hg'.rep fun cs x _ hc => TreeExpr.Rep.le hl' x hc⟩, Ev.now fun k m => ?_⟩
        rw [impl_TreeMod_bodies.L0_step]
        simp [hlt, impl_TreeMod_bodies.A0_x0, hc, ha]) (0, .sl σ.length 0 0 true, hnew σ 5 []) ⟨Nat.zero_le _, Lh.new _ _ _, Grown.start σ 5 (TreeExpr.Rep σ) true⟩
  refine ⟨w, σ', hl, hg, Runs.mk ((Ev.far m.funs.length he).mono fun k ⟨e, hk⟩ => ?_)⟩
  rw [impl_TreeMod_bodies.eq, h1.vlen]
  exact e k (by simpa using hk)
end Go.Y

/- What the reference asks of a function and of the module's size. -/
set_option linter.unusedVariables false
set_option linter.unusedSimpArgs false
namespace Go.Y
open Go.HM Go.Proofs
def FunOk (f : TreeFun) : Prop := IsName f.name ∧ f.args.length ≤ 4 ∧ IsType f.type ∧ Right f.body ∧ (∀ x, x ∈ f.args → IsType x.type) ∧ AllNames (f.args.map (·.name))
noncomputable instance (f : TreeFun) : Decidable (FunOk f) := Classical.propDecidable _
/-- The sizes, as they come. -/
def sizesOk : Nat → List TreeExpr → Prop
  | _, [] => True
  | n, e :: es => n + e.many ≤ 150 ∧ e.deep ≤ 16 ∧ sizesOk (n + e.many) es
noncomputable instance (n : Nat) (l : List TreeExpr) : Decidable (sizesOk n l) := Classical.propDecidable _
theorem l2Size_runs {σ : Heap} {m : TreeMod} (ht : m.total ≤ 1048576) {cs : List V} (hr : TreeMod.Rep σ cs m) : Runs G n_spec_l2Size [.agg cs] σ (.bool (decide (sizesOk 0 (bodies m)))) σ := by
  have hl1 : m.funs.length ≤ 1048576 := by rw [TreeMod.total_eq] at ht; omega
  have hl2 : m.main.length ≤ 1048576 := by rw [TreeMod.total_eq] at ht; omega
  have hb : ∀ x, x ∈ bodies m → x.total ≤ 1048576 := by
    intro x hx
    rw [TreeMod.total_eq] at ht
    rcases List.mem_append.1 hx with h | h
    · obtain ⟨f, hf, rfl⟩ := List.mem_map.1 h
      have h1 := totS_mem TreeFun.total hf
      rw [TreeFun.total_eq f] at h1
      omega
    · have := totS_mem TreeExpr.total h
      omega
  cases hr with
  | mk h0 h1 h2 =>
  rename_i a0 a1 a2
  have hlen : (bodies m).length = m.funs.length + m.main.length := by simp [bodies]
  have hw0 : IntKind.wrap .i64 ((m.funs.length : Int) + (m.main.length : Int)) = (((bodies m).length : Nat) : Int) := by rw [wrap_id (by omega) (by omega), hlen]; omega
  obtain ⟨w, σ', ⟨rfl, rfl⟩, he⟩ := loop (L := spec_l2Size.L0) (A := spec_l2Size.A0) (S := Nat × Nat)
    (Inv := fun s => s.1 ≤ (bodies m).length ∧ s.2 ≤ 150 ∧ (sizesOk 0 (bodies m) ↔ sizesOk s.2 ((bodies m).drop s.1))) (Good := fun w σ' => σ' = σ ∧ w = .bool (decide (sizesOk 0 (bodies m))))
    (vals := fun s => [.box [a0, a1, a2], .v (.int .i64 (s.2 : Int)), .v (.int .i64 (s.1 : Int))]) (hp := fun s => σ) (far := fun s => (bodies m).length - s.1) (fun ⟨i, n⟩ ⟨hi, hn, hok⟩ => by
      simp only at hi hn hok ⊢
      by_cases hlt : i < (bodies m).length
      · have hd : (bodies m).drop i = (bodies m)[i] :: (bodies m).drop (i + 1) := List.drop_eq_getElem_cons hlt
        have hm := hb _ (List.getElem_mem hlt)
        have hmem := TreeExpr.many_le (bodies m)[i]
        have hw : IntKind.wrap .i64 ((i : Int) + 1) = ((i + 1 : Nat) : Int) := wrap_id (by omega) (by omega)
        by_cases hf : i < m.funs.length
        · obtain ⟨r, o, hv, cs, hr, hP⟩ := h1.at hf
          have he : (bodies m)[i] = m.funs[i].body := by simp [bodies, List.getElem_append_left, hf]
          have hr4 := rdc_sub hr 4 5 (by omega)
          rw [he] at hd hm hmem
          generalize m.funs[i] = fn at hP hd hm hmem
          cases hP with
          | mk q0 q1 =>
          have c := specTreeNodes_runs (σ := σ) fn.body hm (.mk q1)
          generalize hx : fn.body = x at hd hm hmem c hr4
          have hr5 : rdc σ r (o + 4) 5 = some [.int .i64 x.kind, .int .i64 x.num, .str x.name, .str x.mod, _] := hr4
          have hlf : (i : Int) < (m.funs.length : Int) := by omega
          have hlb : (i : Int) < (((bodies m).length : Nat) : Int) := by omega
          have hw1 : IntKind.wrap .i64 ((n : Int) + (x.many : Int)) = ((n + x.many : Nat) : Int) := by rw [wrap_id (by omega) (by omega)]; omega
          by_cases g1 : n + x.many ≤ 150
          · have g1' : ¬ (150 : Int) < ((n + x.many : Nat) : Int) := by omega
            by_cases g2 : x.deep ≤ 16
            · have g2' : ¬ (16 : Int) < (x.deep : Int) := by omega
              refine .inr ⟨(i + 1, n + x.many), ⟨hlt, g1, ?_⟩, by simp only; omega, c.mono fun k e1 m' => ?_⟩
              · rw [hok, hd]; simp [sizesOk, g1, g2]
              · rw [spec_l2Size.L0_step, h1.vlen, h2.vlen]
                simp only [Option.bind_some, hw0, hlb, hlf, hv, hr5, e1, uncons_cons, castInt_int, castStr_str, castBool_bool, isNil_nil, castTuple_tuple, hw1, g1', g2', decide_false, cond_false, decide_true, cond_true, hw]
            · have g2' : (16 : Int) < (x.deep : Int) := by omega
              have hno : ¬ sizesOk 0 (bodies m) := by rw [hok, hd]; simp [sizesOk, g2]
              refine .inl ⟨_, σ, ⟨rfl, rfl⟩, c.mono fun k e1 m' => ?_⟩
              rw [spec_l2Size.L0_step, h1.vlen, h2.vlen]
              simp only [Option.bind_some, hw0, hlb, hlf, hv, hr5, e1, uncons_cons, castInt_int, castStr_str, castBool_bool, isNil_nil, castTuple_tuple, hw1, g1', g2', decide_false, cond_false, decide_true, cond_true, spec_l2Size.A0_ret, hno]
          · have g1' : (150 : Int) < ((n + x.many : Nat) : Int) := by omega
            have hno : ¬ sizesOk 0 (bodies m) := by rw [hok, hd]; simp [sizesOk, g1]
            refine .inl ⟨_, σ, ⟨rfl, rfl⟩, c.mono fun k e1 m' => ?_⟩
            rw [spec_l2Size.L0_step, h1.vlen, h2.vlen]
            simp only [Option.bind_some, hw0, hlb, hlf, hv, hr5, e1, uncons_cons, castInt_int, castStr_str, castBool_bool, isNil_nil, castTuple_tuple, hw1, g1', decide_false, cond_false, decide_true, cond_true, spec_l2Size.A0_ret, hno]
        · have hi2 : i - m.funs.length < m.main.length := by omega
          obtain ⟨r, o, hv, cs, hr, hP⟩ := h2.at hi2
          have he : (bodies m)[i] = m.main[i - m.funs.length] := by
            simp only [bodies]
            rw [List.getElem_append_right (by rw [List.length_map]; omega)]
            simp only [List.length_map]
          rw [he] at hd hm hmem
          generalize m.main[i - m.funs.length] = x at hP hd hm hmem
          have c := specTreeNodes_runs (σ := σ) x hm hP
          cases hP with
          | mk q1 =>
          have hlf : ¬ (i : Int) < (m.funs.length : Int) := by omega
          have hlb : (i : Int) < (((bodies m).length : Nat) : Int) := by omega
          have hws : IntKind.wrap .i64 ((i : Int) - (m.funs.length : Int)) = ((i - m.funs.length : Nat) : Int) := by rw [wrap_id (by omega) (by omega)]; omega
          have hw1 : IntKind.wrap .i64 ((n : Int) + (x.many : Int)) = ((n + x.many : Nat) : Int) := by rw [wrap_id (by omega) (by omega)]; omega
          by_cases g1 : n + x.many ≤ 150
          · have g1' : ¬ (150 : Int) < ((n + x.many : Nat) : Int) := by omega
            by_cases g2 : x.deep ≤ 16
            · have g2' : ¬ (16 : Int) < (x.deep : Int) := by omega
              refine .inr ⟨(i + 1, n + x.many), ⟨hlt, g1, ?_⟩, by simp only; omega, c.mono fun k e1 m' => ?_⟩
              · rw [hok, hd]; simp [sizesOk, g1, g2]
              · rw [spec_l2Size.L0_step, h1.vlen, h2.vlen]
                simp only [Option.bind_some, hw0, hlb, hlf, hws, hv, hr, e1, uncons_cons, castInt_int, castStr_str, castBool_bool, isNil_nil, castTuple_tuple, hw1, g1', g2', decide_false, cond_false, decide_true, cond_true, hw]
            · have g2' : (16 : Int) < (x.deep : Int) := by omega
              have hno : ¬ sizesOk 0 (bodies m) := by rw [hok, hd]; simp [sizesOk, g2]
              refine .inl ⟨_, σ, ⟨rfl, rfl⟩, c.mono fun k e1 m' => ?_⟩
              rw [spec_l2Size.L0_step, h1.vlen, h2.vlen]
              simp only [Option.bind_some, hw0, hlb, hlf, hws, hv, hr, e1, uncons_cons, castInt_int, castStr_str, castBool_bool, isNil_nil, castTuple_tuple, hw1, g1', g2', decide_false, cond_false, decide_true, cond_true, spec_l2Size.A0_ret, hno]
          · have g1' : (150 : Int) < ((n + x.many : Nat) : Int) := by omega
            have hno : ¬ sizesOk 0 (bodies m) := by rw [hok, hd]; simp [sizesOk, g1]
            refine .inl ⟨_, σ, ⟨rfl, rfl⟩, c.mono fun k e1 m' => ?_⟩
            rw [spec_l2Size.L0_step, h1.vlen, h2.vlen]
            simp only [Option.bind_some, hw0, hlb, hlf, hws, hv, hr, e1, uncons_cons, castInt_int, castStr_str, castBool_bool, isNil_nil, castTuple_tuple, hw1, g1', decide_false, cond_false, decide_true, cond_true, spec_l2Size.A0_ret, hno]
      · refine .inl ⟨_, σ, ⟨rfl, rfl⟩, Ev.now fun k m' => ?_⟩
        rw [List.drop_eq_nil_of_le (by omega)] at hok
        have : sizesOk 0 (bodies m) := hok.2 trivial
        rw [spec_l2Size.L0_step, h1.vlen, h2.vlen]
        simp only [Option.bind_some, hw0, Int.ofNat_lt, hlt, decide_false, cond_false, spec_l2Size.A0_x0]
        simp [this]) (0, 0) ⟨Nat.zero_le _, Nat.zero_le _, Iff.rfl⟩
  refine Runs.mk ((Ev.far (bodies m).length he).mono fun k ⟨e, hk⟩ => ?_)
  rw [spec_l2Size.eq]
  exact e k (by simpa using hk)
end Go.Y

/- What the reference asks of a function. -/
set_option linter.unusedVariables false
set_option linter.unusedSimpArgs false
namespace Go.Y
open Go.HM Go.Proofs
theorem l2Fun_gives {σ : Heap} {f : TreeFun} (hF : f.Fit) {cs : List V} (hr : TreeFun.Rep σ cs f) : Gives G n_spec_l2Fun [.agg cs] σ (.bool (decide (FunOk f))) := by
  cases hF with
  | mk f0 f1 f2 f3 f4 =>
  cases hr with
  | mk h1 h2 =>
  rename_i a3 a9
  have hargs : ∀ x, x ∈ f.args → x.name.size ≤ 9223372036854775807 := fun x hx => by have := f2 x hx; cases this with | mk g0 g1 => exact g0
  obtain ⟨σ1, l1, c1⟩ := specLexName_gives σ f.name f0
  by_cases hn : IsName f.name
  rotate_left
  · refine Gives.mk l1 (c1.mono fun k e1 => ?_)
    have : ¬ FunOk f := fun h => hn h.1
    rw [spec_l2Fun.eq]; simp [e1, hn, this]
  by_cases h4 : 4 < f.args.length
  · refine Gives.mk l1 (c1.mono fun k e1 => ?_)
    have : ¬ FunOk f := fun h => by have := h.2.1; omega
    have h4' : (4 : Int) < (f.args.length : Int) := by omega
    rw [spec_l2Fun.eq, h1.vlen]; simp only [e1, hn, decide_true, Bool.not_true, cond_false, Option.bind_some, castBool_bool, h4', cond_true]; simp [this]
  have h4' : ¬ (4 : Int) < (f.args.length : Int) := by omega
  obtain ⟨s, hs, σ2, l2, c2⟩ := treeType_gives σ1 f.type
  by_cases ht : IsType f.type
  rotate_left
  · refine Gives.mk (l1.trans l2) ((c1.and c2).mono fun k ⟨e1, e2⟩ => ?_)
    have : ¬ FunOk f := fun h => ht h.2.2.1
    have hs' := hs.2 ht
    rw [spec_l2Fun.eq, h1.vlen]; simp only [e1, hn, decide_true, Bool.not_true, cond_false, Option.bind_some, castBool_bool, h4', decide_false, e2, castStr_str, hs', cond_true]; simp [this]
  have hs' : ¬ s = ⟨#[]⟩ := fun hc => hs.1 hc ht
  have l12 := l1.trans l2
  obtain ⟨σ3, l3, c3⟩ := l2Expr_gives f.body f4 (σ := σ2) (.mk (h2.mono l12 fun cs x _ hc => TreeExpr.Rep.le l12 x hc))
  by_cases hb : Right f.body
  rotate_left
  · refine Gives.mk (l12.trans l3) ((c1.and (c2.and c3)).mono fun k ⟨e1, e2, e3⟩ => ?_)
    have : ¬ FunOk f := fun h => hb h.2.2.2.1
    rw [spec_l2Fun.eq, h1.vlen]; simp only [e1, hn, decide_true, Bool.not_true, cond_false, Option.bind_some, castBool_bool, h4', decide_false, e2, castStr_str, hs', e3, hb, Bool.not_false, cond_true]; simp [this]
  have lenle : f.args.length ≤ 4 := by omega
  have inner : ∀ (i : Nat) (hlt : i < f.args.length) (σi : Heap), Lh σ σi → ∀ d j, j + d = i → (∀ q y, q < j → f.args[q]? = some y → y.name ≠ f.args[i].name) → ∀ k m0 m, d < m →
      (spec_l2Fun.L1 k m [.box [.str f.name, .bool f.pub, a3, .int .i64 f.type, .int .i64 f.body.kind, .int .i64 f.body.num, .str f.body.name, .str f.body.mod, a9], .v (.int .i64 (i : Int)), .v (.int .i64 (j : Int))] σi).bind (spec_l2Fun.A1 k m0) =
        if f.args[i].name ∈ (f.args.take i).map (·.name) then some (.ret, [.v (.bool false)], σi) else spec_l2Fun.L0 k m0 [.box [.str f.name, .bool f.pub, a3, .int .i64 f.type, .int .i64 f.body.kind, .int .i64 f.body.num, .str f.body.name, .str f.body.mod, a9], .v (.int .i64 (IntKind.wrap .i64 ((i : Int) + 1)))] σi := by
    intro i hlt σi hle d
    have h1' : RepS 2 (TreeArg.Rep σi) σi a3 f.args := h1.mono hle fun cs x _ hc => TreeArg.Rep.le hle hc
    induction d with
    | zero =>
      intro j hj hne k m0 m hm
      obtain ⟨m, rfl⟩ : ∃ j, m = j + 1 := ⟨m - 1, by omega⟩
      have hc : ¬ f.args[i].name ∈ (f.args.take i).map (·.name) := fun hc => by
        obtain ⟨y, hy, hyn⟩ := List.mem_map.1 hc
        obtain ⟨q, hq, hqs⟩ := List.getElem_of_mem hy
        rw [List.getElem_take] at hqs
        rw [List.length_take] at hq
        exact hne q y (by omega) (by rw [← hqs]; exact List.getElem?_eq_getElem (by omega)) hyn
      have : ¬ j < i := by omega
      rw [spec_l2Fun.L1_step, if_neg hc]
      simp [this, spec_l2Fun.A1_x2]
    | succ d ih =>
      intro j hj hne k m0 m hm
      obtain ⟨m, rfl⟩ : ∃ j, m = j + 1 := ⟨m - 1, by omega⟩
      have hji : j < i := by omega
      have hjl : j < f.args.length := by omega
      obtain ⟨r, o, hv, cs, hr, hP⟩ := h1'.at hjl
      obtain ⟨r', o', hv', cs', hr', hP'⟩ := h1'.at hlt
      have g1 : rdc σi r (o + 0) 1 = some [.str f.args[j].name] := by
        have := rdc_sub hr 0 1 (by omega)
        generalize f.args[j] = x at hP
        cases hP with | mk => exact this
      have g2 : rdc σi r' (o' + 0) 1 = some [.str f.args[i].name] := by
        have := rdc_sub hr' 0 1 (by omega)
        generalize f.args[i] = x at hP'
        cases hP' with | mk => exact this
      have hw : IntKind.wrap .i64 ((j : Int) + 1) = ((j + 1 : Nat) : Int) := wrap_id (by omega) (by omega)
      rw [spec_l2Fun.L1_step]
      by_cases hs : f.args[j].name = f.args[i].name
      · have hc : f.args[i].name ∈ (f.args.take i).map (·.name) := by
          refine List.mem_map.2 ⟨f.args[j], ?_, hs⟩
          have : f.args[j] = (f.args.take i)[j]'(by rw [List.length_take]; omega) := by rw [List.getElem_take]
          rw [this]
          exact List.getElem_mem _
        rw [if_pos hc]
        simp only [Int.ofNat_lt, hji, decide_true, cond_true, hv, g1, hv', g2, Option.bind_some, uncons_cons, castStr_str, isNil_nil, hs, spec_l2Fun.A1_ret]
      · simp only [Int.ofNat_lt, hji, decide_true, cond_true, hv, g1, hv', g2, Option.bind_some, uncons_cons, castStr_str, isNil_nil, hs, decide_false, cond_false, hw]
        refine ih (j + 1) (by omega) (fun q y hq hy => ?_) k m0 m (by omega)
        by_cases hqj : q = j
        · subst hqj
          rw [List.getElem?_eq_getElem hjl] at hy
          injection hy with hy
          rw [← hy]; exact hs
        · exact hne q y (by omega) hy
  have l13 := l12.trans l3
  obtain ⟨w, σ', ⟨hl, rfl⟩, he⟩ := loop (L := spec_l2Fun.L0) (A := spec_l2Fun.A0) (S := Nat × Heap)
    (Inv := fun s => s.1 ≤ f.args.length ∧ Lh σ s.2 ∧ (∀ x, x ∈ f.args.take s.1 → IsType x.type) ∧ AllNames ((f.args.take s.1).map (·.name))) (Good := fun w σ' => Lh σ σ' ∧ w = .bool (decide (FunOk f)))
    (vals := fun s => [.box [.str f.name, .bool f.pub, a3, .int .i64 f.type, .int .i64 f.body.kind, .int .i64 f.body.num, .str f.body.name, .str f.body.mod, a9], .v (.int .i64 (s.1 : Int))]) (hp := fun s => s.2) (far := fun s => f.args.length - s.1) (fun ⟨i, σi⟩ ⟨hi, hle, hty, hok⟩ => by
      simp only at hi hle hty hok ⊢
      have h1' : RepS 2 (TreeArg.Rep σi) σi a3 f.args := h1.mono hle fun cs x _ hc => TreeArg.Rep.le hle hc
      by_cases hlt : i < f.args.length
      · obtain ⟨r, o, hv, cs, hr, hP⟩ := h1'.at hlt
        have hm : f.args[i] ∈ f.args := List.getElem_mem hlt
        have g1 : rdc σi r (o + 0) 1 = some [.str f.args[i].name] := by
          have := rdc_sub hr 0 1 (by omega)
          generalize f.args[i] = x at hP
          cases hP with | mk => exact this
        have g2 : rdc σi r (o + 1) 1 = some [.int .i64 f.args[i].type] := by
          have := rdc_sub hr 1 1 (by omega)
          generalize f.args[i] = x at hP
          cases hP with | mk => exact this
        obtain ⟨σ4, l4, c4⟩ := specLexName_gives σi f.args[i].name (hargs _ hm)
        by_cases hN : IsName f.args[i].name
        rotate_left
        · refine .inl ⟨_, σ4, ⟨hle.trans l4, rfl⟩, c4.mono fun k e4 m => ?_⟩
          have : ¬ FunOk f := fun h => hN (h.2.2.2.2.2.1 _ (List.mem_map.2 ⟨_, hm, rfl⟩))
          rw [spec_l2Fun.L0_step, h1.vlen]
          simp only [Option.bind_some, Int.ofNat_lt, hlt, decide_true, cond_true, hv, g1, uncons_cons, castStr_str, isNil_nil, e4, castBool_bool, hN, decide_false, Bool.not_false, spec_l2Fun.A0_ret, this]
        obtain ⟨s5, hs5, σ5, l5, c5⟩ := treeType_gives σ4 f.args[i].type
        have g2' := l4.rdc g2
        have l45 := hle.trans (l4.trans l5)
        by_cases hT : IsType f.args[i].type
        rotate_left
        · refine .inl ⟨_, σ5, ⟨l45, rfl⟩, (c4.and c5).mono fun k ⟨e4, e5⟩ m => ?_⟩
          have : ¬ FunOk f := fun h => hT (h.2.2.2.2.1 _ hm)
          have hs6 := hs5.2 hT
          rw [spec_l2Fun.L0_step, h1.vlen]
          simp only [Option.bind_some, Int.ofNat_lt, hlt, decide_true, cond_true, hv, g1, g2', uncons_cons, castStr_str, castInt_int, isNil_nil, e4, castBool_bool, hN, Bool.not_true, cond_false, e5, hs6, spec_l2Fun.A0_ret, this, decide_false]
        have hs6 : ¬ s5 = ⟨#[]⟩ := fun hc => hs5.1 hc hT
        have ht := take_next hlt
        have hinn := inner i hlt σ5 l45 i 0 (by omega) (fun q y hq => absurd hq (by omega))
        by_cases hc : f.args[i].name ∈ (f.args.take i).map (·.name)
        · refine .inl ⟨_, σ5, ⟨l45, rfl⟩, (Ev.far i (c4.and c5)).mono fun k ⟨⟨e4, e5⟩, hk⟩ m => ?_⟩
          have : ¬ FunOk f := fun h => by
            have h7 := h.2.2.2.2.2.take (i + 1)
            rw [← List.map_take, ht, List.map_append] at h7
            exact (List.nodup_append.1 h7.2).2.2 _ hc _ (by simp) rfl
          have e6 := hinn k m k hk
          rw [if_pos hc] at e6
          rw [spec_l2Fun.L0_step, h1.vlen]
          simp only [Option.bind_some, Int.ofNat_lt, hlt, decide_true, cond_true, hv, g1, g2', uncons_cons, castStr_str, castInt_int, isNil_nil, e4, castBool_bool, hN, Bool.not_true, cond_false, e5, hs6, decide_false]
          rw [show ((0 : Int)) = ((0 : Nat) : Int) from rfl, e6]
          simp [spec_l2Fun.A0_ret, this]
        · refine .inr ⟨(i + 1, σ5), ⟨hlt, l45, ?_, ?_⟩, by simp only; omega, (Ev.far i (c4.and c5)).mono fun k ⟨⟨e4, e5⟩, hk⟩ m => ?_⟩
          · intro x hx
            rw [ht] at hx
            rcases List.mem_append.1 hx with h | h
            · exact hty x h
            · simp at h; rw [h]; exact hT
          · simp only
            rw [ht, List.map_append]
            refine ⟨fun x hx => ?_, ?_⟩
            · rcases List.mem_append.1 hx with h | h
              · exact hok.1 x h
              · simp at h; rw [h]; exact hN
            · rw [List.nodup_append]
              refine ⟨hok.2, by simp, fun a ha b hb hab => ?_⟩
              simp at hb
              exact hc (hb ▸ hab ▸ ha)
          · have hw : IntKind.wrap .i64 ((i : Int) + 1) = ((i + 1 : Nat) : Int) := wrap_id (by omega) (by omega)
            have e6 := hinn k m k hk
            rw [if_neg hc, hw] at e6
            rw [spec_l2Fun.L0_step, h1.vlen]
            simp only [Option.bind_some, Int.ofNat_lt, hlt, decide_true, cond_true, hv, g1, g2', uncons_cons, castStr_str, castInt_int, isNil_nil, e4, castBool_bool, hN, Bool.not_true, cond_false, e5, hs6, decide_false]
            rw [show ((0 : Int)) = ((0 : Nat) : Int) from rfl, e6]
      · refine .inl ⟨_, σi, ⟨hle, rfl⟩, Ev.now fun k m => ?_⟩
        rw [List.take_of_length_le (by omega)] at hok hty
        have : FunOk f := ⟨hn, lenle, ht, hb, hty, hok⟩
        rw [spec_l2Fun.L0_step, h1.vlen]
        simp [hlt, spec_l2Fun.A0_x0, this]) (0, σ3) ⟨Nat.zero_le _, l13, fun x hx => by simp at hx, fun x hx => by simp at hx, by simp⟩
  refine Gives.mk hl ((Ev.and c1 (Ev.and c2 (Ev.and c3 (Ev.far f.args.length he)))).mono fun k ⟨e1, e2, e3, e4, hk⟩ => ?_)
  rw [spec_l2Fun.eq, h1.vlen]
  simp only [e1, hn, decide_true, Bool.not_true, cond_false, Option.bind_some, castBool_bool, h4', decide_false, e2, castStr_str, hs', e3, hb]
  exact e4 k (by simpa using hk)
end Go.Y
