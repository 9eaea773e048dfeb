/- Lemmas on numbers, lists and texts, without Go and memory, that the proofs of this seat share. -/
import Derived.Test.YtnebeklmfenikaaWWords
namespace Go.Proofs.Ytnebeklmfenikaa.Lib
open Go.RowKit Go.Proofs.YtnebeklmfenikaaW.PrintWords

theorem wrap_id {i : Int} (h0 : -9223372036854775808 ≤ i) (h : i ≤ 9223372036854775807) : wrap64 i = i := by
  unfold wrap64
  omega
theorem wrap_succ {i n : Nat} (h : i < n) (hn : n ≤ 4611686018427387904) : wrap64 ((i : Int) + 1) = ((i + 1 : Nat) : Int) := by
  rw [wrap_id (by omega) (by omega)]
  rfl
theorem rdOf_get {α : Type} {d : α} {xs : List α} {i : Nat} (h : i < xs.length) : rdOf d xs (i : Int) = xs[i] := by
  simp [rdOf, h]
theorem rd_get {xs : List Int} {i : Nat} (h : i < xs.length) : rd xs (i : Int) = xs[i] := by
  simp [rd, h]
theorem bt_get {s : ByteArray} {i : Nat} (h : i < s.size) : bt s (i : Int) = (s.data[i].toNat : Int) := by
  simp only [bt, Int.toNat_natCast]
  rw [dif_pos h]
  rfl
theorem drop_cons {α : Type} {xs : List α} {i : Nat} (h : i < xs.length) : xs.drop i = xs[i] :: xs.drop (i + 1) := List.drop_eq_getElem_cons h
theorem drop_end {α : Type} {xs : List α} {i : Nat} (h : xs.length ≤ i) : xs.drop i = [] := List.drop_eq_nil_of_le h
theorem str_inj {a b : ByteArray} (h : a.toList = b.toList) : a = b := by
  cases a with
  | mk a =>
    cases b with
    | mk b =>
      rw [ByteArray.toList_eq, ByteArray.toList_eq] at h
      have : a = b := Array.toList_inj.mp h
      rw [this]
theorem str_iff {a b : ByteArray} : a.toList = b.toList ↔ a = b := ⟨str_inj, fun h => by rw [h]⟩
theorem toList_mk (a : Array UInt8) : (⟨a⟩ : ByteArray).toList = a.toList := ByteArray.toList_eq _
theorem data_iff {a b : ByteArray} : a.data = b.data ↔ a = b := by
  cases a
  cases b
  simp
instance byteArrayEq : DecidableEq ByteArray := fun _ _ => decidable_of_iff _ data_iff
instance memDec (s : ByteArray) (xs : List ByteArray) : Decidable (s ∈ xs) := decidable_of_iff (∃ x ∈ xs, s = x) (by simp)
theorem size_eq (s : ByteArray) : s.size = s.data.toList.length := by
  rw [Array.length_toList]
  rfl
/-- The bytes of a text from a place on. -/
def from_ (s : ByteArray) (i : Nat) : List UInt8 := s.data.toList.drop i
theorem from_cons {s : ByteArray} {i : Nat} (h : i < s.size) : from_ s i = s.data[i] :: from_ s (i + 1) := by
  have h' : i < s.data.toList.length := by rw [← size_eq]; exact h
  unfold from_
  rw [drop_cons h']
  simp
theorem from_end {s : ByteArray} {i : Nat} (h : s.size ≤ i) : from_ s i = [] := drop_end (by rw [← size_eq]; exact h)
theorem less (n : Nat) (h : 0 < n) : ∃ m, n = m + 1 := ⟨n - 1, by omega⟩
/-- The bytes of a text from a place to a place. -/
def seg (s : ByteArray) (a b : Nat) : List UInt8 := (s.data.toList.drop a).take (b - a)
def mkb (l : List UInt8) : ByteArray := ⟨l.toArray⟩
theorem toList_mkb (l : List UInt8) : (mkb l).toList = l := by
  rw [mkb, toList_mk]
theorem mkb_toList (s : ByteArray) : mkb s.toList = s := str_inj (toList_mkb _)
theorem extract_seg (s : ByteArray) (a b : Nat) : s.extract a b = mkb (seg s a b) := by
  apply data_iff.mp
  simp [mkb, seg, ByteArray.data_extract]
  apply Array.toList_inj.mp
  simp [Array.toList_extract]
theorem seg_self (s : ByteArray) (a : Nat) : seg s a a = [] := by simp [seg]
theorem seg_length {s : ByteArray} {a b : Nat} (hb : b ≤ s.size) : (seg s a b).length = b - a := by
  have := size_eq s
  simp only [seg, List.length_take, List.length_drop]
  omega
theorem seg_succ {s : ByteArray} {a b : Nat} (h : a ≤ b) (hb : b < s.size) : seg s a (b + 1) = seg s a b ++ [s.data[b]] := by
  have hz := size_eq s
  unfold seg
  rw [show b + 1 - a = (b - a) + 1 by omega, List.take_succ_eq_append_getElem (by rw [List.length_drop]; omega)]
  congr 2
  simp [List.getElem_drop, show a + (b - a) = b by omega]
theorem seg_nil {s : ByteArray} {a b : Nat} (h : a ≤ b) (hb : b ≤ s.size) : seg s a b = [] ↔ a = b := by
  rw [← List.length_eq_zero_iff, seg_length hb]
  omega
theorem nat_cast (n : Nat) : ((n : Int)).toNat = n := rfl
/-! ### from some number of rounds on -/
section
variable {α β γ ρ : Type}
theorem Ev.pos {c : Prop} [Decidable c] {A B : Nat → Option ρ} {r : ρ} (h : c) (k : Ev A r) : Ev (fun n => if c then A n else B n) r := Ev.congr (fun _ => if_pos h) k
theorem Ev.neg {c : Prop} [Decidable c] {A B : Nat → Option ρ} {r : ρ} (h : ¬ c) (k : Ev B r) : Ev (fun n => if c then A n else B n) r := Ev.congr (fun _ => if_neg h) k
theorem Ev.from {g : Nat → Option ρ} {r : ρ} (K : Nat) (h : ∀ k, K < k → g k = some r) : Ev g r := ⟨K + 1, fun k hk => h k (by omega)⟩
theorem Ev.const {a : Option ρ} {r : ρ} (h : a = some r) : Ev (fun _ => a) r := ⟨0, fun _ _ => h⟩
theorem Ev.eq {g : Nat → Option ρ} {r r' : ρ} (h : Ev g r) (e : r = r') : Ev g r' := e ▸ h
theorem ExEv.neg {c : Prop} [Decidable c] {A B : Nat → Option ρ} {Q : ρ → Prop} (h : ¬ c) (k : ∃ r, Ev B r ∧ Q r) : ∃ r, Ev (fun n => if c then A n else B n) r ∧ Q r := by
  obtain ⟨r, hr, hq⟩ := k
  exact ⟨r, Ev.neg h hr, hq⟩
theorem ExEv.pos {c : Prop} [Decidable c] {A B : Nat → Option ρ} {Q : ρ → Prop} (h : c) (k : ∃ r, Ev A r ∧ Q r) : ∃ r, Ev (fun n => if c then A n else B n) r ∧ Q r := by
  obtain ⟨r, hr, hq⟩ := k
  exact ⟨r, Ev.pos h hr, hq⟩
theorem ExEv.ite {c : Prop} [Decidable c] {A B : Nat → Option ρ} {Q : ρ → Prop} (h : c → ∃ r, Ev A r ∧ Q r) (k : ¬ c → ∃ r, Ev B r ∧ Q r) : ∃ r, Ev (fun n => if c then A n else B n) r ∧ Q r := by
  by_cases e : c
  · exact ExEv.pos e (h e)
  · exact ExEv.neg e (k e)
theorem ExEv.bind {g : Nat → Option α} {f : Nat → α → Option ρ} {Q : ρ → Prop} {R : α → Prop} (h : ∃ t, Ev g t ∧ R t) (k : ∀ t, R t → ∃ r, Ev (fun n => f n t) r ∧ Q r) : ∃ r, Ev (fun n => (g n).bind (f n)) r ∧ Q r := by
  obtain ⟨t, ht, hR⟩ := h
  obtain ⟨r, hr, hQ⟩ := k t hR
  exact ⟨r, Ev.bind ht hr, hQ⟩
theorem ExEv.less {B : Int} (Q : Prop) (h : (-1 : Int) ≤ B) : ∃ r, Ev (fun _ => some (-1 : Int)) r ∧ r ≤ B ∧ (0 ≤ r → Q) := ⟨-1, Ev.now _, h, fun h => absurd h (by omega)⟩
/-- A loop that measures: each part takes from what is left. -/
theorem sz_loop {L : Nat → List α → Int → Int → Option Int} {g : Nat → α → Int → Option Int} {rdx : List α → Int → α} {P : α → Prop} (hrd : ∀ (xs : List α) (i : Nat) (h : i < xs.length), rdx xs (i : Int) = xs[i])
    (hL : ∀ k xs acc i, L (k + 1) xs acc i = if i < (xs.length : Int) then (if 0 ≤ i then ((g k (rdx xs i) acc).bind fun t => if t < 0 then some (-1) else L k xs t (wrap64 (i + 1))) else none) else some acc)
    (xs : List α) (hs : xs.length ≤ 4611686018427387904) (hg : ∀ x, x ∈ xs → ∀ acc, 0 ≤ acc → acc ≤ 1048576 → ∃ r, Ev (fun k => g k x acc) r ∧ r ≤ acc ∧ (0 ≤ r → P x)) :
    ∀ (d i : Nat) (acc : Int), xs.length = i + d → 0 ≤ acc → acc ≤ 1048576 → ∃ r, Ev (fun k => L k xs acc (i : Int)) r ∧ r ≤ acc ∧ (0 ≤ r → ∀ x, x ∈ xs.drop i → P x) := by
  intro d
  induction d with
  | zero =>
    intro i acc hi h0 h1
    refine ⟨acc, Ev.step (fun k => hL k xs acc i) (Ev.neg (by omega) (Ev.now _)), Int.le_refl _, fun _ x hx => ?_⟩
    rw [drop_end (by omega)] at hx
    cases hx
  | succ d ih =>
    intro i acc hi h0 h1
    have hl : i < xs.length := by omega
    obtain ⟨t, ht, hle, hP⟩ := hg xs[i] (List.getElem_mem hl) acc h0 h1
    by_cases hn : t < 0
    · refine ⟨-1, Ev.step (fun k => hL k xs acc i) (Ev.pos (by omega) (Ev.pos (by omega) ?_)), by omega, fun h => by omega⟩
      rw [hrd xs i hl]
      exact Ev.bind ht (Ev.pos hn (Ev.now _))
    · obtain ⟨r, hr, hle2, hP2⟩ := ih (i + 1) t (by omega) (by omega) (by omega)
      refine ⟨r, Ev.step (fun k => hL k xs acc i) (Ev.pos (by omega) (Ev.pos (by omega) ?_)), by omega, fun h x hx => ?_⟩
      · rw [hrd xs i hl]
        refine Ev.bind ht (Ev.neg hn ?_)
        rw [wrap_succ hl hs]
        exact hr
      · rw [drop_cons hl] at hx
        rcases List.mem_cons.mp hx with rfl | hx
        · exact hP (by omega)
        · exact hP2 h x hx
theorem sz_whole {L : Nat → List α → Int → Int → Option Int} {g : Nat → α → Int → Option Int} {rdx : List α → Int → α} {P : α → Prop} (hrd : ∀ (xs : List α) (i : Nat) (h : i < xs.length), rdx xs (i : Int) = xs[i])
    (hL : ∀ k xs acc i, L (k + 1) xs acc i = if i < (xs.length : Int) then (if 0 ≤ i then ((g k (rdx xs i) acc).bind fun t => if t < 0 then some (-1) else L k xs t (wrap64 (i + 1))) else none) else some acc)
    (xs : List α) (hs : xs.length ≤ 9223372036854775807) (hg : ∀ x, x ∈ xs → ∀ acc, 0 ≤ acc → acc ≤ 1048576 → ∃ r, Ev (fun k => g k x acc) r ∧ r ≤ acc ∧ (0 ≤ r → P x)) (acc : Int) (h0 : 0 ≤ acc) (h1 : acc ≤ 1048576) :
    ∃ r, Ev (fun k => if wrap64 (acc - (xs.length : Int)) < 0 then some (-1) else L k xs (wrap64 (acc - (xs.length : Int))) 0) r ∧ r ≤ acc ∧ (0 ≤ r → xs.length ≤ 1048576 ∧ ∀ x, x ∈ xs → P x) := by
  rw [wrap_id (by omega) (by omega)]
  by_cases h : acc - (xs.length : Int) < 0
  · exact ⟨-1, Ev.pos h (Ev.now _), by omega, fun h => by omega⟩
  · obtain ⟨r, hr, hle, hP⟩ := sz_loop hrd hL xs (by omega) hg xs.length 0 (acc - xs.length) (by omega) (by omega) (by omega)
    exact ⟨r, Ev.neg h hr, by omega, fun h => ⟨by omega, by simpa using hP h⟩⟩
/-- A loop that fills a list, part by part. -/
theorem map_loop {L : Nat → List α → List β → Int → Option (List β)} {g : Nat → α → Option β} {rdx : List α → Int → α} {f : α → β} (hrd : ∀ (xs : List α) (i : Nat) (h : i < xs.length), rdx xs (i : Int) = xs[i])
    (hL : ∀ k xs out i, L (k + 1) xs out i = if i < (xs.length : Int) then (if 0 ≤ i then ((g k (rdx xs i)).bind fun t => if i < (out.length : Int) then L k xs (out.set i.toNat t) (wrap64 (i + 1)) else none) else none) else some out)
    (xs : List α) (hs : xs.length ≤ 4611686018427387904) (hg : ∀ x, x ∈ xs → Ev (fun k => g k x) (f x)) :
    ∀ (d i : Nat) (out : List β), xs.length = i + d → out.length = xs.length → Ev (fun k => L k xs out (i : Int)) (out.take i ++ (xs.drop i).map f) := by
  intro d
  induction d with
  | zero =>
    intro i out hi ho
    refine Ev.eq (Ev.step (fun k => hL k xs out i) (Ev.neg (by omega) (Ev.now _))) ?_
    rw [drop_end (by omega), List.take_of_length_le (by omega)]
    simp
  | succ d ih =>
    intro i out hi ho
    have hl : i < xs.length := by omega
    refine Ev.step (fun k => hL k xs out i) (Ev.pos (by omega) (Ev.pos (by omega) ?_))
    rw [hrd xs i hl]
    refine Ev.bind (hg xs[i] (List.getElem_mem hl)) (Ev.pos (by omega) ?_)
    rw [wrap_succ hl hs]
    refine Ev.eq (ih (i + 1) (out.set i (f xs[i])) (by omega) (by simpa using ho)) ?_
    rw [drop_cons hl, List.map_cons, List.take_succ_eq_append_getElem (by simp; omega), List.append_assoc, List.take_set, List.set_eq_of_length_le (by rw [List.length_take]; omega)]
    simp
theorem map_whole {L : Nat → List α → List β → Int → Option (List β)} {g : Nat → α → Option β} {rdx : List α → Int → α} {f : α → β} (z : β) (lim : Nat) (hrd : ∀ (xs : List α) (i : Nat) (h : i < xs.length), rdx xs (i : Int) = xs[i])
    (hL : ∀ k xs out i, L (k + 1) xs out i = if i < (xs.length : Int) then (if 0 ≤ i then ((g k (rdx xs i)).bind fun t => if i < (out.length : Int) then L k xs (out.set i.toNat t) (wrap64 (i + 1)) else none) else none) else some out)
    (xs : List α) (hs : xs.length ≤ 1048576) (hlim : 1048576 ≤ lim) (hg : ∀ x, x ∈ xs → Ev (fun k => g k x) (f x)) :
    Ev (fun k => if 0 ≤ (xs.length : Int) then (if ((xs.length : Int) : Int).toNat ≤ lim then L k xs (List.replicate ((xs.length : Int) : Int).toNat z) 0 else none) else none) (xs.map f) := by
  refine Ev.pos (by omega) (Ev.pos (by omega) ?_)
  have := map_loop hrd hL xs (by omega) hg xs.length 0 (List.replicate xs.length z) (by omega) (by simp)
  simpa using this
/-- A loop that compares two lists that are one. -/
theorem eq_loop {L : Nat → List α → List α → Int → Option Bool} {g : Nat → α → α → Option Bool} {rdx : List α → Int → α} (hrd : ∀ (xs : List α) (i : Nat) (h : i < xs.length), rdx xs (i : Int) = xs[i])
    (hL : ∀ k xs ys i, L (k + 1) xs ys i = if i < (xs.length : Int) then (if 0 ≤ i then (if i < (ys.length : Int) then ((g k (rdx xs i) (rdx ys i)).bind fun t => if t = true then L k xs ys (wrap64 (i + 1)) else some false) else none) else none) else some true)
    (xs : List α) (hs : xs.length ≤ 4611686018427387904) (hg : ∀ x, x ∈ xs → Ev (fun k => g k x x) true) :
    ∀ (d i : Nat), xs.length = i + d → Ev (fun k => L k xs xs (i : Int)) true := by
  intro d
  induction d with
  | zero => exact fun i hi => Ev.step (fun k => hL k xs xs i) (Ev.neg (by omega) (Ev.now _))
  | succ d ih =>
    intro i hi
    have hl : i < xs.length := by omega
    refine Ev.step (fun k => hL k xs xs i) (Ev.pos (by omega) (Ev.pos (by omega) (Ev.pos (by omega) ?_)))
    rw [hrd xs i hl]
    refine Ev.bind (hg xs[i] (List.getElem_mem hl)) (Ev.pos rfl ?_)
    rw [wrap_succ hl hs]
    exact ih (i + 1) (by omega)
theorem eq_whole {L : Nat → List α → List α → Int → Option Bool} {g : Nat → α → α → Option Bool} {rdx : List α → Int → α} (hrd : ∀ (xs : List α) (i : Nat) (h : i < xs.length), rdx xs (i : Int) = xs[i])
    (hL : ∀ k xs ys i, L (k + 1) xs ys i = if i < (xs.length : Int) then (if 0 ≤ i then (if i < (ys.length : Int) then ((g k (rdx xs i) (rdx ys i)).bind fun t => if t = true then L k xs ys (wrap64 (i + 1)) else some false) else none) else none) else some true)
    (xs : List α) (hs : xs.length ≤ 4611686018427387904) (hg : ∀ x, x ∈ xs → Ev (fun k => g k x x) true) :
    Ev (fun k => if (xs.length : Int) = (xs.length : Int) then L k xs xs 0 else some false) true :=
  Ev.pos rfl (eq_loop hrd hL xs hs hg xs.length 0 (by omega))
/-- The place of the first that is so, from i on; -1, if none is. -/
def fidx (p : α → Bool) : List α → Int → Int
  | [], _ => -1
  | x :: r, i => if p x = true then i else fidx p r (i + 1)
theorem fidx_some (p : α → Bool) : ∀ (xs : List α) (i : Int), 0 ≤ i → (0 ≤ fidx p xs i ↔ xs.any p = true)
  | [], i, _ => by simp [fidx]
  | x :: r, i, h => by
    rw [fidx, List.any_cons]
    split
    · rename_i e; simp [e, h]
    · rename_i e; rw [fidx_some p r (i + 1) (by omega)]; simp [e]
theorem fidx_nth (p : α → Bool) : ∀ (xs : List α) (i : Nat) (j : Int), fidx p xs (i : Int) = j → 0 ≤ j → ∃ n : Nat, j = ((i + n : Nat) : Int) ∧ ∃ h : n < xs.length, p xs[n] = true ∧ ∀ m (hm : m < n), p (xs[m]'(by omega)) = false
  | [], i, j, h, h0 => by simp [fidx] at h; omega
  | x :: r, i, j, h, h0 => by
    rw [fidx] at h
    by_cases e : p x = true
    · rw [if_pos e] at h
      exact ⟨0, by omega, by simp, e, fun m hm => by omega⟩
    · rw [if_neg e] at h
      obtain ⟨n, hn, hl, hp, hq⟩ := fidx_nth p r (i + 1) j (by rw [← h]; rfl) h0
      refine ⟨n + 1, by omega, by simp; omega, by simpa using hp, fun m hm => ?_⟩
      cases m with
      | zero => simpa using e
      | succ m => simpa using hq m (by omega)
theorem fidx_loop {L : Nat → List α → Int → Int → Option Int} {g : Nat → α → Option Bool} {rdx : List α → Int → α} {p : α → Bool} (hrd : ∀ (xs : List α) (i : Nat) (h : i < xs.length), rdx xs (i : Int) = xs[i])
    (hL : ∀ k xs n i, L (k + 1) xs n i = if i < n then (if 0 ≤ i then (if i < (xs.length : Int) then ((g k (rdx xs i)).bind fun t => if t = true then some i else L k xs n (wrap64 (i + 1))) else none) else none) else some (-1))
    (xs : List α) (hs : xs.length ≤ 4611686018427387904) (hg : ∀ x, x ∈ xs → Ev (fun k => g k x) (p x)) :
    ∀ (d i : Nat), xs.length = i + d → Ev (fun k => L k xs (xs.length : Int) (i : Int)) (fidx p (xs.drop i) (i : Int)) := by
  intro d
  induction d with
  | zero =>
    intro i hi
    rw [drop_end (by omega)]
    exact Ev.step (fun k => hL k xs _ i) (Ev.neg (by omega) (Ev.now _))
  | succ d ih =>
    intro i hi
    have hl : i < xs.length := by omega
    rw [drop_cons hl, fidx]
    refine Ev.step (fun k => hL k xs _ i) (Ev.pos (by omega) (Ev.pos (by omega) (Ev.pos (by omega) ?_)))
    rw [hrd xs i hl]
    refine Ev.bind (hg xs[i] (List.getElem_mem hl)) ?_
    by_cases h : p xs[i] = true
    · rw [if_pos h]
      exact Ev.pos h (Ev.now _)
    · rw [if_neg h]
      refine Ev.neg h ?_
      rw [wrap_succ hl hs]
      exact ih (i + 1) (by omega)
theorem fidx_whole {L : Nat → List α → Int → Int → Option Int} {g : Nat → α → Option Bool} {rdx : List α → Int → α} {p : α → Bool} (hrd : ∀ (xs : List α) (i : Nat) (h : i < xs.length), rdx xs (i : Int) = xs[i])
    (hL : ∀ k xs n i, L (k + 1) xs n i = if i < n then (if 0 ≤ i then (if i < (xs.length : Int) then ((g k (rdx xs i)).bind fun t => if t = true then some i else L k xs n (wrap64 (i + 1))) else none) else none) else some (-1))
    (xs : List α) (hs : xs.length ≤ 4611686018427387904) (hg : ∀ x, x ∈ xs → Ev (fun k => g k x) (p x)) : Ev (fun k => L k xs (xs.length : Int) 0) (fidx p xs 0) := fidx_loop hrd hL xs hs hg xs.length 0 (by omega)
theorem any_whole {F : Nat → Option Int} {p : α → Bool} {xs : List α} (h : Ev F (fidx p xs 0)) : Ev (fun k => (F k).bind fun t => some (decide (t ≥ 0))) (xs.any p) := by
  refine Ev.eq (Ev.bind h (Ev.now _)) ?_
  have := fidx_some p xs 0 (by omega)
  by_cases e : xs.any p = true
  · rw [e]; exact decide_eq_true (this.mpr e)
  · rw [Bool.eq_false_iff.mpr e]; exact decide_eq_false (fun h => e (this.mp h))
end

end Go.Proofs.Ytnebeklmfenikaa.Lib
