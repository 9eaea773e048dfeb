/- Names: the words that are names. -/
import Derived.Test.YthcinellhbmcoaaC
import Derived.Test.YthcinellhbmcoaaEF0
import Derived.Test.YthcinellhbmcoaaEF1
import Derived.Test.YthcinellhbmcoaaEF2
import Derived.Test.YthcinellhbmcoaaHMLoop
set_option linter.unusedVariables false
set_option linter.unusedSimpArgs false
namespace Go.X
open Go.HM Go.Proofs
theorem index_string_runs {σ : Heap} {v : V} {l : List ByteArray} (hf : l.length ≤ 9223372036854775807) (h : RepS 1 StrRep σ v l) (s : ByteArray) :
    ∃ n : Int, (0 ≤ n ↔ s ∈ l) ∧ Runs G n_slices_Index_string_string [v, .str s] σ (.int .i64 n) σ := by
  obtain ⟨w, σ', ⟨rfl, n, rfl, hn⟩, he⟩ := loop (L := slices_Index_string_string.L0) (A := slices_Index_string_string.A0) (S := Nat)
    (Inv := fun i => i ≤ l.length ∧ ∀ j x, j < i → l[j]? = some x → x ≠ s) (Good := fun w σ' => σ' = σ ∧ ∃ n : Int, w = .int .i64 n ∧ (0 ≤ n ↔ s ∈ l))
    (vals := fun i => [.v v, .v (.str s), .v (.int .i64 (l.length : Int)), .v (.int .i64 (i : Int))]) (hp := fun _ => σ) (far := fun i => l.length - i) (fun i ⟨hi, hne⟩ => by
      by_cases hlt : i < l.length
      · obtain ⟨r, o, hv, cs, hr, hP⟩ := h.at hlt
        unfold StrRep at hP
        subst hP
        by_cases hs : s = l[i]
        · refine .inl ⟨_, _, ⟨rfl, (i : Int), rfl, ?_⟩, Ev.now fun k m => ?_⟩
          · simp; rw [hs]; exact List.getElem_mem hlt
          · rw [slices_Index_string_string.L0_step]
            simp [hlt, hv, hr, ← hs, slices_Index_string_string.A0_ret]
        · refine .inr ⟨i + 1, ⟨hlt, fun j x hj hx => ?_⟩, by omega, Ev.now fun k m => ?_⟩
          · by_cases hji : j = i
            · subst hji
              rw [List.getElem?_eq_getElem hlt] at hx
              injection hx with hx
              rw [← hx]; exact fun hc => hs hc.symm
            · exact hne j x (by omega) hx
          · rw [slices_Index_string_string.L0_step]
            have hw : IntKind.wrap .i64 ((i : Int) + 1) = ((i + 1 : Nat) : Int) := wrap_id (by omega) (by omega)
            simp [hlt, hv, hr, hs]
            rw [hw]
            rfl
      · refine .inl ⟨_, _, ⟨rfl, -1, rfl, ?_⟩, Ev.now fun k m => ?_⟩
        · simp
          intro hc
          obtain ⟨j, hj, hjs⟩ := List.getElem_of_mem hc
          exact hne j _ (by omega) (List.getElem?_eq_getElem hj) hjs
        · rw [slices_Index_string_string.L0_step]
          simp [hlt, slices_Index_string_string.A0_x0]) 0 ⟨Nat.zero_le _, fun j x hj => absurd hj (by omega)⟩
  refine ⟨n, hn, Runs.mk ((Ev.far l.length he).mono fun k ⟨e, hk⟩ => ?_)⟩
  have e2 := e k (by omega)
  rw [slices_Index_string_string.eq, h.vlen]
  exact e2
theorem contains_string_runs {σ : Heap} {v : V} {l : List ByteArray} (hf : l.length ≤ 9223372036854775807) (h : RepS 1 StrRep σ v l) (s : ByteArray) :
    Runs G n_slices_Contains_string_string [v, .str s] σ (.bool (decide (s ∈ l))) σ := by
  obtain ⟨n, hn, c⟩ := index_string_runs hf h s
  refine Runs.mk (c.mono fun k e => ?_)
  rw [slices_Contains_string_string.eq]
  simp [e, hn]
theorem inRange_runs {σ : Heap} (n a b : Int) : Runs G n_impl_inRange [.int .i64 n, .int .i64 a, .int .i64 b] σ (.bool (decide (a ≤ n ∧ n ≤ b))) σ :=
  Runs.mk (Ev.now fun k => by
    rw [impl_inRange.eq]
    by_cases h : a ≤ n <;> simp [h])
def kept : List ByteArray := [⟨#[117, 115, 101]⟩, ⟨#[102, 117, 110]⟩, ⟨#[112, 117, 98]⟩, ⟨#[109, 97, 105, 110]⟩, ⟨#[105, 110, 116]⟩, ⟨#[98, 111, 111, 108]⟩, ⟨#[114, 111, 119]⟩, ⟨#[105, 102]⟩, ⟨#[108, 101, 116]⟩, ⟨#[116, 114, 117, 101]⟩, ⟨#[102, 97, 108, 115, 101]⟩, ⟨#[97, 110, 100]⟩, ⟨#[111, 114]⟩, ⟨#[110, 111, 116]⟩, ⟨#[97, 116]⟩, ⟨#[108, 101, 110]⟩, ⟨#[112, 117, 116]⟩, ⟨#[106, 111, 105, 110]⟩, ⟨#[112, 114, 105, 110, 116]⟩]
theorem kept_rep (σ : Heap) : RepS 1 StrRep (hnew σ 1 (kept.map .str)) (.sl σ.length 0 19 true) kept := RepS.lit σ kept .str (fun _ => rfl) true 19 rfl
theorem isOwn_gives (σ : Heap) (s : ByteArray) : Gives G n_impl_isOwn [.str s] σ (.bool (decide (s ∈ kept))) := by
  have c := contains_string_runs (by decide) (kept_rep σ) s
  refine Gives.mk (σ' := hnew σ 1 (kept.map .str)) (Lh.new _ _ _) (c.mono fun k e => ?_)
  rw [impl_isOwn.eq]
  change (hcall G k n_slices_Contains_string_string [(.sl σ.length 0 19 true), .str s] (hnew σ 1 (kept.map .str))).bind _ = _
  rw [e]
  rfl
def Letters (s : ByteArray) : Prop := ∀ i (h : i < s.size), 97 ≤ s[i].toNat ∧ s[i].toNat ≤ 122
def IsName (s : ByteArray) : Prop := Letters s ∧ (1 ≤ s.size ∧ s.size ≤ 8) ∧ ¬ s ∈ kept
noncomputable instance (s : ByteArray) : Decidable (IsName s) := Classical.propDecidable _
theorem implLexName_gives (σ : Heap) (s : ByteArray) (hf : s.size ≤ 9223372036854775807) : Gives G n_impl_LexName [.str s] σ (.bool (decide (IsName s))) := by
  obtain ⟨σ1, l1, c1⟩ := isOwn_gives σ s
  have c2 := inRange_runs (σ := σ) (s.size : Int) 1 8
  obtain ⟨w, σ', ⟨hl, rfl⟩, he⟩ := loop (L := impl_LexName.L0) (A := impl_LexName.A0) (S := Nat)
    (Inv := fun i => i ≤ s.size ∧ ∀ j (h : j < s.size), j < i → 97 ≤ s[j].toNat ∧ s[j].toNat ≤ 122) (Good := fun w σ' => Lh σ σ' ∧ w = .bool (decide (IsName s)))
    (vals := fun i => [.v (.str s), .v (.int .i64 (s.size : Int)), .v (.int .i64 (i : Int))]) (hp := fun _ => σ) (far := fun i => s.size - i) (fun i ⟨hi, hok⟩ => by
      by_cases hlt : i < s.size
      · have hb := sbyte_at hlt
        by_cases hc : 97 ≤ s[i].toNat ∧ s[i].toNat ≤ 122
        · refine .inr ⟨i + 1, ⟨hlt, fun j hj hji => ?_⟩, by omega, Ev.now fun k m => ?_⟩
          · by_cases h : j = i
            · subst h; exact hc
            · exact hok j hj (by omega)
          · rw [impl_LexName.L0_step]
            have hw : IntKind.wrap .i64 ((i : Int) + 1) = ((i + 1 : Nat) : Int) := wrap_id (by omega) (by omega)
            have h1 : ¬ (s[i].toNat : Int) < 97 := by omega
            have h2 : ¬ (122 : Int) < (s[i].toNat : Int) := by omega
            simp only [hb, Option.bind_some, h1, h2, decide_false, cond_false, hw]
            simp [hlt]
        · refine .inl ⟨_, σ, ⟨Lh.refl _, rfl⟩, Ev.now fun k m => ?_⟩
          have hn : ¬ IsName s := fun h => hc (h.1 i hlt)
          rw [impl_LexName.L0_step]
          by_cases h1 : (s[i].toNat : Int) < 97
          · simp only [hb, Option.bind_some, h1, decide_true, cond_true]
            simp [hlt, impl_LexName.A0_ret, hn]
          · have h2 : (122 : Int) < (s[i].toNat : Int) := by omega
            simp only [hb, Option.bind_some, h1, h2, decide_false, cond_false, decide_true, cond_true]
            simp [hlt, impl_LexName.A0_ret, hn]
      · have hl : Letters s := fun j hj => hok j hj (by omega)
        by_cases hr : (1 : Int) ≤ s.size ∧ (s.size : Int) ≤ 8
        · refine .inl ⟨_, σ1, ⟨l1, rfl⟩, (c2.and c1).mono fun k ⟨e2, e1⟩ m => ?_⟩
          have : IsName s ↔ ¬ s ∈ kept := ⟨fun h => h.2.2, fun h => ⟨hl, by omega, h⟩⟩
          rw [impl_LexName.L0_step]
          simp only [Int.ofNat_lt, hlt, decide_false, cond_false, Option.bind_some, impl_LexName.A0_x0, e2, hr, and_self, decide_true, castBool_bool, cond_true, e1]
          simp [this]
        · refine .inl ⟨_, σ, ⟨Lh.refl _, rfl⟩, c2.mono fun k e2 m => ?_⟩
          have : ¬ IsName s := fun h => hr (by have := h.2.1; omega)
          rw [impl_LexName.L0_step]
          simp only [Int.ofNat_lt, hlt, decide_false, cond_false, Option.bind_some, impl_LexName.A0_x0, e2, hr, castBool_bool]
          simp [this]) 0 ⟨Nat.zero_le _, fun j hj hji => absurd hji (by omega)⟩
  refine Gives.mk hl ((Ev.far s.size he).mono fun k ⟨e, hk⟩ => ?_)
  rw [impl_LexName.eq]
  exact e k (by omega)
theorem l1Kept_gives (σ : Heap) (s : ByteArray) : Gives G n_spec_l1Kept [.str s] σ (.bool (decide (s ∈ kept))) := by
  have h := kept_rep σ
  obtain ⟨w, σ', ⟨hl, rfl⟩, he⟩ := loop (L := spec_l1Kept.L0) (A := spec_l1Kept.A0) (S := Nat)
    (Inv := fun i => i ≤ kept.length ∧ ∀ j x, j < i → kept[j]? = some x → x ≠ s) (Good := fun w σ' => Lh σ σ' ∧ w = .bool (decide (s ∈ kept)))
    (vals := fun i => [.v (.str s), .v (.sl σ.length 0 19 true), .v (.int .i64 (i : Int))]) (hp := fun _ => hnew σ 1 (kept.map .str)) (far := fun i => kept.length - i) (fun i ⟨hi, hne⟩ => by
      by_cases hlt : i < kept.length
      · obtain ⟨r, o, hv, cs, hr, hP⟩ := h.at hlt
        unfold StrRep at hP
        subst hP
        by_cases hs : kept[i] = s
        · refine .inl ⟨_, hnew σ 1 (kept.map .str), ⟨Lh.new _ _ _, rfl⟩, Ev.now fun k m => ?_⟩
          have hm : s ∈ kept := hs ▸ List.getElem_mem hlt
          rw [spec_l1Kept.L0_step, h.vlen]
          simp [hlt, hv, hr, hs, spec_l1Kept.A0_ret, hm]
        · refine .inr ⟨i + 1, ⟨hlt, fun j x hj hx => ?_⟩, by omega, Ev.now fun k m => ?_⟩
          · by_cases hji : j = i
            · subst hji
              rw [List.getElem?_eq_getElem hlt] at hx
              injection hx with hx
              rw [← hx]; exact hs
            · exact hne j x (by omega) hx
          · rw [spec_l1Kept.L0_step, h.vlen]
            have hk : kept.length = 19 := rfl
            have hw : IntKind.wrap .i64 ((i : Int) + 1) = ((i + 1 : Nat) : Int) := wrap_id (by omega) (by omega)
            simp [hlt, hv, hr, hs]
            rw [hw]
            rfl
      · refine .inl ⟨_, hnew σ 1 (kept.map .str), ⟨Lh.new _ _ _, rfl⟩, Ev.now fun k m => ?_⟩
        have hm : ¬ s ∈ kept := fun hc => by
          obtain ⟨j, hj, hjs⟩ := List.getElem_of_mem hc
          exact hne j _ (by omega) (List.getElem?_eq_getElem hj) hjs
        rw [spec_l1Kept.L0_step, h.vlen]
        simp [hlt, spec_l1Kept.A0_x0, hm]) 0 ⟨Nat.zero_le _, fun j x hj => absurd hj (by omega)⟩
  refine Gives.mk hl ((Ev.far kept.length he).mono fun k ⟨e, hk⟩ => ?_)
  rw [spec_l1Kept.eq]
  exact e k (by omega)
theorem specLexName_gives (σ : Heap) (s : ByteArray) (hf : s.size ≤ 9223372036854775807) : Gives G n_spec_LexName [.str s] σ (.bool (decide (IsName s))) := by
  by_cases h1 : (s.size : Int) < 1
  · refine Gives.mk (Lh.refl σ) (Ev.now fun k => ?_)
    have : ¬ IsName s := fun h => by have := h.2.1; omega
    rw [spec_LexName.eq]
    simp only [h1, decide_true, cond_true]
    simp [this]
  by_cases h2 : (8 : Int) < (s.size : Int)
  · refine Gives.mk (Lh.refl σ) (Ev.now fun k => ?_)
    have : ¬ IsName s := fun h => by have := h.2.1; omega
    rw [spec_LexName.eq]
    simp only [h1, h2, decide_true, cond_true, decide_false, cond_false]
    simp [this]
  obtain ⟨σ1, l1, c1⟩ := l1Kept_gives σ s
  by_cases h3 : s ∈ kept
  · refine Gives.mk l1 (c1.mono fun k e => ?_)
    have : ¬ IsName s := fun h => h.2.2 h3
    rw [spec_LexName.eq]
    simp only [h1, h2, decide_false, cond_false, e, Option.bind_some, castBool_bool, h3, decide_true, cond_true]
    simp [this]
  obtain ⟨w, σ', ⟨hl, rfl⟩, he⟩ := loop (L := spec_LexName.L0) (A := spec_LexName.A0) (S := Nat)
    (Inv := fun i => i ≤ s.size ∧ ∀ j (h : j < s.size), j < i → 97 ≤ s[j].toNat ∧ s[j].toNat ≤ 122) (Good := fun w σ' => Lh σ σ' ∧ w = .bool (decide (IsName s)))
    (vals := fun i => [.v (.str s), .v (.int .i64 (i : Int))]) (hp := fun _ => σ1) (far := fun i => s.size - i) (fun i ⟨hi, hok⟩ => by
      by_cases hlt : i < s.size
      · have hb := sbyte_at hlt
        by_cases hc : 97 ≤ s[i].toNat ∧ s[i].toNat ≤ 122
        · refine .inr ⟨i + 1, ⟨hlt, fun j hj hji => ?_⟩, by omega, Ev.now fun k m => ?_⟩
          · by_cases h : j = i
            · subst h; exact hc
            · exact hok j hj (by omega)
          · rw [spec_LexName.L0_step]
            have hw : IntKind.wrap .i64 ((i : Int) + 1) = ((i + 1 : Nat) : Int) := wrap_id (by omega) (by omega)
            have h1 : ¬ (s[i].toNat : Int) < 97 := by omega
            have h2 : ¬ (122 : Int) < (s[i].toNat : Int) := by omega
            simp only [hb, Option.bind_some, h1, h2, decide_false, cond_false, hw]
            simp [hlt]
        · refine .inl ⟨_, σ1, ⟨l1, rfl⟩, Ev.now fun k m => ?_⟩
          have hn : ¬ IsName s := fun h => hc (h.1 i hlt)
          rw [spec_LexName.L0_step]
          by_cases h1 : (s[i].toNat : Int) < 97
          · simp only [hb, Option.bind_some, h1, decide_true, cond_true]
            simp [hlt, spec_LexName.A0_ret, hn]
          · have h2 : (122 : Int) < (s[i].toNat : Int) := by omega
            simp only [hb, Option.bind_some, h1, h2, decide_false, cond_false, decide_true, cond_true]
            simp [hlt, spec_LexName.A0_ret, hn]
      · have hl : IsName s := ⟨fun j hj => hok j hj (by omega), by omega, h3⟩
        refine .inl ⟨_, σ1, ⟨l1, rfl⟩, Ev.now fun k m => ?_⟩
        rw [spec_LexName.L0_step]
        simp [hlt, spec_LexName.A0_x0, hl]) 0 ⟨Nat.zero_le _, fun j hj hji => absurd hji (by omega)⟩
  refine Gives.mk hl ((Ev.and c1 (Ev.far s.size he)).mono fun k ⟨e1, e, hk⟩ => ?_)
  rw [spec_LexName.eq]
  simp only [h1, h2, decide_false, cond_false, e1, Option.bind_some, castBool_bool, h3]
  exact e k (by omega)
end Go.X
