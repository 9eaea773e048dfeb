/- The contracts of this claim, laid together: part 0. -/
import Derived.Test.YtjadancpencnnaaDoorC
import Derived.Test.YtjadancpencnnaaDoorEF0
import Derived.Test.YtjadancpencnnaaDoorEF1
import Derived.Test.YtjadancpencnnaaDoorEF2
import Derived.Test.YtjadancpencnnaaDoorEF3
import Derived.Test.YtjadancpencnnaaDoorHMLoop
import Derived.Test.YtjadancpencnnaaDoorHMIdx
import Derived.Test.YtjadancpencnnaaDoorK
import Derived.Test.YtjadancpencnnaaDoorHMStd
import Derived.Test.YtjadancpencnnaaDoorHMDec
import Derived.Lib.ItoaLen
import Derived.Test.YtjadancpencnnaaDoorHMWp
import Derived.Test.YtjadancpencnnaaDoorHMStr
/- Names: the words that are names. -/
set_option linter.unusedVariables false
set_option linter.unusedSimpArgs false
namespace Go.D
open Go.HM Go.Proofs
theorem index_string_runs {σ : Heap} {v : V} {l : List ByteArray} (hf : l.length ≤ 9223372036854775807) (h : RepS 1 StrRep σ v l) (s : ByteArray) :
    ∃ n : Int, (0 ≤ n ↔ s ∈ l) ∧ Runs G n_slices_Index_string_string [v, .str s] σ (.int .i64 n) σ := by
  obtain ⟨w, σ', ⟨rfl, n, rfl, hn⟩, he⟩ := loop (L := slices_Index_string_string.L0) (A := slices_Index_string_string.A0) (S := Nat)
    (Inv := fun i => i ≤ l.length ∧ ∀ j x, j < i → l[j]? = some x → x ≠ s) (Good := fun w σ' => σ' = σ ∧ ∃ n : Int, w = .int .i64 n ∧ (0 ≤ n ↔ s ∈ l))
    (vals := fun i => [.v v, .v (.str s), .v (.int .i64 (l.length : Int)), .v (.int .i64 (i : Int))]) (hp := fun _ => σ) (far := fun i => l.length - i) (fun i ⟨hi, hne⟩ => by
      by_cases hlt : i < l.length
      · obtain ⟨r, o, hv, cs, hr, hP⟩ := h.at hlt
        unfold StrRep at hP
        subst hP
        by_cases hs : s = l[i]
        · refine .inl ⟨_, _, ⟨rfl, (i : Int), rfl, ?_⟩, Ev.now fun k m => ?_⟩
          · simp; rw [hs]; exact List.getElem_mem hlt
          · rw [slices_Index_string_string.L0_step]
            simp [hlt, hv, hr, ← hs, slices_Index_string_string.A0_ret]
        · refine .inr ⟨i + 1, ⟨hlt, fun j x hj hx => ?_⟩, by omega, Ev.now fun k m => ?_⟩
          · by_cases hji : j = i
            · subst hji
              rw [List.getElem?_eq_getElem hlt] at hx
              injection hx with hx
              rw [← hx]; exact fun hc => hs hc.symm
            · exact hne j x (by omega) hx
          · rw [slices_Index_string_string.L0_step]
            have hw : IntKind.wrap .i64 ((i : Int) + 1) = ((i + 1 : Nat) : Int) := wrap_id (by omega) (by omega)
            simp [hlt, hv, hr, hs]
            rw [hw]
            rfl
      · refine .inl ⟨_, _, ⟨rfl, -1, rfl, ?_⟩, Ev.now fun k m => ?_⟩
        · simp
          intro hc
          obtain ⟨j, hj, hjs⟩ := List.getElem_of_mem hc
          exact hne j _ (by omega) (List.getElem?_eq_getElem hj) hjs
        · rw [slices_Index_string_string.L0_step]
          simp [hlt, slices_Index_string_string.A0_x0]) 0 ⟨Nat.zero_le _, fun j x hj => absurd hj (by omega)⟩
  refine ⟨n, hn, Runs.mk ((Ev.far l.length he).mono fun k ⟨e, hk⟩ => ?_)⟩
  have e2 := e k (by omega)
  rw [slices_Index_string_string.eq, h.vlen]
  exact e2
theorem contains_string_runs {σ : Heap} {v : V} {l : List ByteArray} (hf : l.length ≤ 9223372036854775807) (h : RepS 1 StrRep σ v l) (s : ByteArray) :
    Runs G n_slices_Contains_string_string [v, .str s] σ (.bool (decide (s ∈ l))) σ := by
  obtain ⟨n, hn, c⟩ := index_string_runs hf h s
  refine Runs.mk (c.mono fun k e => ?_)
  rw [slices_Contains_string_string.eq]
  simp [e, hn]
theorem inRange_runs {σ : Heap} (n a b : Int) : Runs G n_impl_inRange [.int .i64 n, .int .i64 a, .int .i64 b] σ (.bool (decide (a ≤ n ∧ n ≤ b))) σ :=
  Runs.mk (Ev.now fun k => by
    rw [impl_inRange.eq]
    by_cases h : a ≤ n <;> simp [h])
def kept : List ByteArray := [⟨#[117, 115, 101]⟩, ⟨#[102, 117, 110]⟩, ⟨#[112, 117, 98]⟩, ⟨#[109, 97, 105, 110]⟩, ⟨#[105, 110, 116]⟩, ⟨#[98, 111, 111, 108]⟩, ⟨#[114, 111, 119]⟩, ⟨#[105, 102]⟩, ⟨#[108, 101, 116]⟩, ⟨#[116, 114, 117, 101]⟩, ⟨#[102, 97, 108, 115, 101]⟩, ⟨#[97, 110, 100]⟩, ⟨#[111, 114]⟩, ⟨#[110, 111, 116]⟩, ⟨#[97, 116]⟩, ⟨#[108, 101, 110]⟩, ⟨#[112, 117, 116]⟩, ⟨#[106, 111, 105, 110]⟩, ⟨#[112, 114, 105, 110, 116]⟩]
theorem kept_rep (σ : Heap) : RepS 1 StrRep (hnew σ 1 (kept.map .str)) (.sl σ.length 0 19 true) kept := RepS.lit σ kept .str (fun _ => rfl) true 19 rfl
theorem isOwn_gives (σ : Heap) (s : ByteArray) : Gives G n_impl_isOwn [.str s] σ (.bool (decide (s ∈ kept))) := by
  have c := contains_string_runs (by decide) (kept_rep σ) s
  refine Gives.mk (σ' := hnew σ 1 (kept.map .str)) (Lh.new _ _ _) (c.mono fun k e => ?_)
  rw [impl_isOwn.eq]
  change (hcall G k n_slices_Contains_string_string [(.sl σ.length 0 19 true), .str s] (hnew σ 1 (kept.map .str))).bind _ = _
  rw [e]
  rfl
def Letters (s : ByteArray) : Prop := ∀ i (h : i < s.size), 97 ≤ s[i].toNat ∧ s[i].toNat ≤ 122
def IsName (s : ByteArray) : Prop := Letters s ∧ (1 ≤ s.size ∧ s.size ≤ 8) ∧ ¬ s ∈ kept
noncomputable instance (s : ByteArray) : Decidable (IsName s) := Classical.propDecidable _
theorem implLexName_gives (σ : Heap) (s : ByteArray) (hf : s.size ≤ 9223372036854775807) : Gives G n_impl_LexName [.str s] σ (.bool (decide (IsName s))) := by
  obtain ⟨σ1, l1, c1⟩ := isOwn_gives σ s
  have c2 := inRange_runs (σ := σ) (s.size : Int) 1 8
  obtain ⟨w, σ', ⟨hl, rfl⟩, he⟩ := loop (L := impl_LexName.L0) (A := impl_LexName.A0) (S := Nat)
    (Inv := fun i => i ≤ s.size ∧ ∀ j (h : j < s.size), j < i → 97 ≤ s[j].toNat ∧ s[j].toNat ≤ 122) (Good := fun w σ' => Lh σ σ' ∧ w = .bool (decide (IsName s)))
    (vals := fun i => [.v (.str s), .v (.int .i64 (s.size : Int)), .v (.int .i64 (i : Int))]) (hp := fun _ => σ) (far := fun i => s.size - i) (fun i ⟨hi, hok⟩ => by
      by_cases hlt : i < s.size
      · have hb := sbyte_at hlt
        by_cases hc : 97 ≤ s[i].toNat ∧ s[i].toNat ≤ 122
        · refine .inr ⟨i + 1, ⟨hlt, fun j hj hji => ?_⟩, by omega, Ev.now fun k m => ?_⟩
          · by_cases h : j = i
            · subst h; exact hc
            · exact hok j hj (by omega)
          · rw [impl_LexName.L0_step]
            have hw : IntKind.wrap .i64 ((i : Int) + 1) = ((i + 1 : Nat) : Int) := wrap_id (by omega) (by omega)
            have h1 : ¬ (s[i].toNat : Int) < 97 := by omega
            have h2 : ¬ (122 : Int) < (s[i].toNat : Int) := by omega
            simp only [hb, Option.bind_some, h1, h2, decide_false, cond_false, hw]
            simp [hlt]
        · refine .inl ⟨_, σ, ⟨Lh.refl _, rfl⟩, Ev.now fun k m => ?_⟩
          have hn : ¬ IsName s := fun h => hc (h.1 i hlt)
          rw [impl_LexName.L0_step]
          by_cases h1 : (s[i].toNat : Int) < 97
          · simp only [hb, Option.bind_some, h1, decide_true, cond_true]
            simp [hlt, impl_LexName.A0_ret, hn]
          · have h2 : (122 : Int) < (s[i].toNat : Int) := by omega
            simp only [hb, Option.bind_some, h1, h2, decide_false, cond_false, decide_true, cond_true]
            simp [hlt, impl_LexName.A0_ret, hn]
      · have hl : Letters s := fun j hj => hok j hj (by omega)
        by_cases hr : (1 : Int) ≤ s.size ∧ (s.size : Int) ≤ 8
        · refine .inl ⟨_, σ1, ⟨l1, rfl⟩, (c2.and c1).mono fun k ⟨e2, e1⟩ m => ?_⟩
          have : IsName s ↔ ¬ s ∈ kept := ⟨fun h => h.2.2, fun h => ⟨hl, by omega, h⟩⟩
          rw [impl_LexName.L0_step]
          simp only [Int.ofNat_lt, hlt, decide_false, cond_false, Option.bind_some, impl_LexName.A0_x0, e2, hr, and_self, decide_true, castBool_bool, cond_true, e1]
          simp [this]
        · refine .inl ⟨_, σ, ⟨Lh.refl _, rfl⟩, c2.mono fun k e2 m => ?_⟩
          have : ¬ IsName s := fun h => hr (by have := h.2.1; omega)
          rw [impl_LexName.L0_step]
          simp only [Int.ofNat_lt, hlt, decide_false, cond_false, Option.bind_some, impl_LexName.A0_x0, e2, hr, castBool_bool]
          simp [this]) 0 ⟨Nat.zero_le _, fun j hj hji => absurd hji (by omega)⟩
  refine Gives.mk hl ((Ev.far s.size he).mono fun k ⟨e, hk⟩ => ?_)
  rw [impl_LexName.eq]
  exact e k (by omega)
theorem l1Kept_gives (σ : Heap) (s : ByteArray) : Gives G n_spec_l1Kept [.str s] σ (.bool (decide (s ∈ kept))) := by
  have h := kept_rep σ
  obtain ⟨w, σ', ⟨hl, rfl⟩, he⟩ := loop (L := spec_l1Kept.L0) (A := spec_l1Kept.A0) (S := Nat)
    (Inv := fun i => i ≤ kept.length ∧ ∀ j x, j < i → kept[j]? = some x → x ≠ s) (Good := fun w σ' => Lh σ σ' ∧ w = .bool (decide (s ∈ kept)))
    (vals := fun i => [.v (.str s), .v (.sl σ.length 0 19 true), .v (.int .i64 (i : Int))]) (hp := fun _ => hnew σ 1 (kept.map .str)) (far := fun i => kept.length - i) (fun i ⟨hi, hne⟩ => by
      by_cases hlt : i < kept.length
      · obtain ⟨r, o, hv, cs, hr, hP⟩ := h.at hlt
        unfold StrRep at hP
        subst hP
        by_cases hs : kept[i] = s
        · refine .inl ⟨_, hnew σ 1 (kept.map .str), ⟨Lh.new _ _ _, rfl⟩, Ev.now fun k m => ?_⟩
          have hm : s ∈ kept := hs ▸ List.getElem_mem hlt
          rw [spec_l1Kept.L0_step, h.vlen]
          simp [hlt, hv, hr, hs, spec_l1Kept.A0_ret, hm]
        · refine .inr ⟨i + 1, ⟨hlt, fun j x hj hx => ?_⟩, by omega, Ev.now fun k m => ?_⟩
          · by_cases hji : j = i
            · subst hji
              rw [List.getElem?_eq_getElem hlt] at hx
              injection hx with hx
              rw [← hx]; exact hs
            · exact hne j x (by omega) hx
          · rw [spec_l1Kept.L0_step, h.vlen]
            have hk : kept.length = 19 := rfl
            have hw : IntKind.wrap .i64 ((i : Int) + 1) = ((i + 1 : Nat) : Int) := wrap_id (by omega) (by omega)
            simp [hlt, hv, hr, hs]
            rw [hw]
            rfl
      · refine .inl ⟨_, hnew σ 1 (kept.map .str), ⟨Lh.new _ _ _, rfl⟩, Ev.now fun k m => ?_⟩
        have hm : ¬ s ∈ kept := fun hc => by
          obtain ⟨j, hj, hjs⟩ := List.getElem_of_mem hc
          exact hne j _ (by omega) (List.getElem?_eq_getElem hj) hjs
        rw [spec_l1Kept.L0_step, h.vlen]
        simp [hlt, spec_l1Kept.A0_x0, hm]) 0 ⟨Nat.zero_le _, fun j x hj => absurd hj (by omega)⟩
  refine Gives.mk hl ((Ev.far kept.length he).mono fun k ⟨e, hk⟩ => ?_)
  rw [spec_l1Kept.eq]
  exact e k (by omega)
theorem specLexName_gives (σ : Heap) (s : ByteArray) (hf : s.size ≤ 9223372036854775807) : Gives G n_spec_LexName [.str s] σ (.bool (decide (IsName s))) := by
  by_cases h1 : (s.size : Int) < 1
  · refine Gives.mk (Lh.refl σ) (Ev.now fun k => ?_)
    have : ¬ IsName s := fun h => by have := h.2.1; omega
    rw [spec_LexName.eq]
    simp only [h1, decide_true, cond_true]
    simp [this]
  by_cases h2 : (8 : Int) < (s.size : Int)
  · refine Gives.mk (Lh.refl σ) (Ev.now fun k => ?_)
    have : ¬ IsName s := fun h => by have := h.2.1; omega
    rw [spec_LexName.eq]
    simp only [h1, h2, decide_true, cond_true, decide_false, cond_false]
    simp [this]
  obtain ⟨σ1, l1, c1⟩ := l1Kept_gives σ s
  by_cases h3 : s ∈ kept
  · refine Gives.mk l1 (c1.mono fun k e => ?_)
    have : ¬ IsName s := fun h => h.2.2 h3
    rw [spec_LexName.eq]
    simp only [h1, h2, decide_false, cond_false, e, Option.bind_some, castBool_bool, h3, decide_true, cond_true]
    simp [this]
  obtain ⟨w, σ', ⟨hl, rfl⟩, he⟩ := loop (L := spec_LexName.L0) (A := spec_LexName.A0) (S := Nat)
    (Inv := fun i => i ≤ s.size ∧ ∀ j (h : j < s.size), j < i → 97 ≤ s[j].toNat ∧ s[j].toNat ≤ 122) (Good := fun w σ' => Lh σ σ' ∧ w = .bool (decide (IsName s)))
    (vals := fun i => [.v (.str s), .v (.int .i64 (i : Int))]) (hp := fun _ => σ1) (far := fun i => s.size - i) (fun i ⟨hi, hok⟩ => by
      by_cases hlt : i < s.size
      · have hb := sbyte_at hlt
        by_cases hc : 97 ≤ s[i].toNat ∧ s[i].toNat ≤ 122
        · refine .inr ⟨i + 1, ⟨hlt, fun j hj hji => ?_⟩, by omega, Ev.now fun k m => ?_⟩
          · by_cases h : j = i
            · subst h; exact hc
            · exact hok j hj (by omega)
          · rw [spec_LexName.L0_step]
            have hw : IntKind.wrap .i64 ((i : Int) + 1) = ((i + 1 : Nat) : Int) := wrap_id (by omega) (by omega)
            have h1 : ¬ (s[i].toNat : Int) < 97 := by omega
            have h2 : ¬ (122 : Int) < (s[i].toNat : Int) := by omega
            simp only [hb, Option.bind_some, h1, h2, decide_false, cond_false, hw]
            simp [hlt]
        · refine .inl ⟨_, σ1, ⟨l1, rfl⟩, Ev.now fun k m => ?_⟩
          have hn : ¬ IsName s := fun h => hc (h.1 i hlt)
          rw [spec_LexName.L0_step]
          by_cases h1 : (s[i].toNat : Int) < 97
          · simp only [hb, Option.bind_some, h1, decide_true, cond_true]
            simp [hlt, spec_LexName.A0_ret, hn]
          · have h2 : (122 : Int) < (s[i].toNat : Int) := by omega
            simp only [hb, Option.bind_some, h1, h2, decide_false, cond_false, decide_true, cond_true]
            simp [hlt, spec_LexName.A0_ret, hn]
      · have hl : IsName s := ⟨fun j hj => hok j hj (by omega), by omega, h3⟩
        refine .inl ⟨_, σ1, ⟨l1, rfl⟩, Ev.now fun k m => ?_⟩
        rw [spec_LexName.L0_step]
        simp [hlt, spec_LexName.A0_x0, hl]) 0 ⟨Nat.zero_le _, fun j hj hji => absurd hji (by omega)⟩
  refine Gives.mk hl ((Ev.and c1 (Ev.far s.size he)).mono fun k ⟨e1, e, hk⟩ => ?_)
  rw [spec_LexName.eq]
  simp only [h1, h2, decide_false, cond_false, e1, Option.bind_some, castBool_bool, h3]
  exact e k (by omega)
end Go.D

/- Lists of names, the size of expressions. -/
set_option linter.unusedVariables false
set_option linter.unusedSimpArgs false
namespace Go.D
open Go.HM Go.Proofs
def AllNames (l : List ByteArray) : Prop := (∀ x, x ∈ l → IsName x) ∧ l.Nodup
noncomputable instance (l : List ByteArray) : Decidable (AllNames l) := Classical.propDecidable _
theorem nodup_next {l : List ByteArray} {i : Nat} (h : i < l.length) : (l.take (i + 1)).Nodup ↔ (l.take i).Nodup ∧ ¬ l[i] ∈ l.take i := by
  rw [take_next h, List.nodup_append]
  simp
  intro _
  constructor
  · intro hc hm; exact hc _ hm rfl
  · intro hc a ha he; exact hc (he ▸ ha)
theorem AllNames.take {l : List ByteArray} (h : AllNames l) (i : Nat) : AllNames (l.take i) := ⟨fun x hx => h.1 x (List.mem_of_mem_take hx), h.2.sublist (List.take_sublist i l)⟩
theorem areNames_gives (σ : Heap) {v : V} {l : List ByteArray} (h : RepS 1 StrRep σ v l) (hf : l.length ≤ 9223372036854775807) (hx : ∀ x, x ∈ l → x.size ≤ 9223372036854775807) : Gives G n_impl_areNames [v] σ (.bool (decide (AllNames l))) := by
  obtain ⟨w, σ', ⟨hl, rfl⟩, he⟩ := loop (L := impl_areNames.L0) (A := impl_areNames.A0) (S := Nat × Heap)
    (Inv := fun s => s.1 ≤ l.length ∧ Lh σ s.2 ∧ AllNames (l.take s.1)) (Good := fun w σ' => Lh σ σ' ∧ w = .bool (decide (AllNames l)))
    (vals := fun s => [.v v, .v v, .v (.int .i64 (l.length : Int)), .v (.int .i64 (s.1 : Int))]) (hp := fun s => s.2) (far := fun s => l.length - s.1) (fun ⟨i, σi⟩ ⟨hi, hle, hok⟩ => by
      simp only at hi hle hok ⊢
      by_cases hlt : i < l.length
      · obtain ⟨r, o, hv, cs, hr, hP⟩ := (h.le hle).at hlt
        unfold StrRep at hP
        subst hP
        have hm : l[i] ∈ l := List.getElem_mem hlt
        obtain ⟨σ1, l1, c1⟩ := implLexName_gives σi l[i] (hx _ hm)
        by_cases hn : IsName l[i]
        · obtain ⟨u, hu, hR⟩ := h.first hlt
          have c2 := contains_string_runs (by rw [List.length_take]; omega) (hR.le (hle.trans l1)) l[i]
          by_cases hc : l[i] ∈ l.take i
          · refine .inl ⟨_, σ1, ⟨hle.trans l1, rfl⟩, (c1.and c2).mono fun k ⟨e1, e2⟩ m => ?_⟩
            have : ¬ AllNames l := fun ha => ((nodup_next hlt).1 (ha.take (i + 1)).2).2 hc
            rw [impl_areNames.L0_step]
            simp [hlt, hv, hr, e1, hn, hu, e2, hc, impl_areNames.A0_ret, this]
          · refine .inr ⟨(i + 1, σ1), ⟨hlt, hle.trans l1, ⟨fun x hx => ?_, (nodup_next hlt).2 ⟨hok.2, hc⟩⟩⟩, by simp only; omega, (c1.and c2).mono fun k ⟨e1, e2⟩ m => ?_⟩
            · rw [take_next hlt] at hx
              rcases List.mem_append.1 hx with h | h
              · exact hok.1 x h
              · simp at h; rw [h]; exact hn
            · have hw : IntKind.wrap .i64 ((i : Int) + 1) = ((i + 1 : Nat) : Int) := wrap_id (by omega) (by omega)
              rw [impl_areNames.L0_step]
              simp [hlt, hv, hr, e1, hn, hu, e2, hc]
              rw [hw]
              rfl
        · refine .inl ⟨_, σ1, ⟨hle.trans l1, rfl⟩, c1.mono fun k e1 m => ?_⟩
          have : ¬ AllNames l := fun ha => hn (ha.1 _ hm)
          rw [impl_areNames.L0_step]
          simp [hlt, hv, hr, e1, hn, impl_areNames.A0_ret, this]
      · refine .inl ⟨_, σi, ⟨hle, rfl⟩, Ev.now fun k m => ?_⟩
        have : AllNames l := by
          rw [List.take_of_length_le (by omega)] at hok
          exact hok
        rw [impl_areNames.L0_step]
        simp [hlt, impl_areNames.A0_x0, this]) (0, σ) ⟨Nat.zero_le _, Lh.refl _, fun x hx => by simp at hx, by simp⟩
  refine Gives.mk hl ((Ev.far l.length he).mono fun k ⟨e, hk⟩ => ?_)
  rw [impl_areNames.eq, h.vlen]
  exact e k (by simpa using hk)
theorem l2Uses_gives (σ : Heap) {v : V} {l : List ByteArray} (h : RepS 1 StrRep σ v l) (hf : l.length ≤ 9223372036854775807) (hx : ∀ x, x ∈ l → x.size ≤ 9223372036854775807) : Gives G n_spec_l2Uses [v] σ (.bool (decide (AllNames l))) := by
  -- the inner loop: whether l[i] stands among the first i
  have inner : ∀ (i : Nat) (hlt : i < l.length) (σi : Heap), Lh σ σi → Ev fun k => ∀ m0 m, i < m →
      (spec_l2Uses.L1 k m [.v v, .v (.int .i64 (i : Int)), .v (.int .i64 ((0 : Nat) : Int))] σi).bind (spec_l2Uses.A1 k m0) =
        if l[i] ∈ l.take i then some (.ret, [.v (.bool false)], σi) else spec_l2Uses.L0 k m0 [.v v, .v (.int .i64 (IntKind.wrap .i64 ((i : Int) + 1)))] σi := by
    intro i hlt σi hle
    have key : ∀ d j, j + d = i → (∀ q y, q < j → l[q]? = some y → y ≠ l[i]) → ∀ k m0 m, d < m →
        (spec_l2Uses.L1 k m [.v v, .v (.int .i64 (i : Int)), .v (.int .i64 (j : Int))] σi).bind (spec_l2Uses.A1 k m0) =
        if l[i] ∈ l.take i then some (.ret, [.v (.bool false)], σi) else spec_l2Uses.L0 k m0 [.v v, .v (.int .i64 (IntKind.wrap .i64 ((i : Int) + 1)))] σi := by
      intro d
      induction d with
      | zero =>
        intro j hj hne k m0 m hm
        obtain ⟨m, rfl⟩ : ∃ j, m = j + 1 := ⟨m - 1, by omega⟩
        have hc : ¬ l[i] ∈ l.take i := fun hc => by
          obtain ⟨q, hq, hqs⟩ := List.getElem_of_mem hc
          rw [List.getElem_take] at hqs
          rw [List.length_take] at hq
          exact hne q _ (by omega) (List.getElem?_eq_getElem (by omega)) hqs
        have : ¬ j < i := by omega
        rw [spec_l2Uses.L1_step, if_neg hc]
        simp [this, spec_l2Uses.A1_x2]
      | succ d ih =>
        intro j hj hne k m0 m hm
        obtain ⟨m, rfl⟩ : ∃ j, m = j + 1 := ⟨m - 1, by omega⟩
        have hji : j < i := by omega
        obtain ⟨r, o, hv, cs, hr, hP⟩ := (h.le hle).at (show j < l.length by omega)
        unfold StrRep at hP
        subst hP
        obtain ⟨r', o', hv', cs', hr', hP'⟩ := (h.le hle).at hlt
        unfold StrRep at hP'
        subst hP'
        rw [spec_l2Uses.L1_step]
        by_cases hs : l[j] = l[i]
        · have hc : l[i] ∈ l.take i := by
            rw [← hs]
            have : l[j] = (l.take i)[j]'(by rw [List.length_take]; omega) := by rw [List.getElem_take]
            rw [this]
            exact List.getElem_mem _
          simp [hji, hv, hr, hv', hr', hs, hc, spec_l2Uses.A1_ret]
        · have hw : IntKind.wrap .i64 ((j : Int) + 1) = ((j + 1 : Nat) : Int) := wrap_id (by omega) (by omega)
          simp only [Int.ofNat_lt, hji, decide_true, cond_true, hv, hr, hv', hr', Option.bind_some, uncons_cons, castStr_str, isNil_nil, hs, decide_false, cond_false]
          rw [hw]
          refine ih (j + 1) (by omega) (fun q y hq hy => ?_) k m0 m (by omega)
          by_cases hqj : q = j
          · subst hqj
            rw [List.getElem?_eq_getElem (by omega)] at hy
            injection hy with hy
            rw [← hy]; exact hs
          · exact hne q y (by omega) hy
    exact Ev.now fun k m0 m hm => key i 0 (by omega) (fun q y hq => absurd hq (by omega)) k m0 m hm
  obtain ⟨w, σ', ⟨hl, rfl⟩, he⟩ := loop (L := spec_l2Uses.L0) (A := spec_l2Uses.A0) (S := Nat × Heap)
    (Inv := fun s => s.1 ≤ l.length ∧ Lh σ s.2 ∧ AllNames (l.take s.1)) (Good := fun w σ' => Lh σ σ' ∧ w = .bool (decide (AllNames l)))
    (vals := fun s => [.v v, .v (.int .i64 (s.1 : Int))]) (hp := fun s => s.2) (far := fun s => l.length - s.1) (fun ⟨i, σi⟩ ⟨hi, hle, hok⟩ => by
      simp only at hi hle hok ⊢
      by_cases hlt : i < l.length
      · obtain ⟨r, o, hv, cs, hr, hP⟩ := (h.le hle).at hlt
        unfold StrRep at hP
        subst hP
        have hm : l[i] ∈ l := List.getElem_mem hlt
        obtain ⟨σ1, l1, c1⟩ := specLexName_gives σi l[i] (hx _ hm)
        by_cases hn : IsName l[i]
        · have c2 : Ev fun k => ∀ m0, (spec_l2Uses.L1 k k [.v v, .v (.int .i64 (i : Int)), .v (.int .i64 ((0 : Nat) : Int))] σ1).bind (spec_l2Uses.A1 k m0) =
              if l[i] ∈ l.take i then some (.ret, [.v (.bool false)], σ1) else spec_l2Uses.L0 k m0 [.v v, .v (.int .i64 (IntKind.wrap .i64 ((i : Int) + 1)))] σ1 :=
            (Ev.far i (inner i hlt σ1 (hle.trans l1))).mono fun k ⟨e, hk⟩ m0 => e m0 k hk
          by_cases hc : l[i] ∈ l.take i
          · refine .inl ⟨_, σ1, ⟨hle.trans l1, rfl⟩, (c1.and c2).mono fun k ⟨e1, e2⟩ m => ?_⟩
            have : ¬ AllNames l := fun ha => ((nodup_next hlt).1 (ha.take (i + 1)).2).2 hc
            rw [spec_l2Uses.L0_step, (h.le hle).vlen]
            have e3 := e2 m
            rw [if_pos hc] at e3
            simp only [Int.ofNat_lt, hlt, hv, hr, e1, hn, decide_true, cond_true, Option.bind_some, uncons_cons, castStr_str, isNil_nil, castBool_bool, Bool.not_true, cond_false]
            rw [show ((0 : Int)) = ((0 : Nat) : Int) from rfl, e3]
            simp [spec_l2Uses.A0_ret, this]
          · refine .inr ⟨(i + 1, σ1), ⟨hlt, hle.trans l1, ⟨fun x hx => ?_, (nodup_next hlt).2 ⟨hok.2, hc⟩⟩⟩, by simp only; omega, (c1.and c2).mono fun k ⟨e1, e2⟩ m => ?_⟩
            · rw [take_next hlt] at hx
              rcases List.mem_append.1 hx with h | h
              · exact hok.1 x h
              · simp at h; rw [h]; exact hn
            · have hw : IntKind.wrap .i64 ((i : Int) + 1) = ((i + 1 : Nat) : Int) := wrap_id (by omega) (by omega)
              have e3 := e2 m
              rw [if_neg hc, hw] at e3
              rw [spec_l2Uses.L0_step, (h.le hle).vlen]
              simp only [Int.ofNat_lt, hlt, hv, hr, e1, hn, decide_true, cond_true, Option.bind_some, uncons_cons, castStr_str, isNil_nil, castBool_bool, Bool.not_true, cond_false]
              rw [show ((0 : Int)) = ((0 : Nat) : Int) from rfl, e3]
        · refine .inl ⟨_, σ1, ⟨hle.trans l1, rfl⟩, c1.mono fun k e1 m => ?_⟩
          have : ¬ AllNames l := fun ha => hn (ha.1 _ hm)
          rw [spec_l2Uses.L0_step, (h.le hle).vlen]
          simp [hlt, hv, hr, e1, hn, spec_l2Uses.A0_ret, this]
      · refine .inl ⟨_, σi, ⟨hle, rfl⟩, Ev.now fun k m => ?_⟩
        have : AllNames l := by
          rw [List.take_of_length_le (by omega)] at hok
          exact hok
        rw [spec_l2Uses.L0_step, (h.le hle).vlen]
        simp [hlt, spec_l2Uses.A0_x0, this]) (0, σ) ⟨Nat.zero_le _, Lh.refl _, fun x hx => by simp at hx, by simp⟩
  refine Gives.mk hl ((Ev.far l.length he).mono fun k ⟨e, hk⟩ => ?_)
  rw [spec_l2Uses.eq]
  exact e k (by simpa using hk)
mutual
def TreeExpr.many : TreeExpr → Nat
  | ⟨_, _, _, _, kids⟩ => 1 + TreeExpr.manyS kids
def TreeExpr.manyS : List TreeExpr → Nat
  | [] => 0
  | e :: es => e.many + TreeExpr.manyS es
end
theorem TreeExpr.manyS_eq : ∀ l, TreeExpr.manyS l = totS TreeExpr.many l
  | [] => rfl
  | e :: es => by rw [TreeExpr.manyS, totS, TreeExpr.manyS_eq]
theorem TreeExpr.many_eq (e : TreeExpr) : e.many = 1 + totS TreeExpr.many e.kids := by
  cases e; rw [TreeExpr.many, TreeExpr.manyS_eq]
mutual
def TreeExpr.deep : TreeExpr → Nat
  | ⟨_, _, _, _, kids⟩ => TreeExpr.deepS kids + 1
def TreeExpr.deepS : List TreeExpr → Nat
  | [] => 0
  | e :: es => max e.deep (TreeExpr.deepS es)
end
theorem TreeExpr.deepS_eq : ∀ l, TreeExpr.deepS l = maxS TreeExpr.deep l
  | [] => rfl
  | e :: es => by rw [TreeExpr.deepS, maxS, TreeExpr.deepS_eq]
theorem TreeExpr.deep_eq (e : TreeExpr) : e.deep = maxS TreeExpr.deep e.kids + 1 := by
  cases e; rw [TreeExpr.deep, TreeExpr.deepS_eq]
theorem totS_le {α : Type} {f g : α → Nat} : ∀ (l : List α), (∀ x, x ∈ l → f x ≤ 1 + g x) → totS f l ≤ l.length + totS g l
  | [], _ => by simp [totS]
  | x :: l, h => by
    have := totS_le l (fun y hy => h y (by simp [hy]))
    have := h x (by simp)
    rw [totS, totS, List.length_cons]
    omega
theorem maxS_le {α : Type} {f g : α → Nat} : ∀ (l : List α), (∀ x, x ∈ l → f x ≤ g x) → maxS f l ≤ totS g l
  | [], _ => by simp [totS, maxS]
  | x :: l, h => by
    have := maxS_le l (fun y hy => h y (by simp [hy]))
    have := h x (by simp)
    rw [totS, maxS]
    omega
theorem TreeExpr.many_le (e : TreeExpr) : e.many ≤ 1 + e.total := by
  rw [TreeExpr.many_eq, TreeExpr.total_eq]
  have := totS_le (f := TreeExpr.many) (g := TreeExpr.total) e.kids (fun x hx => TreeExpr.many_le x)
  omega
termination_by SizeOf.sizeOf e
decreasing_by
  cases e
  have := List.sizeOf_lt_of_mem hx
  simp at this ⊢
  omega
theorem TreeExpr.deep_le (e : TreeExpr) : e.deep ≤ e.many := by
  rw [TreeExpr.many_eq, TreeExpr.deep_eq]
  have := maxS_le (f := TreeExpr.deep) (g := TreeExpr.many) e.kids (fun x hx => TreeExpr.deep_le x)
  omega
termination_by SizeOf.sizeOf e
decreasing_by
  cases e
  have := List.sizeOf_lt_of_mem hx
  simp at this ⊢
  omega
theorem TreeExpr.kid_total {e x : TreeExpr} (hx : x ∈ e.kids) : x.total ≤ e.total := by
  rw [TreeExpr.total_eq e]
  have := totS_mem TreeExpr.total hx
  omega
theorem implTreeNodes_runs (e : TreeExpr) (ht : e.total ≤ 1048576) {σ : Heap} {cs : List V} (hr : TreeExpr.Rep σ cs e) : Runs G n_impl_TreeNodes [.agg cs] σ (.tuple [.int .i64 e.many, .int .i64 e.deep]) σ := by
  have ih : ∀ x, x ∈ e.kids → ∀ cs, TreeExpr.Rep σ cs x → Runs G n_impl_TreeNodes [.agg cs] σ (.tuple [.int .i64 x.many, .int .i64 x.deep]) σ := fun x hx cs hr => implTreeNodes_runs x (Nat.le_trans (TreeExpr.kid_total hx) ht) hr
  have hm := TreeExpr.many_le e
  have hd := TreeExpr.deep_le e
  have hme := TreeExpr.many_eq e
  have hde := TreeExpr.deep_eq e
  have hl : e.kids.length ≤ 1048576 := by rw [TreeExpr.total_eq] at ht; omega
  cases hr with
  | mk h =>
  rename_i a
  obtain ⟨w, σ', ⟨rfl, rfl⟩, he⟩ := loop (L := impl_TreeNodes.L0) (A := impl_TreeNodes.A0) (S := Nat)
    (Inv := fun i => i ≤ e.kids.length) (Good := fun w σ' => σ' = σ ∧ w = .tuple [.int .i64 e.many, .int .i64 e.deep])
    (vals := fun i => [.v (.int .i64 ((1 + totS TreeExpr.many (e.kids.take i) : Nat) : Int)), .v (.int .i64 ((maxS TreeExpr.deep (e.kids.take i) : Nat) : Int)), .v a, .v (.int .i64 (e.kids.length : Int)), .v (.int .i64 (i : Int))]) (hp := fun _ => σ) (far := fun i => e.kids.length - i) (fun i hi => by
      by_cases hlt : i < e.kids.length
      · obtain ⟨r, o, hv, cs, hr, hP⟩ := h.at hlt
        have c := ih _ (List.getElem_mem hlt) cs hP
        have e1 : totS TreeExpr.many (e.kids.take (i + 1)) = totS TreeExpr.many (e.kids.take i) + e.kids[i].many := by rw [take_next hlt, totS_append]; simp [totS]
        have e2 : maxS TreeExpr.deep (e.kids.take (i + 1)) = max (maxS TreeExpr.deep (e.kids.take i)) e.kids[i].deep := by rw [take_next hlt, maxS_append]; simp [maxS]
        have b1 := totS_take_le TreeExpr.many e.kids (i + 1)
        generalize e.kids[i] = x at hP c e1 e2
        cases hP with
        | mk hk =>
        refine .inr ⟨i + 1, hlt, by omega, c.mono fun k c m => ?_⟩
        have hw : IntKind.wrap .i64 ((i : Int) + 1) = ((i + 1 : Nat) : Int) := wrap_id (by omega) (by omega)
        have hw1 : IntKind.wrap .i64 (((1 + totS TreeExpr.many (e.kids.take i) : Nat) : Int) + (x.many : Int)) = ((1 + totS TreeExpr.many (e.kids.take (i + 1)) : Nat) : Int) := by rw [wrap_id (by omega) (by omega)]; omega
        have hw2 : (if ((maxS TreeExpr.deep (e.kids.take i) : Nat) : Int) < (x.deep : Int) then (x.deep : Int) else ((maxS TreeExpr.deep (e.kids.take i) : Nat) : Int)) = ((maxS TreeExpr.deep (e.kids.take (i + 1)) : Nat) : Int) := by rw [e2]; split <;> omega
        rw [impl_TreeNodes.L0_step]
        simp only [Int.ofNat_lt, hlt, decide_true, cond_true, hv, hr, Option.bind_some, uncons_cons, castInt_int, castStr_str, isNil_nil, c, castTuple_tuple]
        rw [hw, hw1, ← hw2]
        simp only [Int.ofNat_lt]
      · refine .inl ⟨_, σ, ⟨rfl, rfl⟩, Ev.now fun k m => ?_⟩
        rw [impl_TreeNodes.L0_step]
        simp only [Int.ofNat_lt, hlt, decide_false, cond_false, Option.bind_some, impl_TreeNodes.A0_x0]
        rw [List.take_of_length_le (by omega), ← hme, wrap_id (by omega) (by omega), hde]
        rfl) 0 (Nat.zero_le _)
  refine Runs.mk ((Ev.far e.kids.length he).mono fun k ⟨e1, hk⟩ => ?_)
  rw [impl_TreeNodes.eq, h.vlen]
  exact e1 k (by simpa using hk)
termination_by SizeOf.sizeOf e
decreasing_by
  cases e
  have := List.sizeOf_lt_of_mem hx
  simp at this ⊢
  omega
theorem specTreeNodes_runs (e : TreeExpr) (ht : e.total ≤ 1048576) {σ : Heap} {cs : List V} (hr : TreeExpr.Rep σ cs e) : Runs G n_spec_TreeNodes [.agg cs] σ (.tuple [.int .i64 e.many, .int .i64 e.deep]) σ := by
  have ih : ∀ x, x ∈ e.kids → ∀ cs, TreeExpr.Rep σ cs x → Runs G n_spec_TreeNodes [.agg cs] σ (.tuple [.int .i64 x.many, .int .i64 x.deep]) σ := fun x hx cs hr => specTreeNodes_runs x (Nat.le_trans (TreeExpr.kid_total hx) ht) hr
  have hm := TreeExpr.many_le e
  have hd := TreeExpr.deep_le e
  have hme := TreeExpr.many_eq e
  have hde := TreeExpr.deep_eq e
  have hl : e.kids.length ≤ 1048576 := by rw [TreeExpr.total_eq] at ht; omega
  cases hr with
  | mk h =>
  rename_i a
  obtain ⟨w, σ', ⟨rfl, rfl⟩, he⟩ := loop (L := spec_TreeNodes.L0) (A := spec_TreeNodes.A0) (S := Nat)
    (Inv := fun i => i ≤ e.kids.length) (Good := fun w σ' => σ' = σ ∧ w = .tuple [.int .i64 e.many, .int .i64 e.deep])
    (vals := fun i => [.box [.int .i64 e.kind, .int .i64 e.num, .str e.name, .str e.mod, a], .v (.int .i64 ((1 + totS TreeExpr.many (e.kids.take i) : Nat) : Int)), .v (.int .i64 ((maxS TreeExpr.deep (e.kids.take i) : Nat) : Int)), .v (.int .i64 (i : Int))]) (hp := fun _ => σ) (far := fun i => e.kids.length - i) (fun i hi => by
      by_cases hlt : i < e.kids.length
      · obtain ⟨r, o, hv, cs, hr, hP⟩ := h.at hlt
        have c := ih _ (List.getElem_mem hlt) cs hP
        have e1 : totS TreeExpr.many (e.kids.take (i + 1)) = totS TreeExpr.many (e.kids.take i) + e.kids[i].many := by rw [take_next hlt, totS_append]; simp [totS]
        have e2 : maxS TreeExpr.deep (e.kids.take (i + 1)) = max (maxS TreeExpr.deep (e.kids.take i)) e.kids[i].deep := by rw [take_next hlt, maxS_append]; simp [maxS]
        have b1 := totS_take_le TreeExpr.many e.kids (i + 1)
        generalize e.kids[i] = x at hP c e1 e2
        cases hP with
        | mk hk =>
        refine .inr ⟨i + 1, hlt, by omega, c.mono fun k c m => ?_⟩
        have hw : IntKind.wrap .i64 ((i : Int) + 1) = ((i + 1 : Nat) : Int) := wrap_id (by omega) (by omega)
        have hw1 : IntKind.wrap .i64 (((1 + totS TreeExpr.many (e.kids.take i) : Nat) : Int) + (x.many : Int)) = ((1 + totS TreeExpr.many (e.kids.take (i + 1)) : Nat) : Int) := by rw [wrap_id (by omega) (by omega)]; omega
        rw [spec_TreeNodes.L0_step, h.vlen]
        by_cases hlt2 : maxS TreeExpr.deep (e.kids.take i) < x.deep
        · simp only [Int.ofNat_lt, hlt, decide_true, cond_true, hv, hr, Option.bind_some, uncons_cons, castInt_int, castStr_str, isNil_nil, c, castTuple_tuple, hlt2]
          rw [hw, hw1, e2, Nat.max_eq_right (by omega)]
        · simp only [Int.ofNat_lt, hlt, decide_true, cond_true, hv, hr, Option.bind_some, uncons_cons, castInt_int, castStr_str, isNil_nil, c, castTuple_tuple, hlt2, decide_false, cond_false]
          rw [hw, hw1, e2, Nat.max_eq_left (by omega)]
      · refine .inl ⟨_, σ, ⟨rfl, rfl⟩, Ev.now fun k m => ?_⟩
        rw [spec_TreeNodes.L0_step, h.vlen]
        simp only [Int.ofNat_lt, hlt, decide_false, cond_false, Option.bind_some, spec_TreeNodes.A0_x0]
        rw [List.take_of_length_le (by omega), ← hme, wrap_id (by omega) (by omega), hde]
        rfl) 0 (Nat.zero_le _)
  refine Runs.mk ((Ev.far e.kids.length he).mono fun k ⟨e1, hk⟩ => ?_)
  rw [spec_TreeNodes.eq]
  exact e1 k (by simpa using hk)
termination_by SizeOf.sizeOf e
decreasing_by
  cases e
  have := List.sizeOf_lt_of_mem hx
  simp at this ⊢
  omega
end Go.D

/- Types and short numbers. -/
set_option linter.unusedVariables false
set_option linter.unusedSimpArgs false
set_option maxRecDepth 100000
namespace Go.D
open Go.HM Go.Proofs
theorem isType_runs {σ : Heap} (n : Int) : Runs G n_impl_isType [.int .i64 n] σ (.bool (decide (1 ≤ n ∧ n ≤ 3))) σ :=
  Runs.mk ((inRange_runs (σ := σ) n 1 3).mono fun k e => by rw [impl_isType.eq]; simp only [e, Option.bind_some, castBool_bool])
theorem isShort_runs {σ : Heap} (n : Int) : Runs G n_impl_isShort [.int .i64 n] σ (.bool (decide (-99999999999999999 ≤ n ∧ n ≤ 99999999999999999))) σ :=
  Runs.mk ((inRange_runs (σ := σ) n (-99999999999999999) 99999999999999999).mono fun k e => by rw [impl_isShort.eq]; simp only [e, Option.bind_some, castBool_bool])
theorem treeType_gives (σ : Heap) (n : Int) : ∃ s : ByteArray, (s = ⟨#[]⟩ ↔ ¬ (1 ≤ n ∧ n ≤ 3)) ∧ Gives G n_spec_TreeType [.int .i64 n] σ (.str s) := by
  by_cases h1 : n < 1
  · refine ⟨⟨#[]⟩, by simp; omega, Gives.mk (Lh.refl σ) (Ev.now fun k => ?_)⟩
    rw [spec_TreeType.eq]
    simp only [h1, decide_true, cond_true]
  by_cases h2 : 3 < n
  · refine ⟨⟨#[]⟩, by simp; omega, Gives.mk (Lh.refl σ) (Ev.now fun k => ?_)⟩
    rw [spec_TreeType.eq]
    simp only [h1, h2, decide_true, cond_true, decide_false, cond_false]
  have hl : RepS 1 StrRep (hnew σ 1 (([⟨#[105, 110, 116]⟩, ⟨#[98, 111, 111, 108]⟩, ⟨#[114, 111, 119]⟩] : List ByteArray).map .str)) (.sl σ.length 0 3 true) [⟨#[105, 110, 116]⟩, ⟨#[98, 111, 111, 108]⟩, ⟨#[114, 111, 119]⟩] := RepS.lit σ _ .str (fun _ => rfl) true 3 rfl
  obtain ⟨i, rfl⟩ : ∃ i : Nat, n = (i : Int) + 1 := ⟨(n - 1).toNat, by omega⟩
  have hi : i < 3 := by omega
  obtain ⟨r, o, hv, cs, hr, hP⟩ := hl.at (i := i) hi
  unfold StrRep at hP
  subst hP
  have hw : IntKind.wrap .i64 ((i : Int) + 1 - 1) = (i : Int) := by rw [wrap_id (by omega) (by omega)]; omega
  refine ⟨([⟨#[105, 110, 116]⟩, ⟨#[98, 111, 111, 108]⟩, ⟨#[114, 111, 119]⟩] : List ByteArray)[i]'hi, ?_, Gives.mk (σ' := hnew σ 1 (([⟨#[105, 110, 116]⟩, ⟨#[98, 111, 111, 108]⟩, ⟨#[114, 111, 119]⟩] : List ByteArray).map .str)) (Lh.new _ _ _) (Ev.now fun k => ?_)⟩
  · have : i = 0 ∨ i = 1 ∨ i = 2 := by omega
    rcases this with rfl | rfl | rfl <;> simp <;> decide
  · rw [spec_TreeType.eq]
    simp only [h1, h2, decide_false, cond_false, hw, hv, Option.bind_some]
    change (rdc (hnew σ 1 (([⟨#[105, 110, 116]⟩, ⟨#[98, 111, 111, 108]⟩, ⟨#[114, 111, 119]⟩] : List ByteArray).map .str)) r o 1).bind _ = _
    rw [hr]
    rfl
end Go.D

/- Arities, types, lists of parameters. -/
set_option linter.unusedVariables false
set_option linter.unusedSimpArgs false
set_option maxRecDepth 100000
namespace Go.D
open Go.HM Go.Proofs
def arity (s : ByteArray) : Int :=
  if s = ⟨#[110, 111, 116]⟩ then 1 else if s = ⟨#[108, 101, 110]⟩ then 1 else if s = ⟨#[112, 114, 105, 110, 116]⟩ then 1 else if s = ⟨#[112, 117, 116]⟩ then 3 else
  if s = ⟨#[43]⟩ then 2 else if s = ⟨#[45]⟩ then 2 else if s = ⟨#[42]⟩ then 2 else if s = ⟨#[47]⟩ then 2 else if s = ⟨#[37]⟩ then 2 else if s = ⟨#[60]⟩ then 2 else if s = ⟨#[60, 61]⟩ then 2 else if s = ⟨#[61]⟩ then 2 else
  if s = ⟨#[97, 116]⟩ then 2 else if s = ⟨#[106, 111, 105, 110]⟩ then 2 else if s = ⟨#[97, 110, 100]⟩ then 2 else if s = ⟨#[111, 114]⟩ then 2 else -1
theorem implArity_runs {σ : Heap} (s : ByteArray) : Runs G n_impl_TreeArity [.str s] σ (.int .i64 (arity s)) σ := Runs.mk (Ev.now fun k => by
  rw [impl_TreeArity.eq]
  by_cases h1 : s = ⟨#[110, 111, 116]⟩
  · subst h1; kernel_rfl
  by_cases h2 : s = ⟨#[108, 101, 110]⟩
  · subst h2; kernel_rfl
  by_cases h3 : s = ⟨#[112, 114, 105, 110, 116]⟩
  · subst h3; kernel_rfl
  by_cases h4 : s = ⟨#[112, 117, 116]⟩
  · subst h4; kernel_rfl
  by_cases h5 : s = ⟨#[43]⟩
  · subst h5; kernel_rfl
  by_cases h6 : s = ⟨#[45]⟩
  · subst h6; kernel_rfl
  by_cases h7 : s = ⟨#[42]⟩
  · subst h7; kernel_rfl
  by_cases h8 : s = ⟨#[47]⟩
  · subst h8; kernel_rfl
  by_cases h9 : s = ⟨#[37]⟩
  · subst h9; kernel_rfl
  by_cases h10 : s = ⟨#[60]⟩
  · subst h10; kernel_rfl
  by_cases h11 : s = ⟨#[60, 61]⟩
  · subst h11; kernel_rfl
  by_cases h12 : s = ⟨#[61]⟩
  · subst h12; kernel_rfl
  by_cases h13 : s = ⟨#[97, 116]⟩
  · subst h13; kernel_rfl
  by_cases h14 : s = ⟨#[106, 111, 105, 110]⟩
  · subst h14; kernel_rfl
  by_cases h15 : s = ⟨#[97, 110, 100]⟩
  · subst h15; kernel_rfl
  by_cases h16 : s = ⟨#[111, 114]⟩
  · subst h16; kernel_rfl
  simp only [arity, h1, h2, h3, h4, h5, h6, h7, h8, h9, h10, h11, h12, h13, h14, h15, h16, decide_false, cond_false, if_false])
def prims : List ByteArray := [⟨#[43]⟩, ⟨#[45]⟩, ⟨#[42]⟩, ⟨#[47]⟩, ⟨#[37]⟩, ⟨#[60]⟩, ⟨#[60, 61]⟩, ⟨#[61]⟩, ⟨#[110, 111, 116]⟩, ⟨#[97, 116]⟩, ⟨#[108, 101, 110]⟩, ⟨#[112, 117, 116]⟩, ⟨#[106, 111, 105, 110]⟩, ⟨#[112, 114, 105, 110, 116]⟩, ⟨#[97, 110, 100]⟩, ⟨#[111, 114]⟩]
theorem prims_runs (σ : Heap) : Runs G n_spec_l2Prims [] σ (.sl σ.length 0 16 true) (hnew σ 1 (prims.map .str)) := Runs.mk (Ev.now fun k => by rw [spec_l2Prims.eq]; rfl)
theorem l2Prim_gives (σ : Heap) (s : ByteArray) : ∃ n : Int, ((n = 0 ∧ ∀ x, x ∈ prims → x ≠ s) ∨ (∃ i, ∃ h : i < prims.length, prims[i] = s ∧ n = (i : Int) + 1)) ∧ Gives G n_spec_l2Prim [.str s] σ (.int .i64 n) := by
  have h : RepS 1 StrRep (hnew σ 1 (prims.map .str)) (.sl σ.length 0 16 true) prims := RepS.lit σ prims .str (fun _ => rfl) true 16 rfl
  have hp : prims.length = 16 := rfl
  obtain ⟨w, σ', ⟨hl, n, hn, rfl⟩, he⟩ := loop (L := spec_l2Prim.L0) (A := spec_l2Prim.A0) (S := Nat)
    (Inv := fun i => i ≤ prims.length ∧ ∀ j x, j < i → prims[j]? = some x → x ≠ s) (Good := fun w σ' => Lh σ σ' ∧ ∃ n : Int, ((n = 0 ∧ ∀ x, x ∈ prims → x ≠ s) ∨ (∃ i, ∃ h : i < prims.length, prims[i] = s ∧ n = (i : Int) + 1)) ∧ w = .int .i64 n)
    (vals := fun i => [.v (.str s), .v (.sl σ.length 0 16 true), .v (.int .i64 (i : Int))]) (hp := fun _ => hnew σ 1 (prims.map .str)) (far := fun i => prims.length - i) (fun i ⟨hi, hne⟩ => by
      by_cases hlt : i < prims.length
      · obtain ⟨r, o, hv, cs, hr, hP⟩ := h.at hlt
        unfold StrRep at hP
        subst hP
        have hw : IntKind.wrap .i64 ((i : Int) + 1) = ((i + 1 : Nat) : Int) := wrap_id (by omega) (by omega)
        by_cases hs : prims[i] = s
        · refine .inl ⟨.int .i64 ((i : Int) + 1), hnew σ 1 (prims.map .str), ⟨Lh.new _ _ _, _, .inr ⟨i, hlt, hs, rfl⟩, rfl⟩, Ev.now fun k m => ?_⟩
          rw [spec_l2Prim.L0_step, h.vlen]
          simp [hlt, hv, hr, hs, spec_l2Prim.A0_ret, hw]
        · refine .inr ⟨i + 1, ⟨hlt, fun j x hj hx => ?_⟩, by omega, Ev.now fun k m => ?_⟩
          · by_cases hji : j = i
            · subst hji
              rw [List.getElem?_eq_getElem hlt] at hx
              injection hx with hx
              rw [← hx]; exact hs
            · exact hne j x (by omega) hx
          · rw [spec_l2Prim.L0_step, h.vlen]
            simp [hlt, hv, hr, hs]
            rw [hw]
            rfl
      · refine .inl ⟨.int .i64 0, hnew σ 1 (prims.map .str), ⟨Lh.new _ _ _, 0, .inl ⟨rfl, fun x hx hc => ?_⟩, rfl⟩, Ev.now fun k m => ?_⟩
        · obtain ⟨j, hj, hjs⟩ := List.getElem_of_mem hx
          exact hne j _ (by omega) (List.getElem?_eq_getElem hj) (hjs.trans hc)
        · rw [spec_l2Prim.L0_step, h.vlen]
          simp [hlt, spec_l2Prim.A0_x0]) 0 ⟨Nat.zero_le _, fun j x hj => absurd hj (by omega)⟩
  refine ⟨n, hn, Gives.mk hl (((prims_runs σ).and (Ev.far prims.length he)).mono fun k ⟨e1, e, hk⟩ => ?_)⟩
  rw [spec_l2Prim.eq, e1]
  exact e k (by omega)
theorem specArity_gives (σ : Heap) (s : ByteArray) : Gives G n_spec_TreeArity [.str s] σ (.int .i64 (arity s)) := by
  obtain ⟨n, hn, σ1, l1, c1⟩ := l2Prim_gives σ s
  refine Gives.mk l1 (c1.mono fun k e => ?_)
  rw [spec_TreeArity.eq, e]
  rcases hn with ⟨rfl, hn⟩ | ⟨i, hi, hs, rfl⟩
  · have h : ∀ x, x ∈ prims → ¬ s = x := fun x hx hc => hn x hx hc.symm
    have ha : arity s = -1 := by
      simp only [prims, List.mem_cons, List.not_mem_nil, or_false, forall_eq_or_imp, forall_eq] at h
      simp [arity, h]
    rw [ha]
    rfl
  · have hp : prims.length = 16 := rfl
    have : i = 0 ∨ i = 1 ∨ i = 2 ∨ i = 3 ∨ i = 4 ∨ i = 5 ∨ i = 6 ∨ i = 7 ∨ i = 8 ∨ i = 9 ∨ i = 10 ∨ i = 11 ∨ i = 12 ∨ i = 13 ∨ i = 14 ∨ i = 15 := by omega
    subst hs
    rcases this with rfl | rfl | rfl | rfl | rfl | rfl | rfl | rfl | rfl | rfl | rfl | rfl | rfl | rfl | rfl | rfl <;> (first | rfl | (show (_ : Option (V × Heap)) = _; kernel_rfl))
end Go.D

/- Right expressions. -/
set_option linter.unusedVariables false
set_option linter.unusedSimpArgs false
set_option maxRecDepth 100000
set_option maxHeartbeats 2000000
namespace Go.D
open Go.HM Go.Proofs
abbrev E0 : ByteArray := ⟨#[]⟩
def NodeOk (e : TreeExpr) : Prop :=
  (e.kind = 1 ∧ (e.kids.length : Int) = 0 ∧ e.name = E0 ∧ e.mod = E0 ∧ -99999999999999999 ≤ e.num ∧ e.num ≤ 99999999999999999) ∨
  (e.kind = 2 ∧ (e.kids.length : Int) = 0 ∧ e.name = E0 ∧ e.mod = E0 ∧ 0 ≤ e.num ∧ e.num ≤ 1) ∨
  (e.kind = 3 ∧ (e.kids.length : Int) = 0 ∧ e.num = 0 ∧ e.mod = E0 ∧ IsName e.name) ∨
  (e.kind = 4 ∧ e.num = 0 ∧ e.mod = E0 ∧ (e.kids.length : Int) = arity e.name) ∨
  (e.kind = 5 ∧ (e.kids.length : Int) = 3 ∧ e.num = 0 ∧ e.name = E0 ∧ e.mod = E0) ∨
  (e.kind = 6 ∧ (e.kids.length : Int) = 2 ∧ e.num = 0 ∧ e.mod = E0 ∧ IsName e.name) ∨
  (e.kind = 7 ∧ (e.kids.length : Int) ≤ 4 ∧ e.num = 0 ∧ IsName e.name ∧ (e.mod = E0 ∨ IsName e.mod)) ∨
  (e.kind = 8 ∧ (e.kids.length : Int) ≤ 8 ∧ e.num = 0 ∧ e.name = E0 ∧ e.mod = E0)
noncomputable instance (e : TreeExpr) : Decidable (NodeOk e) := Classical.propDecidable _
theorem partsOk_gives {σ : Heap} {e : TreeExpr} (hf : e.Fit) {cs : List V} (hr : TreeExpr.Rep σ cs e) : Gives G n_impl_TreeExpr_partsOk [.agg cs] σ (.bool (decide (NodeOk e))) := by
  cases hf with
  | mk f0 f1 f2 f3 f4 f5 =>
  cases hr with
  | mk h =>
  have hv := h.vlen
  obtain ⟨σ1, l1, c1⟩ := implLexName_gives σ e.name f2
  obtain ⟨σ2, l2, c2⟩ := implLexName_gives σ1 e.mod f3
  have c3 := isShort_runs (σ := σ) e.num
  have c4 := inRange_runs (σ := σ) e.num 0 1
  have c5 := implArity_runs (σ := σ) e.name
  by_cases k1 : e.kind = 1
  · refine Gives.mk (Lh.refl σ) (c3.mono fun k e3 => ?_)
    rw [impl_TreeExpr_partsOk.eq]
    by_cases hn : e.name = E0
    · by_cases hm : e.mod = E0
      · by_cases hs : -99999999999999999 ≤ e.num ∧ e.num ≤ 99999999999999999 <;> simp [k1, hn, hm, e3, hv, NodeOk, hs]
      · simp [k1, hn, hm, NodeOk]
    · simp [k1, hn, NodeOk]
  by_cases k2 : e.kind = 2
  · refine Gives.mk (Lh.refl σ) (c4.mono fun k e4 => ?_)
    rw [impl_TreeExpr_partsOk.eq]
    by_cases hn : e.name = E0
    · by_cases hm : e.mod = E0
      · by_cases hs : 0 ≤ e.num ∧ e.num ≤ 1 <;> simp [k2, hn, hm, e4, hv, NodeOk, hs]
      · simp [k2, hn, hm, NodeOk]
    · simp [k2, hn, NodeOk]
  by_cases h0 : e.num = 0
  rotate_left
  · refine Gives.mk (Lh.refl σ) (Ev.now fun k => ?_)
    have : ¬ NodeOk e := by simp [NodeOk, k1, k2, h0]
    rw [impl_TreeExpr_partsOk.eq]
    by_cases hn : e.name = E0 <;> simp [k1, k2, hn, h0, this]
  by_cases k3 : e.kind = 3
  · refine Gives.mk l1 (c1.mono fun k e1 => ?_)
    rw [impl_TreeExpr_partsOk.eq]
    by_cases hi : IsName e.name <;> by_cases hm : e.mod = E0 <;> by_cases hn : e.name = E0 <;> simp [k3, h0, hm, hn, e1, hv, NodeOk, hi] <;> simp_all
  by_cases k4 : e.kind = 4
  · refine Gives.mk (Lh.refl σ) (c5.mono fun k e5 => ?_)
    rw [impl_TreeExpr_partsOk.eq]
    by_cases hm : e.mod = E0 <;> by_cases hn : e.name = E0 <;> simp [k4, h0, hm, hn, e5, hv, NodeOk] <;> simp_all
  by_cases k5 : e.kind = 5
  · refine Gives.mk (Lh.refl σ) (Ev.now fun k => ?_)
    rw [impl_TreeExpr_partsOk.eq]
    by_cases hm : e.mod = E0 <;> by_cases hn : e.name = E0 <;> simp [k5, h0, hm, hn, hv, NodeOk]
  by_cases k6 : e.kind = 6
  · refine Gives.mk l1 (c1.mono fun k e1 => ?_)
    rw [impl_TreeExpr_partsOk.eq]
    by_cases hi : IsName e.name <;> by_cases hm : e.mod = E0 <;> by_cases hn : e.name = E0 <;> simp [k6, h0, hm, hn, e1, hv, NodeOk, hi] <;> simp_all
  by_cases k7 : e.kind = 7
  · by_cases hi : IsName e.name
    · by_cases hm : e.mod = E0
      · refine Gives.mk l1 (c1.mono fun k e1 => ?_)
        rw [impl_TreeExpr_partsOk.eq]
        by_cases hn : e.name = E0 <;> simp [k7, h0, hm, hn, e1, hv, NodeOk, hi] <;> simp_all
      · refine Gives.mk (l1.trans l2) ((c1.and c2).mono fun k ⟨e1, e2⟩ => ?_)
        rw [impl_TreeExpr_partsOk.eq]
        by_cases hM : IsName e.mod <;> by_cases hn : e.name = E0 <;> simp [k7, h0, hm, hn, e1, e2, hv, NodeOk, hi, hM] <;> simp_all
    · refine Gives.mk l1 (c1.mono fun k e1 => ?_)
      rw [impl_TreeExpr_partsOk.eq]
      by_cases hn : e.name = E0 <;> simp [k7, h0, hn, e1, hv, NodeOk, hi] <;> simp_all
  refine Gives.mk (Lh.refl σ) (Ev.now fun k => ?_)
  rw [impl_TreeExpr_partsOk.eq]
  by_cases k8 : e.kind = 8 <;> by_cases hm : e.mod = E0 <;> by_cases hn : e.name = E0 <;> simp [k1, k2, k3, k4, k5, k6, k7, k8, h0, hm, hn, hv, NodeOk]
theorem l2Plain_runs {σ : Heap} {n1 n2 : Int} {s3 s4 : ByteArray} {a5 : V} (b6 b7 b8 : Bool) : Runs G n_spec_l2Plain [.agg [.int .i64 n1, .int .i64 n2, .str s3, .str s4, a5], .bool b6, .bool b7, .bool b8] σ (.bool (decide ((b6 = true ∨ n2 = 0) ∧ (b7 = true ∨ s3 = E0) ∧ (b8 = true ∨ s4 = E0)))) σ := Runs.mk (Ev.now fun k => by
  rw [spec_l2Plain.eq]
  cases b6 <;> cases b7 <;> cases b8 <;> by_cases h1 : n2 = 0 <;> by_cases h2 : s3 = E0 <;> simp [h1, h2])
theorem l2Node_gives {σ : Heap} {e : TreeExpr} (hf : e.Fit) {cs : List V} (hr : TreeExpr.Rep σ cs e) : Gives G n_spec_l2Node [.agg cs] σ (.bool (decide (NodeOk e))) := by
  cases hf with
  | mk f0 f1 f2 f3 f4 f5 =>
  cases hr with
  | mk h =>
  rename_i a
  have hv := h.vlen
  obtain ⟨σ1, l1, c1⟩ := specLexName_gives σ e.name f2
  obtain ⟨σ2, l2, c2⟩ := specLexName_gives σ1 e.mod f3
  obtain ⟨σ5, l5, c5⟩ := specArity_gives σ e.name
  have c3 := l2Plain_runs (σ := σ) (n1 := e.kind) (n2 := e.num) (s3 := e.name) (s4 := e.mod) (a5 := a) true false false
  have c6 := l2Plain_runs (σ := σ) (n1 := e.kind) (n2 := e.num) (s3 := e.name) (s4 := e.mod) (a5 := a) false true false
  have c7 := l2Plain_runs (σ := σ) (n1 := e.kind) (n2 := e.num) (s3 := e.name) (s4 := e.mod) (a5 := a) false false false
  have c8 := l2Plain_runs (σ := σ) (n1 := e.kind) (n2 := e.num) (s3 := e.name) (s4 := e.mod) (a5 := a) false true true
  simp only [true_or, Bool.false_eq_true, false_or, true_and, and_true] at c3 c6 c7 c8
  have big : (e.num < 100000000000000000 ∧ -100000000000000000 < e.num) ↔ (-99999999999999999 ≤ e.num ∧ e.num ≤ 99999999999999999) := by omega
  have flag : (e.num = 0 ∨ e.num = 1) ↔ (0 ≤ e.num ∧ e.num ≤ 1) := by omega
  by_cases k1 : e.kind = 1
  · refine Gives.mk (Lh.refl σ) (c3.mono fun k e3 => ?_)
    have hN : NodeOk e ↔ ((e.kids.length : Int) = 0 ∧ e.name = E0 ∧ e.mod = E0 ∧ (e.num < 100000000000000000 ∧ -100000000000000000 < e.num)) := by rw [big]; simp [NodeOk, k1]
    rw [spec_l2Node.eq]
    simp only [hv, Option.bind_some, e3, castBool_bool]
    by_cases hl : e.kids = [] <;> by_cases hn : e.name = E0 <;> by_cases hm : e.mod = E0 <;> by_cases hs : e.num < 100000000000000000 <;> simp [k1, hl, hn, hm, hs, hN]
  by_cases k2 : e.kind = 2
  · refine Gives.mk (Lh.refl σ) (c3.mono fun k e3 => ?_)
    have hN : NodeOk e ↔ ((e.kids.length : Int) = 0 ∧ e.name = E0 ∧ e.mod = E0 ∧ (e.num = 0 ∨ e.num = 1)) := by rw [flag]; simp [NodeOk, k2]
    rw [spec_l2Node.eq]
    simp only [hv, Option.bind_some, e3, castBool_bool]
    by_cases hl : e.kids = [] <;> by_cases hn : e.name = E0 <;> by_cases hm : e.mod = E0 <;> by_cases hs : e.num = 0 <;> simp [k2, hl, hn, hm, hs, hN]
  by_cases k3 : e.kind = 3
  · have hN : NodeOk e ↔ ((e.kids.length : Int) = 0 ∧ (e.num = 0 ∧ e.mod = E0) ∧ IsName e.name) := by simp [NodeOk, k3, and_assoc]
    by_cases hl : e.kids = []
    · by_cases hp : e.num = 0 ∧ e.mod = E0
      · refine Gives.mk l1 ((c6.and c1).mono fun k ⟨e6, e1⟩ => ?_)
        rw [spec_l2Node.eq]
        simp only [hv, Option.bind_some, e6, castBool_bool, e1]
        simp [k3, hl, hp, hN]
      · refine Gives.mk (Lh.refl σ) (c6.mono fun k e6 => ?_)
        rw [spec_l2Node.eq]
        simp only [hv, Option.bind_some, e6, castBool_bool]
        simp [k3, hl, hp, hN]
    · refine Gives.mk (Lh.refl σ) (Ev.now fun k => ?_)
      rw [spec_l2Node.eq]
      simp [hv, k3, hl, hN]
  by_cases k4 : e.kind = 4
  · have hN : NodeOk e ↔ ((e.num = 0 ∧ e.mod = E0) ∧ (e.kids.length : Int) = arity e.name) := by simp [NodeOk, k4, and_assoc]
    by_cases hp : e.num = 0 ∧ e.mod = E0
    · refine Gives.mk l5 ((c6.and c5).mono fun k ⟨e6, e5⟩ => ?_)
      rw [spec_l2Node.eq]
      simp only [hv, Option.bind_some, e6, castBool_bool, e5, castInt_int]
      simp [k4, hp, hN]
    · refine Gives.mk (Lh.refl σ) (c6.mono fun k e6 => ?_)
      rw [spec_l2Node.eq]
      simp only [hv, Option.bind_some, e6, castBool_bool]
      simp [k4, hp, hN]
  by_cases k5 : e.kind = 5
  · have hN : NodeOk e ↔ ((e.kids.length : Int) = 3 ∧ (e.num = 0 ∧ e.name = E0 ∧ e.mod = E0)) := by simp [NodeOk, k5]
    refine Gives.mk (Lh.refl σ) (c7.mono fun k e7 => ?_)
    rw [spec_l2Node.eq]
    simp only [hv, Option.bind_some, e7, castBool_bool]
    by_cases hl : (e.kids.length : Int) = 3 <;> by_cases hp : e.num = 0 ∧ e.name = E0 ∧ e.mod = E0 <;> simp [k5, hl, hp, hN]
  by_cases k6 : e.kind = 6
  · have hN : NodeOk e ↔ ((e.kids.length : Int) = 2 ∧ (e.num = 0 ∧ e.mod = E0) ∧ IsName e.name) := by simp [NodeOk, k6, and_assoc]
    by_cases hl : (e.kids.length : Int) = 2
    · by_cases hp : e.num = 0 ∧ e.mod = E0
      · refine Gives.mk l1 ((c6.and c1).mono fun k ⟨e6, e1⟩ => ?_)
        rw [spec_l2Node.eq]
        simp only [hv, Option.bind_some, e6, castBool_bool, e1]
        simp [k6, hl, hp, hN]
      · refine Gives.mk (Lh.refl σ) (c6.mono fun k e6 => ?_)
        rw [spec_l2Node.eq]
        simp only [hv, Option.bind_some, e6, castBool_bool]
        simp [k6, hl, hp, hN]
    · refine Gives.mk (Lh.refl σ) (Ev.now fun k => ?_)
      rw [spec_l2Node.eq]
      simp [hv, k6, hl, hN]
  by_cases k7 : e.kind = 7
  · have hN : NodeOk e ↔ ((e.kids.length : Int) ≤ 4 ∧ e.num = 0 ∧ IsName e.name ∧ (e.mod = E0 ∨ IsName e.mod)) := by simp [NodeOk, k7]
    by_cases hl : (e.kids.length : Int) ≤ 4
    · by_cases hp : e.num = 0
      · by_cases hi : IsName e.name
        · by_cases hm : e.mod = E0
          · refine Gives.mk l1 ((c8.and c1).mono fun k ⟨e8, e1⟩ => ?_)
            rw [spec_l2Node.eq]
            simp only [hv, Option.bind_some, e8, castBool_bool, e1]
            simp [k7, hl, hp, hN, hi, hm]
          · refine Gives.mk (l1.trans l2) ((c8.and (c1.and c2)).mono fun k ⟨e8, e1, e2⟩ => ?_)
            rw [spec_l2Node.eq]
            simp only [hv, Option.bind_some, e8, castBool_bool, e1, e2]
            simp [k7, hl, hp, hN, hi, hm]
        · refine Gives.mk l1 ((c8.and c1).mono fun k ⟨e8, e1⟩ => ?_)
          rw [spec_l2Node.eq]
          simp only [hv, Option.bind_some, e8, castBool_bool, e1]
          simp [k7, hl, hp, hN, hi]
      · refine Gives.mk (Lh.refl σ) (c8.mono fun k e8 => ?_)
        rw [spec_l2Node.eq]
        simp only [hv, Option.bind_some, e8, castBool_bool]
        simp [k7, hl, hp, hN]
    · refine Gives.mk (Lh.refl σ) (Ev.now fun k => ?_)
      rw [spec_l2Node.eq]
      simp [hv, k7, hl, hN]
  refine Gives.mk (Lh.refl σ) (c7.mono fun k e7 => ?_)
  rw [spec_l2Node.eq]
  simp only [hv, Option.bind_some, e7, castBool_bool]
  by_cases k8 : e.kind = 8 <;> by_cases hl : (e.kids.length : Int) ≤ 8 <;> by_cases hp : e.num = 0 ∧ e.name = E0 ∧ e.mod = E0 <;> simp [k1, k2, k3, k4, k5, k6, k7, k8, hl, hp, NodeOk]
end Go.D

/- Right expressions, all through. -/
set_option linter.unusedVariables false
set_option linter.unusedSimpArgs false
namespace Go.D
open Go.HM Go.Proofs
inductive Right : TreeExpr → Prop where
  | mk {e : TreeExpr} : NodeOk e → (∀ x, x ∈ e.kids → Right x) → Right e
theorem right_iff (e : TreeExpr) : Right e ↔ NodeOk e ∧ ∀ x, x ∈ e.kids → Right x := ⟨fun h => by cases h with | mk a b => exact ⟨a, b⟩, fun h => .mk h.1 h.2⟩
noncomputable instance (e : TreeExpr) : Decidable (Right e) := Classical.propDecidable _
noncomputable def has {α : Type} (P : α → Prop) (l : List α) : Bool := @decide (∃ x, x ∈ l ∧ P x) (Classical.propDecidable _)
theorem has_true {α : Type} {P : α → Prop} {l : List α} : has P l = true ↔ ∃ x, x ∈ l ∧ P x := by simp [has]
theorem has_false {α : Type} {P : α → Prop} {l : List α} : has P l = false ↔ ∀ x, x ∈ l → ¬ P x := by simp [has]
theorem containsExpr_gives {σ : Heap} {v : V} {l : List TreeExpr} (hf : l.length ≤ 9223372036854775807) (h : RepS 5 (TreeExpr.Rep σ) σ v l) (f : FuncId) (P : TreeExpr → Prop)
    (hx : ∀ x, x ∈ l → ∀ σ cs, TreeExpr.Rep σ cs x → ∃ b, (b = true ↔ P x) ∧ Gives G f [.agg cs] σ (.bool b)) : Gives G n_slices_ContainsFunc_impl_TreeExpr_impl_TreeExpr [v, .fn f []] σ (.bool (has P l)) := by
  obtain ⟨w, σ', ⟨hl, n, hn, rfl⟩, he⟩ := loop (L := slices_IndexFunc_impl_TreeExpr_impl_TreeExpr.L0) (A := slices_IndexFunc_impl_TreeExpr_impl_TreeExpr.A0) (S := Nat × Heap)
    (Inv := fun s => s.1 ≤ l.length ∧ Lh σ s.2 ∧ ∀ x, x ∈ l.take s.1 → ¬ P x) (Good := fun w σ' => Lh σ σ' ∧ ∃ n : Int, (0 ≤ n ↔ ∃ x, x ∈ l ∧ P x) ∧ w = .int .i64 n)
    (vals := fun s => [.v v, .v (.fn f []), .v (.int .i64 (l.length : Int)), .v (.int .i64 (s.1 : Int))]) (hp := fun s => s.2) (far := fun s => l.length - s.1) (fun ⟨i, σi⟩ ⟨hi, hle, hok⟩ => by
      simp only at hi hle hok ⊢
      have hle' : RepS 5 (TreeExpr.Rep σi) σi v l := h.mono hle fun cs x _ hc => TreeExpr.Rep.le hle x hc
      by_cases hlt : i < l.length
      · obtain ⟨r, o, hv, cs, hr, hP⟩ := hle'.at hlt
        have hm : l[i] ∈ l := List.getElem_mem hlt
        obtain ⟨b, hb, σ1, l1, c1⟩ := hx _ hm σi cs hP
        have ht := take_next hlt
        generalize l[i] = x at hP hm hb ht
        cases hP with
        | mk hk =>
        have hw : IntKind.wrap .i64 ((i : Int) + 1) = ((i + 1 : Nat) : Int) := wrap_id (by omega) (by omega)
        cases b with
        | true =>
          refine .inl ⟨.int .i64 (i : Int), σ1, ⟨hle.trans l1, (i : Int), ?_, rfl⟩, c1.mono fun k e1 m => ?_⟩
          · exact ⟨fun _ => ⟨x, hm, hb.1 rfl⟩, fun _ => by omega⟩
          · rw [slices_IndexFunc_impl_TreeExpr_impl_TreeExpr.L0_step]
            simp [hlt, hv, hr, e1, slices_IndexFunc_impl_TreeExpr_impl_TreeExpr.A0_ret]
        | false =>
          refine .inr ⟨(i + 1, σ1), ⟨hlt, hle.trans l1, fun y hy => ?_⟩, by simp only; omega, c1.mono fun k e1 m => ?_⟩
          · rw [ht] at hy
            rcases List.mem_append.1 hy with h1 | h1
            · exact hok y h1
            · simp at h1; rw [h1]; intro hc; have := hb.2 hc; cases this
          · rw [slices_IndexFunc_impl_TreeExpr_impl_TreeExpr.L0_step]
            simp [hlt, hv, hr, e1]
            rw [hw]
            rfl
      · refine .inl ⟨.int .i64 (-1), σi, ⟨hle, -1, ?_, rfl⟩, Ev.now fun k m => ?_⟩
        · rw [List.take_of_length_le (by omega)] at hok
          simp
          exact hok
        · rw [slices_IndexFunc_impl_TreeExpr_impl_TreeExpr.L0_step]
          simp [hlt, slices_IndexFunc_impl_TreeExpr_impl_TreeExpr.A0_x0]) (0, σ) ⟨Nat.zero_le _, Lh.refl _, fun x hx => by simp at hx⟩
  have c2 : Runs G n_slices_IndexFunc_impl_TreeExpr_impl_TreeExpr [v, .fn f []] σ (.int .i64 n) σ' := Runs.mk ((Ev.far l.length he).mono fun k ⟨e, hk⟩ => by
    rw [slices_IndexFunc_impl_TreeExpr_impl_TreeExpr.eq, h.vlen]
    exact e k (by simpa using hk))
  refine Gives.mk hl (c2.mono fun k e => ?_)
  rw [slices_ContainsFunc_impl_TreeExpr_impl_TreeExpr.eq, e]
  have : has P l = decide (0 ≤ n) := by
    by_cases h0 : 0 ≤ n
    · rw [has_true.2 (hn.1 h0)]; simp [h0]
    · rw [has_false.2 fun x hx hp => h0 (hn.2 ⟨x, hx, hp⟩)]; simp [h0]
  rw [this]
  rfl
theorem fit_kids {e : TreeExpr} (h : e.Fit) : e.kids.length ≤ 9223372036854775807 ∧ ∀ x, x ∈ e.kids → x.Fit := by cases h with | mk f0 f1 f2 f3 f4 f5 => exact ⟨f4, f5⟩
theorem isRight_gives (e : TreeExpr) (hf : e.Fit) {σ : Heap} {cs : List V} (hr : TreeExpr.Rep σ cs e) : Gives G n_impl_TreeExpr_isRight [.agg cs] σ (.bool (decide (Right e))) := by
  have ih : ∀ x, x ∈ e.kids → ∀ σ cs, TreeExpr.Rep σ cs x → ∃ b, (b = true ↔ ¬ Right x) ∧ Gives G n_impl_TreeExpr_isRight_1 [.agg cs] σ (.bool b) := fun x hx σ cs hr => by
    obtain ⟨σ1, l1, c1⟩ := isRight_gives x ((fit_kids hf).2 x hx) hr
    refine ⟨!decide (Right x), by simp, Gives.mk l1 (c1.mono fun k e1 => ?_)⟩
    cases hr with
    | mk hk =>
    rw [impl_TreeExpr_isRight_1.eq, e1]
    rfl
  obtain ⟨σ1, l1, c1⟩ := partsOk_gives hf hr
  cases hr with
  | mk h =>
  rename_i a
  by_cases hn : NodeOk e
  · obtain ⟨σ2, l2, c2⟩ := containsExpr_gives (fit_kids hf).1 (h.mono l1 fun cs x _ hc => TreeExpr.Rep.le l1 x hc) n_impl_TreeExpr_isRight_1 (fun x => ¬ Right x) ih
    refine Gives.mk (l1.trans l2) ((c1.and c2).mono fun k ⟨e1, e2⟩ => ?_)
    rw [impl_TreeExpr_isRight.eq, e1]
    simp only [Option.bind_some, castBool_bool, hn, decide_true, cond_true, e2]
    have : (!has (fun x => ¬ Right x) e.kids) = decide (Right e) := by
      by_cases hr : Right e
      · rw [has_false.2 fun x hx hp => hp (((right_iff e).1 hr).2 x hx)]; simp [hr]
      · have : has (fun x => ¬ Right x) e.kids = true := Classical.byContradiction fun hc => hr (.mk hn fun x hx => Classical.byContradiction fun hp => hc (has_true.2 ⟨x, hx, hp⟩))
        rw [this]; simp [hr]
    rw [this]
  · refine Gives.mk l1 (c1.mono fun k e1 => ?_)
    have : ¬ Right e := fun hr => hn ((right_iff e).1 hr).1
    rw [impl_TreeExpr_isRight.eq, e1]
    simp [hn, this]
termination_by SizeOf.sizeOf e
decreasing_by
  cases e
  have := List.sizeOf_lt_of_mem hx
  simp at this ⊢
  omega
theorem exprOk_gives (e : TreeExpr) (hf : e.Fit) (ht : e.total ≤ 1048576) {σ : Heap} {cs : List V} (hr : TreeExpr.Rep σ cs e) : ∃ b, (b = true ↔ e.many ≤ 150 ∧ e.deep ≤ 16 ∧ Right e) ∧ Gives G n_impl_exprOk [.agg cs] σ (.bool b) := by
  have c1 := implTreeNodes_runs e ht hr
  obtain ⟨σ2, l2, c2⟩ := isRight_gives e hf hr
  cases hr with
  | mk h =>
  by_cases h1 : e.many ≤ 150
  · by_cases h2 : e.deep ≤ 16
    · refine ⟨decide (Right e), by simp [h1, h2], Gives.mk l2 ((c1.and c2).mono fun k ⟨e1, e2⟩ => ?_)⟩
      have h1' : (e.many : Int) ≤ 150 := by omega
      have h2' : (e.deep : Int) ≤ 16 := by omega
      rw [impl_exprOk.eq]
      simp only [e1, Option.bind_some, castTuple_tuple, uncons_cons, castInt_int, isNil_nil, h1', h2', decide_true, cond_true, e2, castBool_bool]
    · refine ⟨false, by simp [h2], Gives.mk (Lh.refl σ) (c1.mono fun k e1 => ?_)⟩
      have h1' : (e.many : Int) ≤ 150 := by omega
      have h2' : ¬ (e.deep : Int) ≤ 16 := by omega
      rw [impl_exprOk.eq]
      simp only [e1, Option.bind_some, castTuple_tuple, uncons_cons, castInt_int, isNil_nil, h1', h2', decide_true, cond_true, decide_false, cond_false]
  · refine ⟨false, by simp [h1], Gives.mk (Lh.refl σ) (c1.mono fun k e1 => ?_)⟩
    have h1' : ¬ (e.many : Int) ≤ 150 := by omega
    rw [impl_exprOk.eq]
    simp only [e1, Option.bind_some, castTuple_tuple, uncons_cons, castInt_int, isNil_nil, h1', decide_false, cond_false]
theorem l2Expr_gives (e : TreeExpr) (hf : e.Fit) {σ : Heap} {cs : List V} (hr : TreeExpr.Rep σ cs e) : Gives G n_spec_l2Expr [.agg cs] σ (.bool (decide (Right e))) := by
  have ih : ∀ x, x ∈ e.kids → ∀ σ cs, TreeExpr.Rep σ cs x → Gives G n_spec_l2Expr [.agg cs] σ (.bool (decide (Right x))) := fun x hx σ cs hr => l2Expr_gives x ((fit_kids hf).2 x hx) hr
  obtain ⟨σ1, l1, c1⟩ := l2Node_gives hf hr
  have hlen := (fit_kids hf).1
  cases hr with
  | mk h =>
  rename_i a
  by_cases hn : NodeOk e
  · obtain ⟨w, σ', ⟨hl, rfl⟩, he⟩ := loop (L := spec_l2Expr.L0) (A := spec_l2Expr.A0) (S := Nat × Heap)
      (Inv := fun s => s.1 ≤ e.kids.length ∧ Lh σ s.2 ∧ ∀ x, x ∈ e.kids.take s.1 → Right x) (Good := fun w σ' => Lh σ σ' ∧ w = .bool (decide (Right e)))
      (vals := fun s => [.box [.int .i64 e.kind, .int .i64 e.num, .str e.name, .str e.mod, a], .v (.int .i64 (s.1 : Int))]) (hp := fun s => s.2) (far := fun s => e.kids.length - s.1) (fun ⟨i, σi⟩ ⟨hi, hle, hok⟩ => by
        simp only at hi hle hok ⊢
        have hle' : RepS 5 (TreeExpr.Rep σi) σi a e.kids := h.mono hle fun cs x _ hc => TreeExpr.Rep.le hle x hc
        by_cases hlt : i < e.kids.length
        · obtain ⟨r, o, hv, cs, hr, hP⟩ := hle'.at hlt
          have hm : e.kids[i] ∈ e.kids := List.getElem_mem hlt
          obtain ⟨σ2, l2, c2⟩ := ih _ hm σi cs hP
          have ht := take_next hlt
          generalize e.kids[i] = x at hP hm ht c2
          cases hP with
          | mk hk =>
          have hw : IntKind.wrap .i64 ((i : Int) + 1) = ((i + 1 : Nat) : Int) := wrap_id (by omega) (by omega)
          by_cases hR : Right x
          · refine .inr ⟨(i + 1, σ2), ⟨hlt, hle.trans l2, fun y hy => ?_⟩, by simp only; omega, c2.mono fun k e1 m => ?_⟩
            · rw [ht] at hy
              rcases List.mem_append.1 hy with h1 | h1
              · exact hok y h1
              · simp at h1; rw [h1]; exact hR
            · rw [spec_l2Expr.L0_step, hle'.vlen]
              simp [hlt, hv, hr, e1, hR]
              rw [hw]
              rfl
          · refine .inl ⟨_, σ2, ⟨hle.trans l2, rfl⟩, c2.mono fun k e1 m => ?_⟩
            have : ¬ Right e := fun hc => hR (((right_iff e).1 hc).2 x hm)
            rw [spec_l2Expr.L0_step, hle'.vlen]
            simp [hlt, hv, hr, e1, hR, spec_l2Expr.A0_ret, this]
        · refine .inl ⟨_, σi, ⟨hle, rfl⟩, Ev.now fun k m => ?_⟩
          rw [List.take_of_length_le (by omega)] at hok
          have : Right e := .mk hn hok
          rw [spec_l2Expr.L0_step, hle'.vlen]
          simp [hlt, spec_l2Expr.A0_x0, this]) (0, σ1) ⟨Nat.zero_le _, l1, fun x hx => by simp at hx⟩
    refine Gives.mk hl ((Ev.and c1 (Ev.far e.kids.length he)).mono fun k ⟨e1, e2, hk⟩ => ?_)
    rw [spec_l2Expr.eq]
    simp only [e1, Option.bind_some, castBool_bool, hn, decide_true, Bool.not_true, cond_false]
    exact e2 k (by simpa using hk)
  · refine Gives.mk l1 (c1.mono fun k e1 => ?_)
    have : ¬ Right e := fun hr => hn ((right_iff e).1 hr).1
    rw [spec_l2Expr.eq]
    simp [e1, hn, this]
termination_by SizeOf.sizeOf e
decreasing_by
  cases e
  have := List.sizeOf_lt_of_mem hx
  simp at this ⊢
  omega
end Go.D

/- Texts as lists of bytes. -/
set_option linter.unusedVariables false
set_option linter.unusedSimpArgs false
namespace Go.D
open Go.HM Go.Proofs
def ba (l : List UInt8) : ByteArray := ⟨l.toArray⟩
theorem ba_app (l : List UInt8) (s : ByteArray) : ba l ++ s = ba (l ++ s.data.toList) := by
  obtain ⟨⟨d⟩⟩ := s
  apply ByteArray.ext
  rw [ByteArray.data_append]
  simp [ba]
theorem ba_size (l : List UInt8) : (ba l).size = l.length := by simp [ba, ByteArray.size]
theorem ba_self (s : ByteArray) : s = ba s.data.toList := by
  obtain ⟨⟨d⟩⟩ := s
  rfl
theorem ba_list (s : ByteArray) : s.data.toList.length = s.size := by simp
theorem fitB {α : Type} (L M : List UInt8) (x y : α) (h : L.length + M.length ≤ 4611686018427387904) : (if (ba L).size + (ba M).size ≤ 2 ^ 62 then x else y) = x := by
  have e62 : (2 : Nat) ^ 62 = 4611686018427387904 := by decide
  rw [if_pos (by rw [ba_size, ba_size, e62]; exact h)]
theorem ba2 (L M : List UInt8) : ba L ++ ba M = ba (L ++ M) := ba_app L (ba M)
theorem mk_ba (L : List UInt8) : (⟨L.toArray⟩ : ByteArray) = ba L := rfl
theorem ba_inj {L M : List UInt8} : ba L = ba M ↔ L = M := ⟨fun h => congrArg (fun s : ByteArray => s.data.toList) h, fun h => by rw [h]⟩
def catL {α : Type} (f : α → List UInt8) (l : List α) (i : Nat) : List UInt8 := ((l.take i).map f).flatten
theorem catL_zero {α : Type} (f : α → List UInt8) (l : List α) : catL f l 0 = [] := by simp [catL]
theorem catL_next {α : Type} {f : α → List UInt8} {l : List α} {i : Nat} {x : α} (h : l[i]? = some x) : catL f l (i + 1) = catL f l i ++ f x := by
  unfold catL
  rw [take_next' h, List.map_append, List.flatten_append]
  simp
theorem catL_len {α : Type} {f : α → List UInt8} {g : α → Nat} {l : List α} (h : ∀ x, x ∈ l → (f x).length ≤ g x) : ∀ i, i ≤ l.length → (catL f l i).length ≤ totS g (l.take i)
  | 0, _ => by simp [catL]
  | i + 1, hi => by
    have hx : l[i]? = some (l[i]'(by omega)) := List.getElem?_eq_getElem (by omega)
    have ih := catL_len h i (by omega)
    have hm := h _ (List.mem_of_getElem? hx)
    have hs : totS g (l.take (i + 1)) = totS g (l.take i) + g (l[i]'(by omega)) := by rw [take_next' hx, totS_append]; simp [totS]
    rw [catL_next hx, List.length_append]
    omega
end Go.D

/- LexNum: the program's and the reference's. -/
set_option linter.unusedVariables false
set_option linter.unusedSimpArgs false
namespace Go.D
open Go.HM Go.Proofs
/-- What strconv's variables hold. -/
structure NumV (σ : Heap) : Prop where
  tab : σ[g_uint64pow10]? = some (some ⟨Lib.pow10Tab.map fun z => .int .u64 z, 1, true, 0⟩)
  es : ∃ tp x, σ[g_ErrSyntax]? = some (some ⟨[.iface tp x], 1, true, 0⟩)
  er : ∃ tp x, σ[g_ErrRange]? = some (some ⟨[.iface tp x], 1, true, 0⟩)
theorem NumV.le {σ σ' : Heap} (hl : Lh σ σ') (h : NumV σ) : NumV σ' := ⟨hl.row _ _ h.tab, let ⟨tp, x, e⟩ := h.es; ⟨tp, x, hl.row _ _ e⟩, let ⟨tp, x, e⟩ := h.er; ⟨tp, x, hl.row _ _ e⟩⟩
theorem itoa_runs {σ : Heap} (h : σ[g_uint64pow10]? = some (some ⟨Lib.pow10Tab.map fun z => .int .u64 z, 1, true, 0⟩)) {n : Int} (h0 : -9223372036854775808 ≤ n) (h1 : n ≤ 9223372036854775807) : Runs G n_strconv_Itoa [.int .i64 n] σ (.str ⟨(Lib.itoa n).toArray⟩) σ := by
  refine hook_runs (h := hkItoa g_uint64pow10) rfl ?_
  unfold hkItoa
  exact if_pos ⟨⟨h0, h1⟩, h⟩
theorem ba_toList (s : ByteArray) (l : List UInt8) : ((⟨l.toArray⟩ : ByteArray) = s) ↔ l = s.data.toList := by
  obtain ⟨⟨d⟩⟩ := s
  constructor
  · intro h
    injection h with h
    injection h
  · intro h
    rw [h]
theorem decimal_ends {σ : Heap} (hv : NumV σ) {s : ByteArray} (hs : s.size ≤ 1048576) : HM.Ends G n_impl_decimal [.str s] σ (fun w σ' => Lh σ σ' ∧ ∃ n b, w = .tuple [.int .i64 n, .bool b] ∧
    ((b = false ∧ numI s.data.toList = (0, false) ∨ b = true ∧ Lib.atoiAll s.data.toList = .ok n ∧ Lib.itoa n = s.data.toList))) := by
  refine HM.Ends.mk (W.to (fun k _ => impl_decimal.eq k _ _) ?_)
  have err : ∀ n : Int, ∀ T, Runs G n_strconv_Atoi [.str s] σ (.tuple [.int .i64 n, .iface T (.ptr σ.length 0)]) (hnew σ 3 []) → numI s.data.toList = (0, false) → W (ι := Unit) (fun w σ' => Lh σ σ' ∧ ∃ n b, w = .tuple [.int .i64 n, .bool b] ∧
    ((b = false ∧ numI s.data.toList = (0, false) ∨ b = true ∧ Lib.atoiAll s.data.toList = .ok n ∧ Lib.itoa n = s.data.toList))) (fun _ => False) (fun k _ => ((hcall G k n_strconv_Atoi [.str s] σ).bind fun q2 => castTuple q2.1 fun l3 => uncons l3 fun c4 l5 => castInt .i64 c4 fun n6 => uncons l5 fun c7 l8 => isNil l8 <| (nilI c7).bind fun b9 => bif b9 then ((hcall G k n_strconv_Itoa [.int .i64 n6] q2.2).bind fun q10 => castStr q10.1 fun s11 => some (.tuple [.int .i64 n6, .bool (decide (s11 = s))], q10.2)) else (some (.tuple [.int .i64 n6, .bool false], q2.2)))) := fun n T hr hz => by
    refine W.run hr ?_
    try simp only [q_bind_some, castInt_int, q_castBool, q_castStr, q_castPtr, q_castFn, q_castAgg, q_castTuple, q_uncons, q_isNil, q_sl, q_nils, q_emp, q_ptr, q_nilp, q_fn, q_cond_true, q_cond_false, Bool.not_true, Bool.not_false, decide_true, decide_false, List.cons_append, List.nil_append, nilI]
    exact W.ret ⟨Lh.new _ _ _, _, _, rfl, .inl ⟨rfl, hz⟩⟩
  have h3 : (∃ n, Lib.atoiAll s.data.toList = .ok n) ∨ Lib.atoiAll s.data.toList = .range ∨ Lib.atoiAll s.data.toList = Lib.NumEnd.ofOption none := by
    cases Lib.atoiAll s.data.toList with
    | ok n => exact .inl ⟨n, rfl⟩
    | range => exact .inr (.inl rfl)
    | _ => exact .inr (.inr rfl)
  rcases h3 with ⟨n, ha⟩ | ha | ha
  · have hb := Lib.atoiAll_bounds ha
    have hr : Runs G n_strconv_Atoi [.str s] σ (.tuple [.int .i64 n, .nili]) σ := by
      refine hook_runs (h := hkAtoi g_ErrSyntax g_ErrRange _) rfl ?_
      unfold hkAtoi
      simp only
      rw [if_pos (by omega), ha]
    refine W.run hr ?_
    try simp only [q_bind_some, castInt_int, q_castBool, q_castStr, q_castPtr, q_castFn, q_castAgg, q_castTuple, q_uncons, q_isNil, q_sl, q_nils, q_emp, q_ptr, q_nilp, q_fn, q_cond_true, q_cond_false, Bool.not_true, Bool.not_false, decide_true, decide_false, List.cons_append, List.nil_append, nilI]
    refine W.run (itoa_runs hv.tab hb.1 hb.2) ?_
    try simp only [q_bind_some, castInt_int, q_castBool, q_castStr, q_castPtr, q_castFn, q_castAgg, q_castTuple, q_uncons, q_isNil, q_sl, q_nils, q_emp, q_ptr, q_nilp, q_fn, q_cond_true, q_cond_false, Bool.not_true, Bool.not_false, decide_true, decide_false, List.cons_append, List.nil_append]
    refine W.ret ⟨Lh.refl _, _, _, rfl, ?_⟩
    by_cases he : Lib.itoa n = s.data.toList
    · exact .inr ⟨decide_eq_true ((ba_toList _ _).2 he), ha, he⟩
    · refine .inl ⟨decide_eq_false (fun hc => he ((ba_toList _ _).1 hc)), ?_⟩
      unfold numI
      rw [ha]
      simp only
      rw [if_neg (fun hc => he hc.1)]
  · refine err (Lib.atoiSat s.data.toList) tNumErr (hook_runs (h := hkAtoi g_ErrSyntax g_ErrRange tNumErr) rfl ?_) (by unfold numI; rw [ha])
    unfold hkAtoi
    simp only
    rw [if_pos (by omega), ha]
    simp only
    rw [if_pos hv.er]
  · simp only [Lib.NumEnd.ofOption] at ha
    refine err 0 tNumErr (hook_runs (h := hkAtoi g_ErrSyntax g_ErrRange tNumErr) rfl ?_) (by unfold numI; rw [ha])
    unfold hkAtoi
    simp only
    rw [if_pos (by omega), ha]
    simp only
    rw [if_pos hv.es]
theorem implLexNum_gives {σ : Heap} (hv : NumV σ) {s : ByteArray} (hs : s.size ≤ 1048576) : Gives G n_impl_LexNum [.str s] σ (.tuple [.int .i64 (numI s.data.toList).1, .bool (numI s.data.toList).2]) := by
  refine Gives.of (W.to (fun k _ => impl_LexNum.eq k _ _) ?_)
  obtain ⟨w, σ', ⟨hl, n, b, rfl, hb⟩, hr⟩ := decimal_ends hv hs
  refine W.run hr ?_
  rcases hb with ⟨rfl, hz⟩ | ⟨rfl, ha, hi⟩
  · try simp only [q_bind_some, castInt_int, q_castBool, q_castStr, q_castPtr, q_castFn, q_castAgg, q_castTuple, q_uncons, q_isNil, q_sl, q_nils, q_emp, q_ptr, q_nilp, q_fn, q_cond_true, q_cond_false, Bool.not_true, Bool.not_false, decide_true, decide_false, List.cons_append, List.nil_append]
    exact W.ret ⟨by rw [hz], hl⟩
  · try simp only [q_bind_some, castInt_int, q_castBool, q_castStr, q_castPtr, q_castFn, q_castAgg, q_castTuple, q_uncons, q_isNil, q_sl, q_nils, q_emp, q_ptr, q_nilp, q_fn, q_cond_true, q_cond_false, Bool.not_true, Bool.not_false, decide_true, decide_false, List.cons_append, List.nil_append]
    have hsh : Runs G n_impl_isShort [.int .i64 n] σ' (.bool (decide (-99999999999999999 ≤ n ∧ n ≤ 99999999999999999))) σ' := by
      refine Runs.of (W.to (fun k _ => impl_isShort.eq k _ _) ?_)
      refine W.run (inRange_runs _ _ _) ?_
      try simp only [q_bind_some, castInt_int, q_castBool, q_castStr, q_castPtr, q_castFn, q_castAgg, q_castTuple, q_uncons, q_isNil, q_sl, q_nils, q_emp, q_ptr, q_nilp, q_fn, q_cond_true, q_cond_false, Bool.not_true, Bool.not_false, decide_true, decide_false, List.cons_append, List.nil_append]
      exact W.ret ⟨rfl, rfl⟩
    refine W.run hsh ?_
    by_cases hx : -99999999999999999 ≤ n ∧ n ≤ 99999999999999999
    · try simp only [q_bind_some, castInt_int, q_castBool, q_castStr, q_castPtr, q_castFn, q_castAgg, q_castTuple, q_uncons, q_isNil, q_sl, q_nils, q_emp, q_ptr, q_nilp, q_fn, q_cond_true, q_cond_false, Bool.not_true, Bool.not_false, decide_true, decide_false, List.cons_append, List.nil_append, decide_eq_true hx]
      refine W.ret ⟨?_, hl⟩
      unfold numI
      rw [ha]
      simp only
      rw [if_pos ⟨hi, hx⟩]
    · have hf := decide_eq_false hx
      try simp only [q_bind_some, castInt_int, q_castBool, q_castStr, q_castPtr, q_castFn, q_castAgg, q_castTuple, q_uncons, q_isNil, q_sl, q_nils, q_emp, q_ptr, q_nilp, q_fn, q_cond_true, q_cond_false, Bool.not_true, Bool.not_false, decide_true, decide_false, List.cons_append, List.nil_append, hf]
      refine W.ret ⟨?_, hl⟩
      unfold numI
      rw [ha]
      simp only
      rw [if_neg (fun hc => hx hc.2)]
end Go.D

/- Numbers written in ten digits by the reference. -/
set_option linter.unusedVariables false
set_option linter.unusedSimpArgs false
namespace Go.D
open Go.HM Go.Proofs
theorem dec_next {m : Nat} (h : 9 < m) : Lib.decDigits m = Lib.decDigits (m / 10) ++ [UInt8.ofNat (48 + m % 10)] := by
  rw [Lib.decDigits, dif_neg (by omega)]
theorem push_ba (c : UInt8) : ByteArray.empty.push c = ba [c] := rfl
theorem l23Dec_loop {σ : Heap} (u : Nat) (hu : u ≤ 9223372036854775807) :
    W (ι := Unit) (fun w σ' => w = .str (ba (Lib.decDigits u)) ∧ Lh σ σ') (fun _ => False) (fun k _ => (spec_l23Dec.L0 k k [.v (.int .i64 (u : Int)), .v (.str (⟨#[]⟩ : ByteArray))] σ).bind (spec_l23Dec.A0 k)) := by
  have h0 : (⟨#[]⟩ : ByteArray) = ba [] := rfl
  have e62 : (2 : Nat) ^ 62 = 4611686018427387904 := by decide
  have hlen : (Lib.decDigits u).length ≤ 21 := by
    have := Lib.itoa_length_le (u : Int) (by omega) (by omega)
    unfold Lib.itoa at this
    rw [if_neg (by omega)] at this
    simpa using this
  rw [h0]
  refine W.loop (S := Nat × List UInt8) (fun s => s.1 ≤ u ∧ Lib.decDigits u = Lib.decDigits s.1 ++ s.2) (fun s => [.v (.int .i64 (s.1 : Int)), .v (.str (ba s.2))]) (fun _ => σ) (fun s => s.1) (fun ⟨m, L⟩ ⟨hm, hL⟩ => ?_)
    (u, []) ⟨Nat.le_refl _, by simp⟩
  simp only at hm hL ⊢
  have hl : L.length ≤ 21 := by
    have := congrArg List.length hL
    rw [List.length_append] at this
    omega
  refine W.to (fun k _ => by rw [spec_l23Dec.L0_step]) ?_
  refine B.ite (fun hlt => ?_) fun hlt => ?_
  · have hmm : 9 < m := by omega
    have h1 : Int.tmod (m : Int) 10 = ((m % 10 : Nat) : Int) := by rw [Int.tmod_eq_emod_of_nonneg (by omega)]; omega
    have h2 : Int.tdiv (m : Int) 10 = ((m / 10 : Nat) : Int) := by rw [Int.tdiv_eq_ediv_of_nonneg (by omega)]; omega
    have h3 : IntKind.wrap .u8 (IntKind.wrap .i64 (48 + ((m % 10 : Nat) : Int))) = ((48 + m % 10 : Nat) : Int) := by
      rw [wrap_id (by omega) (by omega)]
      have h4 : m % 10 < 10 := Nat.mod_lt _ (by omega)
      generalize m % 10 = d at h4
      have : d = 0 ∨ d = 1 ∨ d = 2 ∨ d = 3 ∨ d = 4 ∨ d = 5 ∨ d = 6 ∨ d = 7 ∨ d = 8 ∨ d = 9 := by omega
      rcases this with rfl | rfl | rfl | rfl | rfl | rfl | rfl | rfl | rfl | rfl <;> decide
    have h5 : IntKind.wrap .i64 ((m / 10 : Nat) : Int) = ((m / 10 : Nat) : Int) := wrap_id (by omega) (by omega)
    have z : (ba [UInt8.ofNat (48 + m % 10)]).size + (ba L).size ≤ 2 ^ 62 := by rw [ba_size, ba_size, e62]; simp only [List.length_cons, List.length_nil]; omega
    have d1 : ∀ L : List UInt8, (ba L).data.toList = L := fun L => rfl
    try simp only [q_bind_some, castInt_int, q_castBool, q_castStr, q_castPtr, q_castFn, q_castAgg, q_castTuple, q_uncons, q_isNil, q_sl, q_nils, q_emp, q_ptr, q_nilp, q_fn, q_cond_true, q_cond_false, Bool.not_true, Bool.not_false, decide_true, decide_false, List.cons_append, List.nil_append, h1, h2, h3, h5, bytesOf, Int.toNat_natCast, push_ba, z, if_true, ba_app, d1]
    exact W.again (m / 10, UInt8.ofNat (48 + m % 10) :: L) ⟨by show m / 10 ≤ u; omega, by rw [hL, dec_next hmm]; simp⟩ (by simp only; omega) rfl rfl
  · have hm9 : m < 10 := by omega
    have h3 : IntKind.wrap .u8 (IntKind.wrap .i64 (48 + (m : Int))) = ((48 + m : Nat) : Int) := by
      rw [wrap_id (by omega) (by omega)]
      have : m = 0 ∨ m = 1 ∨ m = 2 ∨ m = 3 ∨ m = 4 ∨ m = 5 ∨ m = 6 ∨ m = 7 ∨ m = 8 ∨ m = 9 := by omega
      rcases this with rfl | rfl | rfl | rfl | rfl | rfl | rfl | rfl | rfl | rfl <;> decide
    have z : (ba [UInt8.ofNat (48 + m)]).size + (ba L).size ≤ 2 ^ 62 := by rw [ba_size, ba_size, e62]; simp only [List.length_cons, List.length_nil]; omega
    have d1 : ∀ L : List UInt8, (ba L).data.toList = L := fun L => rfl
    try simp only [q_bind_some, castInt_int, q_castBool, q_castStr, q_castPtr, q_castFn, q_castAgg, q_castTuple, q_uncons, q_isNil, q_sl, q_nils, q_emp, q_ptr, q_nilp, q_fn, q_cond_true, q_cond_false, Bool.not_true, Bool.not_false, decide_true, decide_false, List.cons_append, List.nil_append, spec_l23Dec.A0_x0, h3, bytesOf, Int.toNat_natCast, push_ba, z, if_true, ba_app, d1]
    exact W.ret ⟨by rw [hL, Lib.decDigits_one hm9]; rfl, Lh.refl _⟩
theorem l23Dec_gives (σ : Heap) {n : Int} (h0 : -9223372036854775808 ≤ n) (h1 : n ≤ 9223372036854775807) : Gives G n_spec_l23Dec [.int .i64 n] σ (.str (ba (Lib.itoa n))) := by
  have pos : ∀ u : Nat, u ≤ 9223372036854775807 → Gives G n_spec_l23Dec [.int .i64 (u : Int)] σ (.str (ba (Lib.decDigits u))) := fun u hu => by
    refine Gives.of (W.to (fun k _ => spec_l23Dec.eq k _ _) ?_)
    refine W.ite (fun hc => by omega) fun _ => ?_
    refine W.ite (fun hc => by omega) fun _ => ?_
    exact l23Dec_loop u hu
  by_cases hn : n < 0
  rotate_left
  · obtain ⟨u, rfl⟩ : ∃ u : Nat, n = (u : Int) := ⟨n.toNat, by omega⟩
    rw [Lib.itoa_nonneg]
    exact pos u (by omega)
  have e62 : (2 : Nat) ^ 62 = 4611686018427387904 := by decide
  refine Gives.of (W.to (fun k _ => spec_l23Dec.eq k _ _) ?_)
  refine W.ite (fun hc => ?_) fun hc => ?_
  · obtain rfl : n = -9223372036854775808 := by omega
    refine W.ret ⟨?_, Lh.refl _⟩
    have : Lib.itoa (-9223372036854775808) = [45, 57, 50, 50, 51, 51, 55, 50, 48, 51, 54, 56, 53, 52, 55, 55, 53, 56, 48, 56] := by
      unfold Lib.itoa
      rw [if_pos (by omega)]
      show 45 :: Lib.decDigits 9223372036854775808 = _
      rw [dec_next (by decide), dec_next (by decide), dec_next (by decide), dec_next (by decide), dec_next (by decide), dec_next (by decide), dec_next (by decide), dec_next (by decide), dec_next (by decide), dec_next (by decide), dec_next (by decide), dec_next (by decide), dec_next (by decide), dec_next (by decide), dec_next (by decide), dec_next (by decide), dec_next (by decide), dec_next (by decide), Lib.decDigits_one (by decide)]
      decide
    rw [this]
    rfl
  obtain ⟨u, rfl⟩ : ∃ u : Nat, n = -(u : Int) := ⟨(-n).toNat, by omega⟩
  refine W.ite (fun _ => ?_) fun hc => by omega
  have hw : IntKind.wrap .i64 (0 - -(u : Int)) = (u : Int) := by rw [wrap_id (by omega) (by omega)]; omega
  try simp only [q_bind_some, castInt_int, q_castBool, q_castStr, q_castPtr, q_castFn, q_castAgg, q_castTuple, q_uncons, q_isNil, q_sl, q_nils, q_emp, q_ptr, q_nilp, q_fn, q_cond_true, q_cond_false, Bool.not_true, Bool.not_false, decide_true, decide_false, List.cons_append, List.nil_append, hw]
  refine W.give (pos u (by omega)) fun σ1 l1 => ?_
  have hlen : (Lib.decDigits u).length ≤ 21 := by
    have := Lib.itoa_length_le (u : Int) (by omega) (by omega)
    rw [Lib.itoa_nonneg] at this
    exact this
  have k1 : (⟨#[45]⟩ : ByteArray) = ba [45] := rfl
  have z : (ba [45]).size + (ba (Lib.decDigits u)).size ≤ 2 ^ 62 := by rw [ba_size, ba_size, e62]; simp only [List.length_cons, List.length_nil]; omega
  have d1 : ∀ L : List UInt8, (ba L).data.toList = L := fun L => rfl
  try simp only [q_bind_some, castInt_int, q_castBool, q_castStr, q_castPtr, q_castFn, q_castAgg, q_castTuple, q_uncons, q_isNil, q_sl, q_nils, q_emp, q_ptr, q_nilp, q_fn, q_cond_true, q_cond_false, Bool.not_true, Bool.not_false, decide_true, decide_false, List.cons_append, List.nil_append, k1, z, if_true, ba_app, d1]
  exact W.ret ⟨by rw [Lib.itoa_neg u (by omega)], l1⟩
end Go.D

/- The words of the types. -/
set_option linter.unusedVariables false
set_option linter.unusedSimpArgs false
namespace Go.D
open Go.HM Go.Proofs
/-- The variable holds the three words. -/
abbrev TypeW (σ : Heap) : Prop := σ[0]? = some (some ⟨[.str (⟨#[105, 110, 116]⟩ : ByteArray), .str (⟨#[98, 111, 111, 108]⟩ : ByteArray), .str (⟨#[114, 111, 119]⟩ : ByteArray)], 1, true, 0⟩)
def tword (n : Int) : ByteArray := if n = 1 then ⟨#[105, 110, 116]⟩ else if n = 2 then ⟨#[98, 111, 111, 108]⟩ else if n = 3 then ⟨#[114, 111, 119]⟩ else ⟨#[]⟩
theorem isTy_runs (a : Int) (σ : Heap) : Runs G n_impl_isType [.int .i64 a] σ (.bool (decide (1 ≤ a ∧ a ≤ 3))) σ := by
  refine Runs.of (W.to (fun k _ => impl_isType.eq k _ _) ?_)
  refine W.run (inRange_runs _ _ _) ?_
  try simp only [q_bind_some, castInt_int, q_castBool, q_castStr, q_castPtr, q_castFn, q_castAgg, q_castTuple, q_uncons, q_isNil, q_sl, q_nils, q_emp, q_ptr, q_nilp, q_fn, q_cond_true, q_cond_false, Bool.not_true, Bool.not_false, decide_true, decide_false, List.cons_append, List.nil_append]
  exact W.ret ⟨rfl, rfl⟩
theorem typeW_at {σ : Heap} (h : TypeW σ) : rdc σ 0 0 1 = some [.str ⟨#[105, 110, 116]⟩] ∧ rdc σ 0 1 1 = some [.str ⟨#[98, 111, 111, 108]⟩] ∧ rdc σ 0 2 1 = some [.str ⟨#[114, 111, 119]⟩] := by
  simp only [rdc, h]
  exact ⟨rfl, rfl, rfl⟩
theorem implTreeType_runs (a : Int) (σ : Heap) (h : TypeW σ) : Runs G n_impl_TreeType [.int .i64 a] σ (.str (tword a)) σ := by
  obtain ⟨t1, t2, t3⟩ := typeW_at h
  refine Runs.of (W.to (fun k _ => impl_TreeType.eq k _ _) ?_)
  refine W.run (isTy_runs _ _) ?_
  by_cases h1 : a = 1
  · subst h1
    try simp only [q_bind_some, castInt_int, q_castBool, q_castStr, q_castPtr, q_castFn, q_castAgg, q_castTuple, q_uncons, q_isNil, q_sl, q_nils, q_emp, q_ptr, q_nilp, q_fn, q_cond_true, q_cond_false, Bool.not_true, Bool.not_false, decide_true, decide_false, List.cons_append, List.nil_append, show IntKind.wrap .i64 ((1 : Int) - 1) = 0 by decide, show decide ((1 : Int) ≤ 1 ∧ (1 : Int) ≤ 3) = true from rfl, show ((0 : Int) ≤ 0 ∧ (0 : Int) < ((3 : Nat) : Int)) = True by simp, show 0 + (0 : Int).toNat * 1 = 0 from rfl, t1]
    exact W.ret ⟨rfl, rfl⟩
  by_cases h2 : a = 2
  · subst h2
    try simp only [q_bind_some, castInt_int, q_castBool, q_castStr, q_castPtr, q_castFn, q_castAgg, q_castTuple, q_uncons, q_isNil, q_sl, q_nils, q_emp, q_ptr, q_nilp, q_fn, q_cond_true, q_cond_false, Bool.not_true, Bool.not_false, decide_true, decide_false, List.cons_append, List.nil_append, show IntKind.wrap .i64 ((2 : Int) - 1) = 1 by decide, show decide ((1 : Int) ≤ 2 ∧ (2 : Int) ≤ 3) = true from rfl, show ((0 : Int) ≤ 1 ∧ (1 : Int) < ((3 : Nat) : Int)) = True by simp, show 0 + (1 : Int).toNat * 1 = 1 from rfl, t2]
    exact W.ret ⟨rfl, rfl⟩
  by_cases h3 : a = 3
  · subst h3
    try simp only [q_bind_some, castInt_int, q_castBool, q_castStr, q_castPtr, q_castFn, q_castAgg, q_castTuple, q_uncons, q_isNil, q_sl, q_nils, q_emp, q_ptr, q_nilp, q_fn, q_cond_true, q_cond_false, Bool.not_true, Bool.not_false, decide_true, decide_false, List.cons_append, List.nil_append, show IntKind.wrap .i64 ((3 : Int) - 1) = 2 by decide, show decide ((1 : Int) ≤ 3 ∧ (3 : Int) ≤ 3) = true from rfl, show ((0 : Int) ≤ 2 ∧ (2 : Int) < ((3 : Nat) : Int)) = True by simp, show 0 + (2 : Int).toNat * 1 = 2 from rfl, t3]
    exact W.ret ⟨rfl, rfl⟩
  have hn : decide (1 ≤ a ∧ a ≤ 3) = false := decide_eq_false (by omega)
  try simp only [q_bind_some, castInt_int, q_castBool, q_castStr, q_castPtr, q_castFn, q_castAgg, q_castTuple, q_uncons, q_isNil, q_sl, q_nils, q_emp, q_ptr, q_nilp, q_fn, q_cond_true, q_cond_false, Bool.not_true, Bool.not_false, decide_true, decide_false, List.cons_append, List.nil_append, hn]
  exact W.ret ⟨by rw [tword, if_neg h1, if_neg h2, if_neg h3], rfl⟩
theorem specTreeType_gives (a : Int) (σ : Heap) : Gives G n_spec_TreeType [.int .i64 a] σ (.str (tword a)) := by
  refine Gives.of (W.to (fun k _ => spec_TreeType.eq k _ _) ?_)
  by_cases h0 : a < 1
  · try simp only [q_bind_some, castInt_int, q_castBool, q_castStr, q_castPtr, q_castFn, q_castAgg, q_castTuple, q_uncons, q_isNil, q_sl, q_nils, q_emp, q_ptr, q_nilp, q_fn, q_cond_true, q_cond_false, Bool.not_true, Bool.not_false, decide_true, decide_false, List.cons_append, List.nil_append, decide_eq_true h0]
    exact W.ret ⟨by rw [tword, if_neg (by omega), if_neg (by omega), if_neg (by omega)], Lh.refl _⟩
  by_cases h4 : 3 < a
  · try simp only [q_bind_some, castInt_int, q_castBool, q_castStr, q_castPtr, q_castFn, q_castAgg, q_castTuple, q_uncons, q_isNil, q_sl, q_nils, q_emp, q_ptr, q_nilp, q_fn, q_cond_true, q_cond_false, Bool.not_true, Bool.not_false, decide_true, decide_false, List.cons_append, List.nil_append, decide_eq_false h0, decide_eq_true h4]
    exact W.ret ⟨by rw [tword, if_neg (by omega), if_neg (by omega), if_neg (by omega)], Lh.refl _⟩
  have hr : ∀ (x y z : V), rdc (hnew σ 1 [x, y, z]) σ.length 0 1 = some [x] ∧ rdc (hnew σ 1 [x, y, z]) σ.length 1 1 = some [y] ∧ rdc (hnew σ 1 [x, y, z]) σ.length 2 1 = some [z] := fun x y z => by simp [rdc, hnew]
  obtain ⟨t1, t2, t3⟩ := hr (.str (⟨#[105, 110, 116]⟩ : ByteArray)) (.str (⟨#[98, 111, 111, 108]⟩ : ByteArray)) (.str (⟨#[114, 111, 119]⟩ : ByteArray))
  have h123 : a = 1 ∨ a = 2 ∨ a = 3 := by omega
  rcases h123 with rfl | rfl | rfl
  · try simp only [q_bind_some, castInt_int, q_castBool, q_castStr, q_castPtr, q_castFn, q_castAgg, q_castTuple, q_uncons, q_isNil, q_sl, q_nils, q_emp, q_ptr, q_nilp, q_fn, q_cond_true, q_cond_false, Bool.not_true, Bool.not_false, decide_true, decide_false, List.cons_append, List.nil_append, show IntKind.wrap .i64 ((1 : Int) - 1) = 0 by decide, show decide ((1 : Int) < 1) = false from rfl, show decide ((3 : Int) < 1) = false from rfl, show ((0 : Int) ≤ 0 ∧ (0 : Int) < ((3 : Nat) : Int)) = True by simp, show 0 + (0 : Int).toNat * 1 = 0 from rfl, t1, vidx, if_true]
    exact W.ret ⟨rfl, Lh.new _ _ _⟩
  · try simp only [q_bind_some, castInt_int, q_castBool, q_castStr, q_castPtr, q_castFn, q_castAgg, q_castTuple, q_uncons, q_isNil, q_sl, q_nils, q_emp, q_ptr, q_nilp, q_fn, q_cond_true, q_cond_false, Bool.not_true, Bool.not_false, decide_true, decide_false, List.cons_append, List.nil_append, show IntKind.wrap .i64 ((2 : Int) - 1) = 1 by decide, show decide ((2 : Int) < 1) = false from rfl, show decide ((3 : Int) < 2) = false from rfl, show ((0 : Int) ≤ 1 ∧ (1 : Int) < ((3 : Nat) : Int)) = True by simp, show 0 + (1 : Int).toNat * 1 = 1 from rfl, t2, vidx, if_true]
    exact W.ret ⟨rfl, Lh.new _ _ _⟩
  · try simp only [q_bind_some, castInt_int, q_castBool, q_castStr, q_castPtr, q_castFn, q_castAgg, q_castTuple, q_uncons, q_isNil, q_sl, q_nils, q_emp, q_ptr, q_nilp, q_fn, q_cond_true, q_cond_false, Bool.not_true, Bool.not_false, decide_true, decide_false, List.cons_append, List.nil_append, show IntKind.wrap .i64 ((3 : Int) - 1) = 2 by decide, show decide ((3 : Int) < 1) = false from rfl, show decide ((3 : Int) < 3) = false from rfl, show ((0 : Int) ≤ 2 ∧ (2 : Int) < ((3 : Nat) : Int)) = True by simp, show 0 + (2 : Int).toNat * 1 = 2 from rfl, t3, vidx, if_true]
    exact W.ret ⟨rfl, Lh.new _ _ _⟩
end Go.D

/- strings.Builder: what is written and read. -/
set_option linter.unusedVariables false
set_option linter.unusedSimpArgs false
namespace Go.D
open Go.HM Go.Proofs
def u8c (s : ByteArray) : List V := s.data.toList.map fun c => V.int .u8 c.toNat
theorem u8c_len (s : ByteArray) : (u8c s).length = s.size := by
  unfold u8c
  rw [List.length_map, Array.length_toList]
  rfl
theorem u8c_app (s t : ByteArray) : u8c (s ++ t) = u8c s ++ u8c t := by
  unfold u8c
  rw [ByteArray.data_append, Array.toList_append, List.map_append]
theorem u8s_map : ∀ (l : List UInt8), u8s (l.map fun c => V.int .u8 c.toNat) = some l
  | [] => rfl
  | c :: l => by
    have h : (0 : Int) ≤ (c.toNat : Int) ∧ (c.toNat : Int) < 256 := ⟨by omega, by have := c.toNat_lt; omega⟩
    have e : UInt8.ofNat ((c.toNat : Int)).toNat = c := by simp
    simp only [List.map_cons, u8s, if_pos h, u8s_map l, Option.bind_some, e]
/-- A builder in row b that holds the bytes s; they lie in a row from F on. -/
def Bld (F : Nat) (σ : Heap) (b : Nat) (s : ByteArray) : Prop := ∃ x v, σ[b]? = some (some ⟨[x, v], 2, false, hbT + 1⟩) ∧ (x = .nilp ∨ x = .ptr b 0) ∧
  ((s = ⟨#[]⟩ ∧ v = .nils) ∨ ∃ r, v = .sl r 0 s.size false ∧ F ≤ r ∧ r ≠ b ∧ s.size ≠ 0 ∧ σ[r]? = some (some ⟨u8c s, 1, false, hbU + 1⟩))
/-- What lies below F stays, but for the builder. -/
def KeepF (F b : Nat) (σ σ' : Heap) : Prop := σ.length ≤ σ'.length ∧ ∀ j, j < F → j ≠ b → σ'[j]? = σ[j]?
theorem KeepF.refl (F b : Nat) (σ : Heap) : KeepF F b σ σ := ⟨Nat.le_refl _, fun _ _ _ => rfl⟩
theorem KeepF.trans {F b : Nat} {a c d : Heap} (h : KeepF F b a c) (g : KeepF F b c d) : KeepF F b a d := ⟨Nat.le_trans h.1 g.1, fun j h1 h2 => (g.2 j h1 h2).trans (h.2 j h1 h2)⟩
theorem KeepF.lh {F b : Nat} {σ0 σ σ' : Heap} (h : KeepF F b σ σ') (hl : Lh σ0 σ) (hF : σ0.length ≤ F) (hb : ∀ row, σ0[b]? ≠ some (some row)) : Lh σ0 σ' := ⟨Nat.le_trans hl.len h.1, fun j row hj => by
  have hlt := get_lt hj
  rw [h.2 j (by omega) (fun hc => by subst hc; exact hb row hj)]
  exact hl.row _ _ hj⟩
theorem Bld.new (σ : Heap) : Bld (σ.length + 1) (hnewT σ (hbT + 1) 2 [.nilp, .nils]) σ.length ⟨#[]⟩ := ⟨.nilp, .nils, by simp [hnewT], .inl rfl, .inl ⟨rfl, rfl⟩⟩
theorem Bld.up {F F' : Nat} {σ : Heap} {b : Nat} (h : Bld F σ b ⟨#[]⟩) : Bld F' σ b ⟨#[]⟩ := by
  obtain ⟨x, v, h1, h2, h3⟩ := h
  refine ⟨x, v, h1, h2, .inl ⟨rfl, ?_⟩⟩
  rcases h3 with ⟨_, h⟩ | ⟨r, _, _, _, h, _⟩
  · exact h
  · exact absurd rfl h
theorem Bld.keep {F : Nat} {σ σ' : Heap} {b : Nat} {s : ByteArray} (h : Bld F σ b s) (hl : Lh σ σ') : Bld F σ' b s := by
  obtain ⟨x, v, h1, h2, h3⟩ := h
  refine ⟨x, v, hl.row _ _ h1, h2, ?_⟩
  rcases h3 with h | ⟨r, g1, g2, g3, g4, g5⟩
  · exact .inl h
  · exact .inr ⟨r, g1, g2, g3, g4, hl.row _ _ g5⟩
theorem copyCheck_bld {F : Nat} {σ : Heap} {b : Nat} {s : ByteArray} (h : Bld F σ b s) : ∃ σ' v, Runs G n_pstrings_Builder_copyCheck [.ptr b 0] σ (.tuple []) σ' ∧ σ'.length = σ.length ∧ (∀ j, j ≠ b → σ'[j]? = σ[j]?) ∧ σ'[b]? = some (some ⟨[.ptr b 0, v], 2, false, hbT + 1⟩) ∧
    ((s = ⟨#[]⟩ ∧ v = .nils) ∨ ∃ r, v = .sl r 0 s.size false ∧ F ≤ r ∧ r ≠ b ∧ s.size ≠ 0 ∧ σ'[r]? = some (some ⟨u8c s, 1, false, hbU + 1⟩)) := by
  obtain ⟨x, v, h1, h2, h3⟩ := h
  have hlt := get_lt h1
  rcases h2 with rfl | rfl
  · refine ⟨σ.set b (some ⟨[.ptr b 0, v], 2, false, hbT + 1⟩), v, hook_runs (h := hkCopy hbT) rfl (by simp [hkCopy, h1]), by simp, fun j hj => by rw [List.getElem?_set, if_neg (Ne.symm hj)], by simp [hlt], ?_⟩
    rcases h3 with h | ⟨r, g1, g2, g3, g4, g5⟩
    · exact .inl h
    · exact .inr ⟨r, g1, g2, g3, g4, by rw [List.getElem?_set, if_neg (Ne.symm g3)]; exact g5⟩
  · exact ⟨σ, v, hook_runs (h := hkCopy hbT) rfl (by simp [hkCopy, h1]), rfl, fun _ _ => rfl, h1, h3⟩
/-- Bytes put behind. -/
theorem app_bld {F : Nat} {σ : Heap} {b : Nat} {s t : ByteArray} {v : V} (hF : F ≤ σ.length) (hb : b < σ.length) (h : (s = ⟨#[]⟩ ∧ v = .nils) ∨ ∃ r, v = .sl r 0 s.size false ∧ F ≤ r ∧ r ≠ b ∧ s.size ≠ 0 ∧ σ[r]? = some (some ⟨u8c s, 1, false, hbU + 1⟩)) (hs : s.size + t.size ≤ 1099511627776) :
    ∃ v' σ', vappendT (hbU + 1) 1 1 σ v t.size (u8c t) = some (v', σ') ∧ v'.flat = true ∧ σ.length ≤ σ'.length ∧ (∀ j, j < F → σ'[j]? = σ[j]?) ∧ σ'[b]? = σ[b]? ∧
      ((s ++ t = ⟨#[]⟩ ∧ v' = .nils) ∨ ∃ r, v' = .sl r 0 (s ++ t).size false ∧ F ≤ r ∧ r ≠ b ∧ (s ++ t).size ≠ 0 ∧ σ'[r]? = some (some ⟨u8c (s ++ t), 1, false, hbU + 1⟩)) := by
  have e46 : (2 : Nat) ^ 46 = 70368744177664 := by decide
  have hsz : (s ++ t).size = s.size + t.size := ByteArray.size_append
  rcases h with ⟨rfl, rfl⟩ | ⟨r, rfl, hr, hrb, hs0, hrow⟩
  · have he : (⟨#[]⟩ : ByteArray) ++ t = t := ByteArray.empty_append
    rw [he]
    by_cases h0 : t.size = 0
    · refine ⟨.nils, σ, by simp [vappendT, h0], rfl, Nat.le_refl _, fun _ _ => rfl, rfl, .inl ⟨?_, rfl⟩⟩
      obtain ⟨d⟩ := t
      have : d = #[] := Array.eq_empty_of_size_eq_zero h0
      rw [this]
    · refine ⟨.sl σ.length 0 t.size false, hnewT σ (hbU + 1) 1 (u8c t), ?_, rfl, by simp [hnewT], fun j hj => by rw [hnewT, List.getElem?_append_left (by omega)], by rw [hnewT, List.getElem?_append_left hb], .inr ⟨σ.length, rfl, hF, by omega, h0, by simp [hnewT]⟩⟩
      have hz : (⟨#[]⟩ : ByteArray).size = 0 := rfl
      simp only [vappendT, if_neg h0]
      rw [if_pos ⟨by omega, by omega⟩]
  · have hrl := get_lt hrow
    refine ⟨.sl σ.length 0 (s ++ t).size false, hnewT (σ.set r none) (hbU + 1) 1 (u8c (s ++ t)), ?_, rfl, by simp [hnewT], fun j hj => ?_, ?_, .inr ⟨σ.length, rfl, hF, by omega, by omega, by simp [hnewT]⟩⟩
    · simp only [vappendT, hrow]
      have h1 : True ∧ 0 + s.size * 1 ≤ (u8c s).length ∧ (s.size + t.size) * 1 ≤ 2 ^ 46 ∧ s.size + t.size ≤ 2 ^ 46 := ⟨trivial, by rw [u8c_len]; omega, by omega, by omega⟩
      rw [if_pos h1]
      have h2 : (u8c s).take (s.size * 1) = u8c s := List.take_of_length_le (by rw [u8c_len]; omega)
      simp only [Bool.false_eq_true, if_false, true_and, and_self, if_true, h2, hsz, u8c_app]
    · rw [hnewT, List.getElem?_append_left (by simp; omega), List.getElem?_set, if_neg (by omega)]
    · rw [hnewT, List.getElem?_append_left (by simpa using hb), List.getElem?_set, if_neg hrb]
theorem put_bld {F : Nat} {σ : Heap} {b : Nat} {s : ByteArray} {v v' : V} (hF : F ≤ σ.length) (hrow : σ[b]? = some (some ⟨[.ptr b 0, v], 2, false, hbT + 1⟩))
    (h : (s = ⟨#[]⟩ ∧ v' = .nils) ∨ ∃ r, v' = .sl r 0 s.size false ∧ F ≤ r ∧ r ≠ b ∧ s.size ≠ 0 ∧ σ[r]? = some (some ⟨u8c s, 1, false, hbU + 1⟩)) :
    ∃ σ', wrc σ b (0 + 1) [v'] = some σ' ∧ Bld F σ' b s ∧ KeepF F b σ σ' := by
  have hlt := get_lt hrow
  refine ⟨σ.set b (some ⟨[.ptr b 0, v'], 2, false, hbT + 1⟩), by simp [wrc, hrow, setCells], ⟨.ptr b 0, v', by simp [hlt], .inr rfl, ?_⟩, by simp, fun j _ hj => by rw [List.getElem?_set, if_neg (Ne.symm hj)]⟩
  rcases h with h | ⟨r, g1, g2, g3, g4, g5⟩
  · exact .inl h
  · exact .inr ⟨r, g1, g2, g3, g4, by rw [List.getElem?_set, if_neg (Ne.symm g3)]; exact g5⟩
theorem writeString_runs {F : Nat} {σ : Heap} {b : Nat} {s : ByteArray} (hF : F ≤ σ.length) (h : Bld F σ b s) (t : ByteArray) (hs : s.size + t.size ≤ 1099511627776) :
    ∃ σ', Runs G n_pstrings_Builder_WriteString [.ptr b 0, .str t] σ (.tuple [.int .i64 (t.size : Int), .nili]) σ' ∧ Bld F σ' b (s ++ t) ∧ KeepF F b σ σ' := by
  obtain ⟨σ1, v, c1, l1, o1, r1, h1⟩ := copyCheck_bld h
  obtain ⟨v', σ2, a1, a2, a3, a4, a5, a6⟩ := app_bld (t := t) (by rw [l1]; exact hF) (get_lt r1) h1 hs
  obtain ⟨σ3, w1, w2, w3⟩ := put_bld (F := F) (σ := σ2) (b := b) (v := v) (v' := v') (by omega) (by rw [a5]; exact r1) a6
  refine ⟨σ3, Runs.of (W.to (fun k _ => pstrings_Builder_WriteString.eq k _ _ _) ?_), w2, ⟨by have := w3.1; omega, fun j hj hjb => by rw [w3.2 j hj hjb, a4 j hj, o1 j hjb]⟩⟩
  refine W.run c1 ?_
  have e1 : rdc σ1 b (0 + 1) 1 = some [v] := by simp [rdc, r1]
  have a1' : vappendT 6 1 1 σ1 v t.size (t.data.toList.map fun c => V.int .u8 c.toNat) = some (v', σ2) := a1
  have ho : ∀ {β : Type} (K : Option β), one v' K = K := fun K => one_of a2 K
  try simp only [q_bind_some, castInt_int, q_castBool, q_castStr, q_castPtr, q_castFn, q_castAgg, q_castTuple, q_uncons, q_isNil, q_sl, q_nils, q_emp, q_ptr, q_nilp, q_fn, q_cond_true, q_cond_false, Bool.not_true, Bool.not_false, decide_true, decide_false, List.cons_append, List.nil_append, e1, a1', ho, w1]
  exact W.ret ⟨rfl, rfl⟩
theorem writeByte_runs {F : Nat} {σ : Heap} {b : Nat} {s : ByteArray} (hF : F ≤ σ.length) (h : Bld F σ b s) (c : UInt8) (hs : s.size + 1 ≤ 1099511627776) :
    ∃ σ', Runs G n_pstrings_Builder_WriteByte [.ptr b 0, .int .u8 (c.toNat : Int)] σ .nili σ' ∧ Bld F σ' b (s ++ ⟨#[c]⟩) ∧ KeepF F b σ σ' := by
  obtain ⟨σ1, v, c1, l1, o1, r1, h1⟩ := copyCheck_bld h
  obtain ⟨v', σ2, a1, a2, a3, a4, a5, a6⟩ := app_bld (t := ⟨#[c]⟩) (by rw [l1]; exact hF) (get_lt r1) h1 hs
  obtain ⟨σ3, w1, w2, w3⟩ := put_bld (F := F) (σ := σ2) (b := b) (v := v) (v' := v') (by omega) (by rw [a5]; exact r1) a6
  refine ⟨σ3, Runs.of (W.to (fun k _ => pstrings_Builder_WriteByte.eq k _ _ _) ?_), w2, ⟨by have := w3.1; omega, fun j hj hjb => by rw [w3.2 j hj hjb, a4 j hj, o1 j hjb]⟩⟩
  refine W.run c1 ?_
  have e1 : rdc σ1 b (0 + 1) 1 = some [v] := by simp [rdc, r1]
  have a1' : vappendT 6 1 1 σ1 v 1 [.int .u8 (c.toNat : Int)] = some (v', σ2) := a1
  have ho : ∀ {β : Type} (K : Option β), one v' K = K := fun K => one_of a2 K
  try simp only [q_bind_some, castInt_int, q_castBool, q_castStr, q_castPtr, q_castFn, q_castAgg, q_castTuple, q_uncons, q_isNil, q_sl, q_nils, q_emp, q_ptr, q_nilp, q_fn, q_cond_true, q_cond_false, Bool.not_true, Bool.not_false, decide_true, decide_false, List.cons_append, List.nil_append, e1, a1', ho, w1]
  exact W.ret ⟨rfl, rfl⟩
theorem builderText_runs {F : Nat} {σ : Heap} {b : Nat} {s : ByteArray} (h : Bld F σ b s) (hs : s.size ≤ 1099511627776) :
    ∃ σ', Runs G n_pstrings_Builder_String [.ptr b 0] σ (.str s) σ' ∧ KeepF F b σ σ' := by
  obtain ⟨x, v, h1, h2, h3⟩ := h
  rcases h3 with ⟨rfl, rfl⟩ | ⟨r, rfl, hr, hrb, hs0, hrow⟩
  · exact ⟨σ, hook_runs (h := hkText hbT hbU) rfl (by simp [hkText, h1]), KeepF.refl _ _ _⟩
  · refine ⟨σ.set r none, hook_runs (h := hkText hbT hbU) rfl ?_, by simp, fun j hj _ => by rw [List.getElem?_set, if_neg (by omega)]⟩
    have e1 : (u8c s).take s.size = u8c s := List.take_of_length_le (by rw [u8c_len]; omega)
    have e2 : u8s (u8c s) = some s.data.toList := u8s_map _
    have e3 : (⟨s.data.toList.toArray⟩ : ByteArray) = s := by simp
    have e4 : s.size ≤ (u8c s).length := by rw [u8c_len]; omega
    have e5 : s.size ≤ 4611686018427387904 := by omega
    simp [hkText, h1, hrow, e1, e2, e3, hs0, e4, e5]
end Go.D

/- Words joined: LexJoin of both. -/
set_option linter.unusedVariables false
set_option linter.unusedSimpArgs false
namespace Go.D
open Go.HM Go.Proofs
def open1 : ByteArray := ⟨#[40]⟩
def shut1 : ByteArray := ⟨#[41]⟩
def blank1 : ByteArray := ⟨#[32]⟩
/-- Whether a blank stands ahead of word i. -/
def gap (l : List ByteArray) (i : Nat) (x : ByteArray) : Prop := 0 < i ∧ l[i - 1]? ≠ some open1 ∧ x ≠ shut1
instance (l : List ByteArray) (i : Nat) (x : ByteArray) : Decidable (gap l i x) := inferInstanceAs (Decidable (_ ∧ _ ∧ _))
def joinTo (l : List ByteArray) : Nat → ByteArray
  | 0 => ⟨#[]⟩
  | i + 1 => match l[i]? with
    | none => joinTo l i
    | some x => (if gap l i x then joinTo l i ++ blank1 else joinTo l i) ++ x
def joined (l : List ByteArray) : ByteArray := joinTo l l.length
theorem totS_take_succ {α : Type} (f : α → Nat) {l : List α} {i : Nat} {x : α} (h : l[i]? = some x) : totS f (l.take (i + 1)) = totS f (l.take i) + f x := by
  rw [take_next' h, totS_append, totS, totS]
  rfl
theorem joinTo_size (l : List ByteArray) : ∀ i, (joinTo l i).size ≤ i + totS ByteArray.size (l.take i)
  | 0 => by simp [joinTo, ByteArray.size]
  | i + 1 => by
    have ih := joinTo_size l i
    rw [joinTo]
    cases hx : l[i]? with
    | none =>
      have : l.take (i + 1) = l.take i := by rw [List.take_of_length_le (by rw [List.getElem?_eq_none_iff] at hx; omega), List.take_of_length_le (by rw [List.getElem?_eq_none_iff] at hx; omega)]
      rw [this]
      show (joinTo l i).size ≤ _
      omega
    | some x =>
      rw [totS_take_succ ByteArray.size hx]
      show ((if gap l i x then joinTo l i ++ blank1 else joinTo l i) ++ x).size ≤ _
      have hb : blank1.size = 1 := rfl
      split
      · rw [ByteArray.size_append, ByteArray.size_append, hb]; omega
      · rw [ByteArray.size_append]; omega
theorem joinTo_next {l : List ByteArray} {i : Nat} {x : ByteArray} (h : l[i]? = some x) : joinTo l (i + 1) = (if gap l i x then joinTo l i ++ blank1 else joinTo l i) ++ x := by
  rw [joinTo, h]
theorem joined_size (l : List ByteArray) : (joined l).size ≤ l.length + totS ByteArray.size l := by
  have := joinTo_size l l.length
  rw [List.take_length] at this
  exact this
theorem implLexJoin_gives {σ : Heap} {v : V} {l : List ByteArray} (hf : l.length + totS ByteArray.size l ≤ 549755813888) (h : RepS 1 StrRep σ v l) : Gives G n_impl_LexJoin [v] σ (.str (joined l)) := by
  refine Gives.of (W.to (fun k _ => impl_LexJoin.eq k _ _) ?_)
  refine W.len h ?_
  have hl1 : Lh σ (hnewT σ (hbT + 1) 2 [.nilp, .nils]) := Lh.append _ _
  have hno : ∀ row, σ[σ.length]? ≠ some (some row) := fun row hc => by rw [List.getElem?_eq_none (Nat.le_refl _)] at hc; cases hc
  refine W.loop (S := Nat × Heap) (fun s => s.1 ≤ l.length ∧ Bld (σ.length + 1) s.2 σ.length (joinTo l s.1) ∧ KeepF (σ.length + 1) σ.length (hnewT σ (hbT + 1) 2 [.nilp, .nils]) s.2)
    (fun s => [.v v, .v (.ptr σ.length 0), .v v, .v (.int .i64 (l.length : Int)), .v (.int .i64 (s.1 : Int))]) (fun s => s.2) (fun s => l.length - s.1) (fun ⟨i, σi⟩ ⟨hi, hB, hK⟩ => ?_)
    (0, hnewT σ (hbT + 1) 2 [.nilp, .nils]) ⟨Nat.zero_le _, Bld.new σ, KeepF.refl _ _ _⟩
  simp only at hi hB hK ⊢
  have hle : Lh σ σi := hK.lh hl1 (by omega) hno
  have hlen : σ.length + 1 ≤ σi.length := by have := hK.1; simp [hnewT] at this; omega
  have hjs := joinTo_size l i
  have hts := totS_take_le ByteArray.size l i
  refine W.to (fun k _ => by rw [impl_LexJoin.L0_step]) ?_
  try simp only [q_bind_some, Option.bind_assoc, castInt_int, q_castBool, q_castStr, q_castPtr, q_castFn, q_castAgg, q_castTuple, q_uncons, q_isNil, q_sl, q_nils, q_emp, q_ptr, q_nilp, q_fn, q_cond_true, q_cond_false, Bool.not_true, Bool.not_false, decide_true, decide_false, castInt_bind, castBool_bind, castStr_bind, castPtr_bind, castFn_bind, castAgg_bind, castTuple_bind, uncons_bind, isNil_bind, one_bind, cond_bind, ite_bind_, List.cons_append, List.nil_append]
  refine W.ite (fun hlt => ?_) fun hlt => ?_
  · have hi' : i < l.length := by omega
    refine W.at h hle hi' fun r o cs x hx hr hP => ?_
    unfold StrRep at hP
    subst hP
    have hxt := totS_take_succ ByteArray.size hx
    have htot := totS_take_le ByteArray.size l (i + 1)
    have hw := wrap_next (show i < l.length by omega) (by omega)
    have hnext := joinTo_next hx
    try simp only [q_bind_some, Option.bind_assoc, castInt_int, q_castBool, q_castStr, q_castPtr, q_castFn, q_castAgg, q_castTuple, q_uncons, q_isNil, q_sl, q_nils, q_emp, q_ptr, q_nilp, q_fn, q_cond_true, q_cond_false, Bool.not_true, Bool.not_false, decide_true, decide_false, castInt_bind, castBool_bind, castStr_bind, castPtr_bind, castFn_bind, castAgg_bind, castTuple_bind, uncons_bind, isNil_bind, one_bind, cond_bind, ite_bind_, List.cons_append, List.nil_append, hr]
    refine W.ite (fun h0 => ?_) fun h0 => ?_
    · have hi0 : 0 < i := by omega
      have hm1 : IntKind.wrap .i64 ((i : Int) - 1) = ((i - 1 : Nat) : Int) := by rw [wrap_id (by omega) (by omega)]; omega
      rw [hm1]
      refine W.at h hle (show i - 1 < l.length by omega) fun r' o' cs' x' hx' hr' hP' => ?_
      unfold StrRep at hP'
      subst hP'
      try simp only [q_bind_some, Option.bind_assoc, castInt_int, q_castBool, q_castStr, q_castPtr, q_castFn, q_castAgg, q_castTuple, q_uncons, q_isNil, q_sl, q_nils, q_emp, q_ptr, q_nilp, q_fn, q_cond_true, q_cond_false, Bool.not_true, Bool.not_false, decide_true, decide_false, castInt_bind, castBool_bind, castStr_bind, castPtr_bind, castFn_bind, castAgg_bind, castTuple_bind, uncons_bind, isNil_bind, one_bind, cond_bind, ite_bind_, List.cons_append, List.nil_append, hr']
      by_cases hop : x' = open1
      · have hng : ¬ gap l i x := fun hg => hg.2.1 (by rw [hx', hop])
        rw [if_neg hng] at hnext
        have hop' : x' = (⟨#[40]⟩ : ByteArray) := hop
        try simp only [q_bind_some, Option.bind_assoc, castInt_int, q_castBool, q_castStr, q_castPtr, q_castFn, q_castAgg, q_castTuple, q_uncons, q_isNil, q_sl, q_nils, q_emp, q_ptr, q_nilp, q_fn, q_cond_true, q_cond_false, Bool.not_true, Bool.not_false, decide_true, decide_false, castInt_bind, castBool_bind, castStr_bind, castPtr_bind, castFn_bind, castAgg_bind, castTuple_bind, uncons_bind, isNil_bind, one_bind, cond_bind, ite_bind_, List.cons_append, List.nil_append, hop']
        obtain ⟨σ2, c2, B2, K2⟩ := writeString_runs hlen hB x (by omega)
        refine W.run c2 ?_
        try simp only [q_bind_some, Option.bind_assoc, castInt_int, q_castBool, q_castStr, q_castPtr, q_castFn, q_castAgg, q_castTuple, q_uncons, q_isNil, q_sl, q_nils, q_emp, q_ptr, q_nilp, q_fn, q_cond_true, q_cond_false, Bool.not_true, Bool.not_false, decide_true, decide_false, castInt_bind, castBool_bind, castStr_bind, castPtr_bind, castFn_bind, castAgg_bind, castTuple_bind, uncons_bind, isNil_bind, one_bind, cond_bind, ite_bind_, List.cons_append, List.nil_append, hw]
        exact W.again (i + 1, σ2) ⟨by show i + 1 ≤ l.length; omega, by show Bld _ _ _ (joinTo l (i + 1)); rw [hnext]; exact B2, hK.trans K2⟩ (by simp only; omega) rfl rfl
      · have hop' : ¬ x' = (⟨#[40]⟩ : ByteArray) := hop
        try simp only [q_bind_some, Option.bind_assoc, castInt_int, q_castBool, q_castStr, q_castPtr, q_castFn, q_castAgg, q_castTuple, q_uncons, q_isNil, q_sl, q_nils, q_emp, q_ptr, q_nilp, q_fn, q_cond_true, q_cond_false, Bool.not_true, Bool.not_false, decide_true, decide_false, castInt_bind, castBool_bind, castStr_bind, castPtr_bind, castFn_bind, castAgg_bind, castTuple_bind, uncons_bind, isNil_bind, one_bind, cond_bind, ite_bind_, List.cons_append, List.nil_append, decide_eq_false hop']
        by_cases hsh : x = shut1
        · have hng : ¬ gap l i x := fun hg => hg.2.2 hsh
          rw [if_neg hng] at hnext
          have hsh' : x = (⟨#[41]⟩ : ByteArray) := hsh
          try simp only [q_bind_some, Option.bind_assoc, castInt_int, q_castBool, q_castStr, q_castPtr, q_castFn, q_castAgg, q_castTuple, q_uncons, q_isNil, q_sl, q_nils, q_emp, q_ptr, q_nilp, q_fn, q_cond_true, q_cond_false, Bool.not_true, Bool.not_false, decide_true, decide_false, castInt_bind, castBool_bind, castStr_bind, castPtr_bind, castFn_bind, castAgg_bind, castTuple_bind, uncons_bind, isNil_bind, one_bind, cond_bind, ite_bind_, List.cons_append, List.nil_append, decide_eq_true hsh']
          obtain ⟨σ2, c2, B2, K2⟩ := writeString_runs hlen hB x (by omega)
          refine W.run c2 ?_
          try simp only [q_bind_some, Option.bind_assoc, castInt_int, q_castBool, q_castStr, q_castPtr, q_castFn, q_castAgg, q_castTuple, q_uncons, q_isNil, q_sl, q_nils, q_emp, q_ptr, q_nilp, q_fn, q_cond_true, q_cond_false, Bool.not_true, Bool.not_false, decide_true, decide_false, castInt_bind, castBool_bind, castStr_bind, castPtr_bind, castFn_bind, castAgg_bind, castTuple_bind, uncons_bind, isNil_bind, one_bind, cond_bind, ite_bind_, List.cons_append, List.nil_append, hw]
          exact W.again (i + 1, σ2) ⟨by show i + 1 ≤ l.length; omega, by show Bld _ _ _ (joinTo l (i + 1)); rw [hnext]; exact B2, hK.trans K2⟩ (by simp only; omega) rfl rfl
        · have hg : gap l i x := ⟨hi0, by rw [hx']; exact fun hc => hop (Option.some.inj hc), hsh⟩
          rw [if_pos hg] at hnext
          have hsh' : ¬ x = (⟨#[41]⟩ : ByteArray) := hsh
          try simp only [q_bind_some, Option.bind_assoc, castInt_int, q_castBool, q_castStr, q_castPtr, q_castFn, q_castAgg, q_castTuple, q_uncons, q_isNil, q_sl, q_nils, q_emp, q_ptr, q_nilp, q_fn, q_cond_true, q_cond_false, Bool.not_true, Bool.not_false, decide_true, decide_false, castInt_bind, castBool_bind, castStr_bind, castPtr_bind, castFn_bind, castAgg_bind, castTuple_bind, uncons_bind, isNil_bind, one_bind, cond_bind, ite_bind_, List.cons_append, List.nil_append, decide_eq_false hsh']
          obtain ⟨σ2, c2, B2, K2⟩ := writeByte_runs hlen hB 32 (by omega)
          refine W.run c2 ?_
          have hl2 : σ.length + 1 ≤ σ2.length := Nat.le_trans hlen K2.1
          have hsz : (joinTo l i ++ blank1).size = (joinTo l i).size + 1 := ByteArray.size_append
          obtain ⟨σ3, c3, B3, K3⟩ := writeString_runs hl2 B2 x (by show (joinTo l i ++ blank1).size + _ ≤ _; omega)
          refine W.run c3 ?_
          try simp only [q_bind_some, Option.bind_assoc, castInt_int, q_castBool, q_castStr, q_castPtr, q_castFn, q_castAgg, q_castTuple, q_uncons, q_isNil, q_sl, q_nils, q_emp, q_ptr, q_nilp, q_fn, q_cond_true, q_cond_false, Bool.not_true, Bool.not_false, decide_true, decide_false, castInt_bind, castBool_bind, castStr_bind, castPtr_bind, castFn_bind, castAgg_bind, castTuple_bind, uncons_bind, isNil_bind, one_bind, cond_bind, ite_bind_, List.cons_append, List.nil_append, hw]
          exact W.again (i + 1, σ3) ⟨by show i + 1 ≤ l.length; omega, by show Bld _ _ _ (joinTo l (i + 1)); rw [hnext]; exact B3, hK.trans (K2.trans K3)⟩ (by simp only; omega) rfl rfl
    · have hng : ¬ gap l i x := fun hg => by have := hg.1; omega
      rw [if_neg hng] at hnext
      obtain ⟨σ2, c2, B2, K2⟩ := writeString_runs hlen hB x (by omega)
      refine W.run c2 ?_
      try simp only [q_bind_some, Option.bind_assoc, castInt_int, q_castBool, q_castStr, q_castPtr, q_castFn, q_castAgg, q_castTuple, q_uncons, q_isNil, q_sl, q_nils, q_emp, q_ptr, q_nilp, q_fn, q_cond_true, q_cond_false, Bool.not_true, Bool.not_false, decide_true, decide_false, castInt_bind, castBool_bind, castStr_bind, castPtr_bind, castFn_bind, castAgg_bind, castTuple_bind, uncons_bind, isNil_bind, one_bind, cond_bind, ite_bind_, List.cons_append, List.nil_append, hw]
      exact W.again (i + 1, σ2) ⟨by show i + 1 ≤ l.length; omega, by show Bld _ _ _ (joinTo l (i + 1)); rw [hnext]; exact B2, hK.trans K2⟩ (by simp only; omega) rfl rfl
  · have hil : i = l.length := by omega
    subst hil
    try simp only [q_bind_some, Option.bind_assoc, castInt_int, q_castBool, q_castStr, q_castPtr, q_castFn, q_castAgg, q_castTuple, q_uncons, q_isNil, q_sl, q_nils, q_emp, q_ptr, q_nilp, q_fn, q_cond_true, q_cond_false, Bool.not_true, Bool.not_false, decide_true, decide_false, castInt_bind, castBool_bind, castStr_bind, castPtr_bind, castFn_bind, castAgg_bind, castTuple_bind, uncons_bind, isNil_bind, one_bind, cond_bind, ite_bind_, List.cons_append, List.nil_append, impl_LexJoin.A0_x0]
    obtain ⟨σ2, c2, K2⟩ := builderText_runs hB (by rw [List.take_length] at hjs; omega)
    refine W.run c2 ?_
    try simp only [q_bind_some, Option.bind_assoc, castInt_int, q_castBool, q_castStr, q_castPtr, q_castFn, q_castAgg, q_castTuple, q_uncons, q_isNil, q_sl, q_nils, q_emp, q_ptr, q_nilp, q_fn, q_cond_true, q_cond_false, Bool.not_true, Bool.not_false, decide_true, decide_false, castInt_bind, castBool_bind, castStr_bind, castPtr_bind, castFn_bind, castAgg_bind, castTuple_bind, uncons_bind, isNil_bind, one_bind, cond_bind, ite_bind_, List.cons_append, List.nil_append]
    exact W.ret ⟨rfl, (hK.trans K2).lh hl1 (by omega) hno⟩
theorem specLexJoin_runs {σ : Heap} {v : V} {l : List ByteArray} (hf : l.length + totS ByteArray.size l ≤ 549755813888) (h : RepS 1 StrRep σ v l) : Runs G n_spec_LexJoin [v] σ (.str (joined l)) σ := by
  have e62 : (2 : Nat) ^ 62 = 4611686018427387904 := by decide
  refine Runs.of (W.to (fun k _ => spec_LexJoin.eq k _ _) ?_)
  refine W.loop (S := Nat) (fun i => i ≤ l.length) (fun i => [.v v, .v (.str (joinTo l i)), .v (.int .i64 (i : Int))]) (fun _ => σ) (fun i => l.length - i) (fun i hi => ?_) 0 (Nat.zero_le _)
  have hjs := joinTo_size l i
  have hts := totS_take_le ByteArray.size l i
  refine W.to (fun k _ => by rw [spec_LexJoin.L0_step]) ?_
  try simp only [q_bind_some, Option.bind_assoc, castInt_int, q_castBool, q_castStr, q_castPtr, q_castFn, q_castAgg, q_castTuple, q_uncons, q_isNil, q_sl, q_nils, q_emp, q_ptr, q_nilp, q_fn, q_cond_true, q_cond_false, Bool.not_true, Bool.not_false, decide_true, decide_false, castInt_bind, castBool_bind, castStr_bind, castPtr_bind, castFn_bind, castAgg_bind, castTuple_bind, uncons_bind, isNil_bind, one_bind, cond_bind, ite_bind_, List.cons_append, List.nil_append]
  refine W.len h ?_
  refine W.ite (fun hlt => ?_) fun hlt => ?_
  · have hi' : i < l.length := by omega
    obtain ⟨r, o, hv, cs, hr, hP⟩ := h.at' (List.getElem?_eq_getElem hi')
    have hx := List.getElem?_eq_getElem hi'
    generalize l[i] = x at hx hP
    unfold StrRep at hP
    subst hP
    have hxt := totS_take_succ ByteArray.size hx
    have htot := totS_take_le ByteArray.size l (i + 1)
    have hw := wrap_next (show i < l.length by omega) (by omega)
    have hnext := joinTo_next hx
    have hb1 : (joinTo l i ++ blank1).size = (joinTo l i).size + 1 := ByteArray.size_append
    have c1 : (joinTo l i).size + x.size ≤ 2 ^ 62 := by rw [e62]; omega
    have c2 : (joinTo l i).size + blank1.size ≤ 2 ^ 62 := by rw [e62]; show _ + 1 ≤ _; omega
    have c3 : (joinTo l i ++ blank1).size + x.size ≤ 2 ^ 62 := by rw [e62]; omega
    refine W.ite (fun h0 => ?_) fun h0 => ?_
    · have hi0 : 0 < i := by omega
      have hm1 : IntKind.wrap .i64 ((i : Int) - 1) = ((i - 1 : Nat) : Int) := by rw [wrap_id (by omega) (by omega)]; omega
      try simp only [q_bind_some, Option.bind_assoc, castInt_int, q_castBool, q_castStr, q_castPtr, q_castFn, q_castAgg, q_castTuple, q_uncons, q_isNil, q_sl, q_nils, q_emp, q_ptr, q_nilp, q_fn, q_cond_true, q_cond_false, Bool.not_true, Bool.not_false, decide_true, decide_false, castInt_bind, castBool_bind, castStr_bind, castPtr_bind, castFn_bind, castAgg_bind, castTuple_bind, uncons_bind, isNil_bind, one_bind, cond_bind, ite_bind_, List.cons_append, List.nil_append, hv, hr]
      by_cases hsh : x = shut1
      · have hng : ¬ gap l i x := fun hg => hg.2.2 hsh
        rw [if_neg hng] at hnext
        have hsh' : x = (⟨#[41]⟩ : ByteArray) := hsh
        try simp only [q_bind_some, Option.bind_assoc, castInt_int, q_castBool, q_castStr, q_castPtr, q_castFn, q_castAgg, q_castTuple, q_uncons, q_isNil, q_sl, q_nils, q_emp, q_ptr, q_nilp, q_fn, q_cond_true, q_cond_false, Bool.not_true, Bool.not_false, decide_true, decide_false, castInt_bind, castBool_bind, castStr_bind, castPtr_bind, castFn_bind, castAgg_bind, castTuple_bind, uncons_bind, isNil_bind, one_bind, cond_bind, ite_bind_, List.cons_append, List.nil_append, decide_eq_true hsh', if_pos c1, hw]
        exact W.again (i + 1) (show i + 1 ≤ l.length by omega) (by omega) (by rw [hnext]) rfl
      · have hsh' : ¬ x = (⟨#[41]⟩ : ByteArray) := hsh
        try simp only [q_bind_some, Option.bind_assoc, castInt_int, q_castBool, q_castStr, q_castPtr, q_castFn, q_castAgg, q_castTuple, q_uncons, q_isNil, q_sl, q_nils, q_emp, q_ptr, q_nilp, q_fn, q_cond_true, q_cond_false, Bool.not_true, Bool.not_false, decide_true, decide_false, castInt_bind, castBool_bind, castStr_bind, castPtr_bind, castFn_bind, castAgg_bind, castTuple_bind, uncons_bind, isNil_bind, one_bind, cond_bind, ite_bind_, List.cons_append, List.nil_append, decide_eq_false hsh', hm1]
        refine W.at h (Lh.refl _) (show i - 1 < l.length by omega) fun r' o' cs' x' hx' hr' hP' => ?_
        unfold StrRep at hP'
        subst hP'
        try simp only [q_bind_some, Option.bind_assoc, castInt_int, q_castBool, q_castStr, q_castPtr, q_castFn, q_castAgg, q_castTuple, q_uncons, q_isNil, q_sl, q_nils, q_emp, q_ptr, q_nilp, q_fn, q_cond_true, q_cond_false, Bool.not_true, Bool.not_false, decide_true, decide_false, castInt_bind, castBool_bind, castStr_bind, castPtr_bind, castFn_bind, castAgg_bind, castTuple_bind, uncons_bind, isNil_bind, one_bind, cond_bind, ite_bind_, List.cons_append, List.nil_append, hr']
        by_cases hop : x' = open1
        · have hng : ¬ gap l i x := fun hg => hg.2.1 (by rw [hx', hop])
          rw [if_neg hng] at hnext
          have hop' : x' = (⟨#[40]⟩ : ByteArray) := hop
          try simp only [q_bind_some, Option.bind_assoc, castInt_int, q_castBool, q_castStr, q_castPtr, q_castFn, q_castAgg, q_castTuple, q_uncons, q_isNil, q_sl, q_nils, q_emp, q_ptr, q_nilp, q_fn, q_cond_true, q_cond_false, Bool.not_true, Bool.not_false, decide_true, decide_false, castInt_bind, castBool_bind, castStr_bind, castPtr_bind, castFn_bind, castAgg_bind, castTuple_bind, uncons_bind, isNil_bind, one_bind, cond_bind, ite_bind_, List.cons_append, List.nil_append, decide_eq_true hop', if_pos c1, hw]
          exact W.again (i + 1) (show i + 1 ≤ l.length by omega) (by omega) (by rw [hnext]) rfl
        · have hg : gap l i x := ⟨hi0, by rw [hx']; exact fun hc => hop (Option.some.inj hc), hsh⟩
          rw [if_pos hg] at hnext
          have hop' : ¬ x' = (⟨#[40]⟩ : ByteArray) := hop
          have c2' : (joinTo l i).size + (⟨#[32]⟩ : ByteArray).size ≤ 2 ^ 62 := c2
          have c3' : (joinTo l i ++ (⟨#[32]⟩ : ByteArray)).size + x.size ≤ 2 ^ 62 := c3
          try simp only [q_bind_some, Option.bind_assoc, castInt_int, q_castBool, q_castStr, q_castPtr, q_castFn, q_castAgg, q_castTuple, q_uncons, q_isNil, q_sl, q_nils, q_emp, q_ptr, q_nilp, q_fn, q_cond_true, q_cond_false, Bool.not_true, Bool.not_false, decide_true, decide_false, castInt_bind, castBool_bind, castStr_bind, castPtr_bind, castFn_bind, castAgg_bind, castTuple_bind, uncons_bind, isNil_bind, one_bind, cond_bind, ite_bind_, List.cons_append, List.nil_append, decide_eq_false hop', if_pos c2', if_pos c3', hw]
          exact W.again (i + 1) (show i + 1 ≤ l.length by omega) (by omega) (by rw [hnext]; rfl) rfl
    · have hng : ¬ gap l i x := fun hg => by have := hg.1; omega
      rw [if_neg hng] at hnext
      try simp only [q_bind_some, Option.bind_assoc, castInt_int, q_castBool, q_castStr, q_castPtr, q_castFn, q_castAgg, q_castTuple, q_uncons, q_isNil, q_sl, q_nils, q_emp, q_ptr, q_nilp, q_fn, q_cond_true, q_cond_false, Bool.not_true, Bool.not_false, decide_true, decide_false, castInt_bind, castBool_bind, castStr_bind, castPtr_bind, castFn_bind, castAgg_bind, castTuple_bind, uncons_bind, isNil_bind, one_bind, cond_bind, ite_bind_, List.cons_append, List.nil_append, hv, hr, if_pos c1, hw]
      exact W.again (i + 1) (show i + 1 ≤ l.length by omega) (by omega) (by rw [hnext]) rfl
  · have hil : i = l.length := by omega
    subst hil
    try simp only [q_bind_some, Option.bind_assoc, castInt_int, q_castBool, q_castStr, q_castPtr, q_castFn, q_castAgg, q_castTuple, q_uncons, q_isNil, q_sl, q_nils, q_emp, q_ptr, q_nilp, q_fn, q_cond_true, q_cond_false, Bool.not_true, Bool.not_false, decide_true, decide_false, castInt_bind, castBool_bind, castStr_bind, castPtr_bind, castFn_bind, castAgg_bind, castTuple_bind, uncons_bind, isNil_bind, one_bind, cond_bind, ite_bind_, List.cons_append, List.nil_append, spec_LexJoin.A0_x0]
    exact W.ret ⟨rfl, rfl⟩
end Go.D

/- The words of trees: what they are. -/
set_option linter.unusedVariables false
set_option linter.unusedSimpArgs false
namespace Go.D
open Go.HM Go.Proofs
def boolW (n : Int) : ByteArray := if n = 1 then ⟨#[116, 114, 117, 101]⟩ else ⟨#[102, 97, 108, 115, 101]⟩
def headW (kind : Int) (name mod : ByteArray) : List ByteArray := if kind = 5 then [⟨#[105, 102]⟩] else if kind = 6 then [⟨#[108, 101, 116]⟩, name] else if kind = 8 then [⟨#[114, 111, 119]⟩] else if mod ≠ (⟨#[]⟩ : ByteArray) then [(mod ++ (⟨#[46]⟩ : ByteArray)) ++ name] else [name]
mutual
def TreeExpr.wl : TreeExpr → List ByteArray
  | ⟨kind, num, name, mod, kids⟩ => if kind = 1 then [ba (Lib.itoa num)] else if kind = 2 then [boolW num] else if kind = 3 then [name] else open1 :: (headW kind name mod ++ TreeExpr.wlS kids ++ [shut1])
def TreeExpr.wlS : List TreeExpr → List ByteArray
  | [] => []
  | e :: es => e.wl ++ TreeExpr.wlS es
end
theorem TreeExpr.wlS_eq : ∀ l, TreeExpr.wlS l = (l.map TreeExpr.wl).flatten
  | [] => rfl
  | e :: es => by rw [TreeExpr.wlS, TreeExpr.wlS_eq es]; rfl
theorem TreeExpr.wl_eq (e : TreeExpr) : e.wl = if e.kind = 1 then [ba (Lib.itoa e.num)] else if e.kind = 2 then [boolW e.num] else if e.kind = 3 then [e.name] else open1 :: (headW e.kind e.name e.mod ++ TreeExpr.wlS e.kids ++ [shut1]) := by
  cases e
  rw [TreeExpr.wl]
theorem wlS_next {l : List TreeExpr} {i : Nat} {x : TreeExpr} (h : l[i]? = some x) : TreeExpr.wlS (l.take (i + 1)) = TreeExpr.wlS (l.take i) ++ x.wl := by
  rw [take_next' h, TreeExpr.wlS_eq, TreeExpr.wlS_eq, List.map_append, List.flatten_append]
  simp
theorem flat_tot {α β : Type} (f : α → List β) (g : β → Nat) : ∀ l : List α, ((l.map f).flatten).length = totS (fun x => (f x).length) l ∧ totS g (l.map f).flatten = totS (fun x => totS g (f x)) l
  | [] => ⟨rfl, rfl⟩
  | x :: l => by
    obtain ⟨h1, h2⟩ := flat_tot f g l
    rw [List.map_cons, List.flatten_cons, List.length_append, totS_append, h1, h2]
    exact ⟨rfl, rfl⟩
theorem tot_le {α : Type} {f g : α → Nat} (c : Nat) : ∀ l : List α, (∀ x, x ∈ l → f x ≤ c * g x) → totS f l ≤ c * totS g l
  | [], _ => by simp [totS]
  | x :: l, h => by
    have h1 := tot_le c l fun y hy => h y (by simp [hy])
    have h2 := h x (by simp)
    simp only [totS, Nat.mul_add]
    omega
theorem many_ge : ∀ l : List TreeExpr, l.length ≤ totS TreeExpr.many l
  | [] => Nat.zero_le _
  | e :: l => by
    have h1 := many_ge l
    have h2 := TreeExpr.many_eq e
    simp only [totS, List.length_cons]
    omega
theorem prims_size : ∀ x, x ∈ prims → x.size ≤ 8 := by decide
theorem arity_size {s : ByteArray} (h : 0 ≤ arity s) : s.size ≤ 8 := by
  by_cases hp : s ∈ prims
  · exact prims_size s hp
  · exfalso
    simp only [prims, List.mem_cons, List.not_mem_nil, or_false, not_or] at hp
    obtain ⟨p1, p2, p3, p4, p5, p6, p7, p8, p9, p10, p11, p12, p13, p14, p15, p16⟩ := hp
    unfold arity at h
    rw [if_neg p9, if_neg p11, if_neg p14, if_neg p12, if_neg p1, if_neg p2, if_neg p3, if_neg p4, if_neg p5, if_neg p6, if_neg p7, if_neg p8, if_neg p10, if_neg p13, if_neg p15, if_neg p16] at h
    omega
theorem node_size {e : TreeExpr} (h : NodeOk e) : e.name.size ≤ 8 ∧ e.mod.size ≤ 8 := by
  have e0 : E0.size = 0 := rfl
  rcases h with ⟨_, _, h1, h2, _⟩ | ⟨_, _, h1, h2, _⟩ | ⟨_, _, _, h2, h1⟩ | ⟨_, _, h2, h1⟩ | ⟨_, _, _, h1, h2⟩ | ⟨_, _, _, h2, h1⟩ | ⟨_, _, _, h1, h2⟩ | ⟨_, _, _, h1, h2⟩
  · rw [h1, h2, e0]; omega
  · rw [h1, h2, e0]; omega
  · rw [h2, e0]; exact ⟨h1.2.1.2, by omega⟩
  · rw [h2, e0]; exact ⟨arity_size (by omega), by omega⟩
  · rw [h1, h2, e0]; omega
  · rw [h2, e0]; exact ⟨h1.2.1.2, by omega⟩
  · refine ⟨h1.2.1.2, ?_⟩
    rcases h2 with h2 | h2
    · rw [h2, e0]; omega
    · exact h2.2.1.2
  · rw [h1, h2, e0]; omega
theorem head_le (k : Int) (n m : ByteArray) (hn : n.size ≤ 8) (hm : m.size ≤ 8) : (headW k n m).length ≤ 2 ∧ headW k n m ≠ [] ∧ totS ByteArray.size (headW k n m) ≤ 17 := by
  have a1 : (⟨#[105, 102]⟩ : ByteArray).size = 2 := rfl
  have a2 : (⟨#[108, 101, 116]⟩ : ByteArray).size = 3 := rfl
  have a3 : (⟨#[114, 111, 119]⟩ : ByteArray).size = 3 := rfl
  have a4 : ((m ++ (⟨#[46]⟩ : ByteArray)) ++ n).size = m.size + 1 + n.size := by rw [ByteArray.size_append, ByteArray.size_append]; rfl
  unfold headW
  split
  · exact ⟨by simp, by simp, by simp only [totS, a1]; omega⟩
  split
  · exact ⟨by simp, by simp, by simp only [totS, a2]; omega⟩
  split
  · exact ⟨by simp, by simp, by simp only [totS, a3]; omega⟩
  split
  · exact ⟨by simp, by simp, by simp only [totS, a4]; omega⟩
  · exact ⟨by simp, by simp, by simp only [totS]; omega⟩
theorem wl_le (e : TreeExpr) (h : Right e) : e.wl.length ≤ 4 * e.many ∧ totS ByteArray.size e.wl ≤ 32 * e.many ∧ e.wl ≠ [] := by
  obtain ⟨hn, hk⟩ := (right_iff e).1 h
  have ih : ∀ x, x ∈ e.kids → x.wl.length ≤ 4 * x.many ∧ totS ByteArray.size x.wl ≤ 32 * x.many := fun x hx => ⟨(wl_le x (hk x hx)).1, (wl_le x (hk x hx)).2.1⟩
  obtain ⟨n1, n2⟩ := node_size hn
  obtain ⟨h1, h2, h3⟩ := head_le e.kind e.name e.mod n1 n2
  obtain ⟨f1, f2⟩ := flat_tot TreeExpr.wl ByteArray.size e.kids
  have t1 := tot_le (f := fun x => x.wl.length) (g := TreeExpr.many) 4 e.kids fun x hx => (ih x hx).1
  have t2 := tot_le (f := fun x => totS ByteArray.size x.wl) (g := TreeExpr.many) 32 e.kids fun x hx => (ih x hx).2
  rw [← f1] at t1
  rw [← f2] at t2
  have hm := TreeExpr.many_eq e
  have o1 : open1.size = 1 := rfl
  have o2 : shut1.size = 1 := rfl
  rw [TreeExpr.wl_eq]
  split
  · rename_i k1
    have hi : -9223372036854775808 ≤ e.num ∧ e.num ≤ 9223372036854775807 := by unfold NodeOk at hn; omega
    have := Lib.itoa_length_le e.num hi.1 hi.2
    refine ⟨by simp; omega, ?_, by simp⟩
    simp only [totS, ba_size]
    omega
  split
  · have hb : (boolW e.num).size ≤ 5 := by unfold boolW; split <;> decide
    exact ⟨by simp; omega, by simp only [totS]; omega, by simp⟩
  split
  · exact ⟨by simp; omega, by simp only [totS]; omega, by simp⟩
  · rw [TreeExpr.wlS_eq]
    refine ⟨?_, ?_, by simp⟩
    · simp only [List.length_cons, List.length_append, List.length_nil]
      omega
    · rw [totS, totS_append, totS_append]
      simp only [totS, o1, o2]
      omega
termination_by SizeOf.sizeOf e
decreasing_by
  all_goals
    cases e
    have := List.sizeOf_lt_of_mem hx
    simp at this ⊢
    omega
/-- Texts appended to a row of one's own. -/
theorem grS_appL {b : Nat} {σ : Heap} {v : V} {l : List ByteArray} (h : GrS b σ v l) (xs : List ByteArray) (h0 : xs ≠ []) (hb : l.length + xs.length ≤ 1073741824) :
    ∃ v' σ', vappend 1 16 σ v xs.length (xs.map .str) = some (v', σ') ∧ GrS b σ' v' (l ++ xs) ∧ (∀ σe : Heap, σe.length ≤ b → Lh σe σ → Lh σe σ') ∧ σ.length ≤ σ'.length := by
  obtain ⟨q, lim, h1, rfl, ty, h⟩ := h
  have hlt := get_lt h
  have hx0 : xs.length ≠ 0 := fun hc => h0 (List.eq_nil_of_length_eq_zero hc)
  have keep : ∀ {σ' : Heap}, σ'.length = σ.length + 1 → (∀ j, j ≠ q → j < σ.length → σ'[j]? = σ[j]?) → ∀ σe : Heap, σe.length ≤ b → Lh σe σ → Lh σe σ' := fun h3 h4 σe he hl => ⟨by rw [h3]; have := hl.len; omega, fun j row hj => by
    have hj' := get_lt hj
    rw [h4 j (by omega) (by have := hl.len; omega)]
    exact hl.row _ _ hj⟩
  unfold vappend
  simp only [h]
  rw [if_pos ⟨trivial, by simp, by omega, by omega⟩]
  cases lim with
  | true =>
    have e : ((l.map V.str).drop 0).take (l.length * 1) = l.map .str := by rw [List.drop_zero]; exact List.take_of_length_le (by simp)
    rw [if_pos rfl, if_neg hx0, e, ← List.map_append]
    exact ⟨_, _, rfl, ⟨σ.length, false, by omega, by rw [List.length_append], 0, by simp [hnew]⟩, keep (by simp [hnew]) (fun j _ hj => by simp [hnew, List.getElem?_append_left hj]), by simp [hnew]⟩
  | false =>
    have e : (l.map V.str).take (l.length * 1) = l.map .str := List.take_of_length_le (by simp)
    rw [if_neg (by simp), if_pos ⟨trivial, trivial⟩, e, ← List.map_append]
    exact ⟨_, _, rfl, ⟨σ.length, false, by omega, by rw [List.length_append], 0, by simp [hnew]⟩, keep (by simp [hnew]) (fun j hne hj => by rw [hnew, List.getElem?_append_left (by simpa using hj), List.getElem?_set, if_neg (Ne.symm hne)]), by simp [hnew]⟩
theorem grS_lit (σ : Heap) (l : List ByteArray) (lim : Bool) (n : Nat) (hn : n = l.length) : GrS σ.length (hnew σ 1 (l.map .str)) (.sl σ.length 0 n lim) l := ⟨σ.length, lim, Nat.le_refl _, by rw [hn], 0, by simp [hnew]⟩
theorem grS_cells {b : Nat} {σ : Heap} {v : V} {l : List ByteArray} (h : GrS b σ v l) : vcells σ 1 v = some (l.length, l.map .str) := by
  obtain ⟨q, lim, h1, rfl, ty, h⟩ := h
  unfold vcells rdc
  simp only [h]
  simp
  exact List.take_of_length_le (by simp)
theorem chunks_str {cs : List V} {l : List ByteArray} (h : Chunks 1 StrRep cs l) : cs = l.map .str := by
  obtain ⟨h1, h2⟩ := h
  apply List.ext_getElem?
  intro i
  by_cases hi : i < l.length
  · have h3 := h2 i l[i] (List.getElem?_eq_getElem hi)
    unfold StrRep at h3
    have h4 : ((cs.drop (i * 1)).take 1)[0]? = some (V.str l[i]) := by rw [h3]; rfl
    rw [List.getElem?_take, if_pos (by omega), List.getElem?_drop] at h4
    rw [List.getElem?_map, List.getElem?_eq_getElem hi]
    simpa using h4
  · rw [List.getElem?_eq_none (by omega), List.getElem?_eq_none (by simp; omega)]
end Go.D

/- The words of an expression, and of a function: the program's. -/
set_option linter.unusedVariables false
set_option linter.unusedSimpArgs false
namespace Go.D
open Go.HM Go.Proofs
abbrev TabW' (σ : Heap) : Prop := σ[g_uint64pow10]? = some (some ⟨Lib.pow10Tab.map fun z => .int .u64 z, 1, true, 0⟩)
theorem formatBool_runs (b : Bool) (σ : Heap) : Runs G n_strconv_FormatBool [.bool b] σ (.str (if b = true then ⟨#[116, 114, 117, 101]⟩ else ⟨#[102, 97, 108, 115, 101]⟩)) σ := by
  have h : Runs G n_internal_strconv_FormatBool [.bool b] σ (.str (if b = true then ⟨#[116, 114, 117, 101]⟩ else ⟨#[102, 97, 108, 115, 101]⟩)) σ := by
    refine Runs.of (W.to (fun k _ => internal_strconv_FormatBool.eq k _ _) ?_)
    cases b
    · try simp only [q_bind_some, castInt_int, q_castBool, q_castStr, q_castPtr, q_castFn, q_castAgg, q_castTuple, q_uncons, q_isNil, q_sl, q_nils, q_emp, q_ptr, q_nilp, q_fn, q_cond_true, q_cond_false, Bool.not_true, Bool.not_false, decide_true, decide_false, List.cons_append, List.nil_append]
      exact W.ret ⟨rfl, rfl⟩
    · try simp only [q_bind_some, castInt_int, q_castBool, q_castStr, q_castPtr, q_castFn, q_castAgg, q_castTuple, q_uncons, q_isNil, q_sl, q_nils, q_emp, q_ptr, q_nilp, q_fn, q_cond_true, q_cond_false, Bool.not_true, Bool.not_false, decide_true, decide_false, List.cons_append, List.nil_append]
      exact W.ret ⟨rfl, rfl⟩
  refine Runs.of (W.to (fun k _ => strconv_FormatBool.eq k _ _) ?_)
  refine W.run h ?_
  try simp only [q_bind_some, castInt_int, q_castBool, q_castStr, q_castPtr, q_castFn, q_castAgg, q_castTuple, q_uncons, q_isNil, q_sl, q_nils, q_emp, q_ptr, q_nilp, q_fn, q_cond_true, q_cond_false, Bool.not_true, Bool.not_false, decide_true, decide_false, List.cons_append, List.nil_append]
  exact W.ret ⟨rfl, rfl⟩
def WordsP (b : Nat) (σ : Heap) (l : List ByteArray) (w : V) (σ' : Heap) : Prop := GrS b σ' w l ∧ (∀ σe : Heap, σe.length ≤ b → Lh σe σ → Lh σe σ') ∧ σ.length ≤ σ'.length
theorem words_ends (e : TreeExpr) (hR : Right e) (hm : e.many ≤ 100000) {σ0 : Heap} (hn : TabW' σ0) {b : Nat} {σ : Heap} {v : V} {l : List ByteArray} {cs : List V} (hb : σ0.length ≤ b) (hl : Lh σ0 σ) (hr : TreeExpr.Rep σ0 cs e) (hG : GrS b σ v l) (hlen : l.length + 4 * e.many ≤ 100000000) :
    HM.Ends G n_impl_TreeExpr_words [.agg cs, v] σ (WordsP b σ (l ++ e.wl)) := by
  obtain ⟨hN, hk⟩ := (right_iff e).1 hR
  have hme := TreeExpr.many_eq e
  have ih : ∀ x, x ∈ e.kids → ∀ {σ : Heap} {v : V} {l : List ByteArray} {cs : List V}, Lh σ0 σ → TreeExpr.Rep σ0 cs x → GrS b σ v l → l.length + 4 * x.many ≤ 100000000 → HM.Ends G n_impl_TreeExpr_words [.agg cs, v] σ (WordsP b σ (l ++ x.wl)) := fun x hx {σ v l cs} hl hr hG hlen =>
    words_ends x (hk x hx) (by have := totS_mem TreeExpr.many hx; omega) hn hb hl hr hG hlen
  obtain ⟨n1, n2⟩ := node_size hN
  cases hr with
  | mk hK =>
  rename_i a0
  refine HM.Ends.mk (W.to (fun k _ => impl_TreeExpr_words.eq k _ _ _ _ _ _ _) ?_)
  have hwl := TreeExpr.wl_eq e
  by_cases k1 : e.kind = 1
  · rw [if_pos k1] at hwl
    have hi : -9223372036854775808 ≤ e.num ∧ e.num ≤ 9223372036854775807 := by unfold NodeOk at hN; omega
    try simp only [q_bind_some, castInt_int, q_castBool, q_castStr, q_castPtr, q_castFn, q_castAgg, q_castTuple, q_uncons, q_isNil, q_sl, q_nils, q_emp, q_ptr, q_nilp, q_fn, q_cond_true, q_cond_false, Bool.not_true, Bool.not_false, decide_true, decide_false, List.cons_append, List.nil_append, decide_eq_true k1]
    refine W.run (itoa_runs (hl.row _ _ hn) hi.1 hi.2) ?_
    obtain ⟨v', σ', g1, g2, g3, g4⟩ := grS_appL hG [ba (Lib.itoa e.num)] (by simp) (by simp; omega)
    have g1' : vappend 1 16 σ v 1 [.str ⟨(Lib.itoa e.num).toArray⟩] = some (v', σ') := g1
    try simp only [q_bind_some, castInt_int, q_castBool, q_castStr, q_castPtr, q_castFn, q_castAgg, q_castTuple, q_uncons, q_isNil, q_sl, q_nils, q_emp, q_ptr, q_nilp, q_fn, q_cond_true, q_cond_false, Bool.not_true, Bool.not_false, decide_true, decide_false, List.cons_append, List.nil_append, g1']
    exact W.ret ⟨by rw [hwl]; exact g2, g3, g4⟩
  rw [if_neg k1] at hwl
  by_cases k2 : e.kind = 2
  · rw [if_pos k2] at hwl
    try simp only [q_bind_some, castInt_int, q_castBool, q_castStr, q_castPtr, q_castFn, q_castAgg, q_castTuple, q_uncons, q_isNil, q_sl, q_nils, q_emp, q_ptr, q_nilp, q_fn, q_cond_true, q_cond_false, Bool.not_true, Bool.not_false, decide_true, decide_false, List.cons_append, List.nil_append, decide_eq_false k1, decide_eq_true k2]
    refine W.run (formatBool_runs _ _) ?_
    have hbw : (if decide (e.num = 1) = true then (⟨#[116, 114, 117, 101]⟩ : ByteArray) else ⟨#[102, 97, 108, 115, 101]⟩) = boolW e.num := by unfold boolW; simp
    rw [hbw]
    obtain ⟨v', σ', g1, g2, g3, g4⟩ := grS_appL hG [boolW e.num] (by simp) (by simp; omega)
    have g1' : vappend 1 16 σ v 1 [.str (boolW e.num)] = some (v', σ') := g1
    try simp only [q_bind_some, castInt_int, q_castBool, q_castStr, q_castPtr, q_castFn, q_castAgg, q_castTuple, q_uncons, q_isNil, q_sl, q_nils, q_emp, q_ptr, q_nilp, q_fn, q_cond_true, q_cond_false, Bool.not_true, Bool.not_false, decide_true, decide_false, List.cons_append, List.nil_append, g1']
    exact W.ret ⟨by rw [hwl]; exact g2, g3, g4⟩
  rw [if_neg k2] at hwl
  by_cases k3 : e.kind = 3
  · rw [if_pos k3] at hwl
    obtain ⟨v', σ', g1, g2, g3, g4⟩ := grS_appL hG [e.name] (by simp) (by simp; omega)
    have g1' : vappend 1 16 σ v 1 [.str e.name] = some (v', σ') := g1
    try simp only [q_bind_some, castInt_int, q_castBool, q_castStr, q_castPtr, q_castFn, q_castAgg, q_castTuple, q_uncons, q_isNil, q_sl, q_nils, q_emp, q_ptr, q_nilp, q_fn, q_cond_true, q_cond_false, Bool.not_true, Bool.not_false, decide_true, decide_false, List.cons_append, List.nil_append, decide_eq_false k1, decide_eq_false k2, decide_eq_true k3, g1']
    exact W.ret ⟨by rw [hwl]; exact g2, g3, g4⟩
  rw [if_neg k3] at hwl
  obtain ⟨v1, σ1, a1, a2, a3, a4⟩ := grS_appL hG [open1] (by simp) (by simp; omega)
  have a1' : vappend 1 16 σ v 1 [.str (⟨#[40]⟩ : ByteArray)] = some (v1, σ1) := a1
  try simp only [q_bind_some, castInt_int, q_castBool, q_castStr, q_castPtr, q_castFn, q_castAgg, q_castTuple, q_uncons, q_isNil, q_sl, q_nils, q_emp, q_ptr, q_nilp, q_fn, q_cond_true, q_cond_false, Bool.not_true, Bool.not_false, decide_true, decide_false, List.cons_append, List.nil_append, decide_eq_false k1, decide_eq_false k2, decide_eq_false k3, a1']
  obtain ⟨q1, q2, q3⟩ := head_le e.kind e.name e.mod n1 n2
  obtain ⟨v2, σ2, b1, b2, b3, b4⟩ := grS_appL a2 (headW e.kind e.name e.mod) q2 (by simp; omega)
  have hmx := totS_take_le TreeExpr.many e.kids
  have hkl := many_ge e.kids
  suffices tail : W (ι := Unit) (WordsP b σ (l ++ e.wl)) (fun _ => False) (fun k _ => (vlen a0).bind fun k16 => (impl_TreeExpr_words.L0 k k [.v v2, .v a0, .v (.int .i64 (k16 : Int)), .v (.int .i64 0)] σ2).bind (impl_TreeExpr_words.A0 k)) by
    by_cases k5 : e.kind = 5
    · have hh : headW e.kind e.name e.mod = [⟨#[105, 102]⟩] := by unfold headW; rw [if_pos k5]
      rw [hh] at b1
      have b1' : vappend 1 16 σ1 v1 1 [.str (⟨#[105, 102]⟩ : ByteArray)] = some (v2, σ2) := b1
      try simp only [q_bind_some, castInt_int, q_castBool, q_castStr, q_castPtr, q_castFn, q_castAgg, q_castTuple, q_uncons, q_isNil, q_sl, q_nils, q_emp, q_ptr, q_nilp, q_fn, q_cond_true, q_cond_false, Bool.not_true, Bool.not_false, decide_true, decide_false, List.cons_append, List.nil_append, decide_eq_true k5, b1']
      exact tail
    by_cases k6 : e.kind = 6
    · have hh : headW e.kind e.name e.mod = [⟨#[108, 101, 116]⟩, e.name] := by unfold headW; rw [if_neg k5, if_pos k6]
      rw [hh] at b1
      have b1' : vappend 1 16 σ1 v1 2 [.str (⟨#[108, 101, 116]⟩ : ByteArray), .str e.name] = some (v2, σ2) := b1
      try simp only [q_bind_some, castInt_int, q_castBool, q_castStr, q_castPtr, q_castFn, q_castAgg, q_castTuple, q_uncons, q_isNil, q_sl, q_nils, q_emp, q_ptr, q_nilp, q_fn, q_cond_true, q_cond_false, Bool.not_true, Bool.not_false, decide_true, decide_false, List.cons_append, List.nil_append, decide_eq_false k5, decide_eq_true k6, b1']
      exact tail
    by_cases k8 : e.kind = 8
    · have hh : headW e.kind e.name e.mod = [⟨#[114, 111, 119]⟩] := by unfold headW; rw [if_neg k5, if_neg k6, if_pos k8]
      rw [hh] at b1
      have b1' : vappend 1 16 σ1 v1 1 [.str (⟨#[114, 111, 119]⟩ : ByteArray)] = some (v2, σ2) := b1
      try simp only [q_bind_some, castInt_int, q_castBool, q_castStr, q_castPtr, q_castFn, q_castAgg, q_castTuple, q_uncons, q_isNil, q_sl, q_nils, q_emp, q_ptr, q_nilp, q_fn, q_cond_true, q_cond_false, Bool.not_true, Bool.not_false, decide_true, decide_false, List.cons_append, List.nil_append, decide_eq_false k5, decide_eq_false k6, decide_eq_true k8, b1']
      exact tail
    by_cases km : e.mod = (⟨#[]⟩ : ByteArray)
    · have hh : headW e.kind e.name e.mod = [e.name] := by unfold headW; rw [if_neg k5, if_neg k6, if_neg k8, if_neg (by simpa using km)]
      rw [hh] at b1
      have b1' : vappend 1 16 σ1 v1 1 [.str e.name] = some (v2, σ2) := b1
      try simp only [q_bind_some, castInt_int, q_castBool, q_castStr, q_castPtr, q_castFn, q_castAgg, q_castTuple, q_uncons, q_isNil, q_sl, q_nils, q_emp, q_ptr, q_nilp, q_fn, q_cond_true, q_cond_false, Bool.not_true, Bool.not_false, decide_true, decide_false, List.cons_append, List.nil_append, decide_eq_false k5, decide_eq_false k6, decide_eq_false k8, decide_eq_true km, b1']
      exact tail
    · have hh : headW e.kind e.name e.mod = [(e.mod ++ (⟨#[46]⟩ : ByteArray)) ++ e.name] := by unfold headW; rw [if_neg k5, if_neg k6, if_neg k8, if_pos km]
      rw [hh] at b1
      have b1' : vappend 1 16 σ1 v1 1 [.str ((e.mod ++ (⟨#[46]⟩ : ByteArray)) ++ e.name)] = some (v2, σ2) := b1
      have e62 : (2 : Nat) ^ 62 = 4611686018427387904 := by decide
      have hs1 : (e.mod ++ (⟨#[46]⟩ : ByteArray)).size = e.mod.size + 1 := ByteArray.size_append
      have z1 : e.mod.size + (⟨#[46]⟩ : ByteArray).size ≤ 2 ^ 62 := by rw [e62]; show e.mod.size + 1 ≤ _; omega
      have z2 : (e.mod ++ (⟨#[46]⟩ : ByteArray)).size + e.name.size ≤ 2 ^ 62 := by rw [e62, hs1]; omega
      try simp only [q_bind_some, castInt_int, q_castBool, q_castStr, q_castPtr, q_castFn, q_castAgg, q_castTuple, q_uncons, q_isNil, q_sl, q_nils, q_emp, q_ptr, q_nilp, q_fn, q_cond_true, q_cond_false, Bool.not_true, Bool.not_false, decide_true, decide_false, List.cons_append, List.nil_append, decide_eq_false k5, decide_eq_false k6, decide_eq_false k8, decide_eq_false km, if_pos z1, if_pos z2, b1']
      exact tail
  have ext2 : ∀ σe : Heap, σe.length ≤ b → Lh σe σ → Lh σe σ2 := fun σe he h => b3 σe he (a3 σe he h)
  refine W.len hK ?_
  refine W.loop (S := Nat × V × Heap) (fun s => s.1 ≤ e.kids.length ∧ GrS b s.2.2 s.2.1 (l ++ [open1] ++ headW e.kind e.name e.mod ++ TreeExpr.wlS (e.kids.take s.1)) ∧ (∀ σe : Heap, σe.length ≤ b → Lh σe σ → Lh σe s.2.2) ∧ σ.length ≤ s.2.2.length)
    (fun s => [.v s.2.1, .v a0, .v (.int .i64 (e.kids.length : Int)), .v (.int .i64 (s.1 : Int))]) (fun s => s.2.2) (fun s => e.kids.length - s.1)
    (fun ⟨i, vi, σi⟩ ⟨hi, hGi, hext, hle⟩ => ?_) (0, v2, σ2) ⟨Nat.zero_le _, by simpa [TreeExpr.wlS] using b2, ext2, Nat.le_trans a4 b4⟩
  simp only at hi hGi hext hle ⊢
  have hwi : (TreeExpr.wlS (e.kids.take i)).length ≤ 4 * totS TreeExpr.many (e.kids.take i) := by
    rw [TreeExpr.wlS_eq, (flat_tot TreeExpr.wl ByteArray.size _).1]
    exact tot_le 4 _ fun x hx => (wl_le x (hk x (List.mem_of_mem_take hx))).1
  have hmi := hmx i
  refine W.to (fun k _ => by rw [impl_TreeExpr_words.L0_step]) ?_
  refine B.ite (fun hlt => ?_) fun hlt => ?_
  · have hil : i < e.kids.length := by omega
    have hx : e.kids[i]? = some e.kids[i] := List.getElem?_eq_getElem hil
    generalize e.kids[i] = x at hx
    have hxm := List.mem_of_getElem? hx
    have hmt : totS TreeExpr.many (e.kids.take (i + 1)) = totS TreeExpr.many (e.kids.take i) + x.many := by rw [take_next' hx, totS_append]; simp [totS]
    have hmt2 := hmx (i + 1)
    obtain ⟨r, o, hv, cs, hr, hP⟩ := hK.at' hx
    have hl0 := hext σ0 hb hl
    have hr' := hl0.rdc hr
    have hP' := hP
    cases hP with
    | mk hkk =>
    try simp only [q_bind_some, castInt_int, q_castBool, q_castStr, q_castPtr, q_castFn, q_castAgg, q_castTuple, q_uncons, q_isNil, q_sl, q_nils, q_emp, q_ptr, q_nilp, q_fn, q_cond_true, q_cond_false, Bool.not_true, Bool.not_false, decide_true, decide_false, List.cons_append, List.nil_append, hv, hr']
    refine B.call (ih x hxm hl0 hP' hGi (by simp only [List.length_append, List.length_cons, List.length_nil]; omega)) ?_
    rintro w σ' ⟨h1, h2, h3⟩
    try simp only [q_bind_some, castInt_int, q_castBool, q_castStr, q_castPtr, q_castFn, q_castAgg, q_castTuple, q_uncons, q_isNil, q_sl, q_nils, q_emp, q_ptr, q_nilp, q_fn, q_cond_true, q_cond_false, Bool.not_true, Bool.not_false, decide_true, decide_false, List.cons_append, List.nil_append, wrap_next hil (by omega)]
    exact W.again (i + 1, w, σ') ⟨by show i + 1 ≤ e.kids.length; omega, by rw [wlS_next hx, ← List.append_assoc]; exact h1, fun σe he h => h2 σe he (hext σe he h), Nat.le_trans hle h3⟩ (by simp only; omega) rfl rfl
  · obtain rfl : i = e.kids.length := by omega
    rw [List.take_length] at hGi hwi
    obtain ⟨v3, σ3, c1, c2, c3, c4⟩ := grS_appL hGi [shut1] (by simp) (by simp only [List.length_append, List.length_cons, List.length_nil]; omega)
    have c1' : vappend 1 16 σi vi 1 [.str (⟨#[41]⟩ : ByteArray)] = some (v3, σ3) := c1
    try simp only [q_bind_some, castInt_int, q_castBool, q_castStr, q_castPtr, q_castFn, q_castAgg, q_castTuple, q_uncons, q_isNil, q_sl, q_nils, q_emp, q_ptr, q_nilp, q_fn, q_cond_true, q_cond_false, Bool.not_true, Bool.not_false, decide_true, decide_false, List.cons_append, List.nil_append, impl_TreeExpr_words.A0_x2, c1']
    refine W.ret ⟨?_, fun σe he h => c3 σe he (hext σe he h), Nat.le_trans hle c4⟩
    rw [hwl]
    simpa [List.append_assoc] using c2
termination_by SizeOf.sizeOf e
decreasing_by
  all_goals
    cases e
    have := List.sizeOf_lt_of_mem hx
    simp at this ⊢
    omega
end Go.D

/- Parameters and bodies. -/
set_option linter.unusedVariables false
set_option linter.unusedSimpArgs false
namespace Go.D
open Go.HM Go.Proofs
theorem argNames_runs {σ : Heap} {v : V} {l : List TreeArg} (hf : l.length ≤ 1048576) (h : RepS 2 (TreeArg.Rep σ) σ v l) :
    ∃ v' σ', Lh σ σ' ∧ RepS 1 StrRep σ' v' (l.map (·.name)) ∧ Runs G n_impl_argNames [v] σ v' σ' := by
  obtain ⟨w, σ', ⟨hl, hg⟩, he⟩ := loop (L := impl_argNames.L0) (A := impl_argNames.A0) (S := Nat × V × Heap)
    (Inv := fun s => s.1 ≤ l.length ∧ Lh σ s.2.2 ∧ Grown σ.length 1 StrRep s.2.2 s.2.1 ((l.take s.1).map (·.name))) (Good := fun w σ' => Lh σ σ' ∧ RepS 1 StrRep σ' w (l.map (·.name)))
    (vals := fun s => [.v s.2.1, .v v, .v (.int .i64 (l.length : Int)), .v (.int .i64 (s.1 : Int))]) (hp := fun s => s.2.2) (far := fun s => l.length - s.1) (fun ⟨i, u, σi⟩ ⟨hi, hle, hg⟩ => by
      simp only at hi hle hg ⊢
      have hle' : RepS 2 (TreeArg.Rep σi) σi v l := h.mono hle fun cs x _ hc => TreeArg.Rep.le hle hc
      by_cases hlt : i < l.length
      · obtain ⟨r, o, hv, cs, hr, hP⟩ := hle'.at hlt
        have ht := take_next hlt
        generalize l[i] = x at hP ht
        cases hP with
        | mk =>
        have hw : IntKind.wrap .i64 ((i : Int) + 1) = ((i + 1 : Nat) : Int) := wrap_id (by omega) (by omega)
        have hli : ((l.take i).map (·.name)).length ≤ 1048576 := by rw [List.length_map, List.length_take]; omega
        obtain ⟨u', σ', ha, hg', hk⟩ := hg.app (bytes := 16) (Chunks.one (P := StrRep) (cs := [.str x.name]) (x := x.name) rfl) (by simp only [List.length_singleton]; omega) (by simp only [List.length_singleton]; omega)
        have ha' : vappend 1 16 σi u 1 [.str x.name] = some (u', σ') := ha
        refine .inr ⟨(i + 1, u', σ'), ⟨hlt, hk σ (Nat.le_refl _) hle, ?_⟩, by simp only; omega, Ev.now fun k m => ?_⟩
        · simp only
          rw [ht, List.map_append]
          exact hg'
        · rw [impl_argNames.L0_step]
          simp [hlt, hv, hr, ha']
          rw [hw]
          rfl
      · refine .inl ⟨u, σi, ⟨hle, ?_⟩, Ev.now fun k m => ?_⟩
        · rw [List.take_of_length_le (by omega)] at hg
          exact hg.rep fun cs x _ hc => hc
        · rw [impl_argNames.L0_step]
          simp [hlt, impl_argNames.A0_x0]) (0, .sl σ.length 0 0 true, hnew σ 1 []) ⟨Nat.zero_le _, Lh.new _ _ _, Grown.start σ 1 StrRep true⟩
  refine ⟨w, σ', hl, hg, Runs.mk ((Ev.far l.length he).mono fun k ⟨e, hk⟩ => ?_)⟩
  rw [impl_argNames.eq, h.vlen]
  exact e k (by simpa using hk)
theorem containsArg_gives {σ : Heap} {v : V} {l : List TreeArg} (hf : l.length ≤ 9223372036854775807) (h : RepS 2 (TreeArg.Rep σ) σ v l) (f : FuncId) (P : TreeArg → Prop)
    (hx : ∀ x, x ∈ l → ∀ σ cs, TreeArg.Rep σ cs x → ∃ b, (b = true ↔ P x) ∧ Gives G f [.agg cs] σ (.bool b)) : Gives G n_slices_ContainsFunc_impl_TreeArg_impl_TreeArg [v, .fn f []] σ (.bool (has P l)) := by
  obtain ⟨w, σ', ⟨hl, n, hn, rfl⟩, he⟩ := loop (L := slices_IndexFunc_impl_TreeArg_impl_TreeArg.L0) (A := slices_IndexFunc_impl_TreeArg_impl_TreeArg.A0) (S := Nat × Heap)
    (Inv := fun s => s.1 ≤ l.length ∧ Lh σ s.2 ∧ ∀ x, x ∈ l.take s.1 → ¬ P x) (Good := fun w σ' => Lh σ σ' ∧ ∃ n : Int, (0 ≤ n ↔ ∃ x, x ∈ l ∧ P x) ∧ w = .int .i64 n)
    (vals := fun s => [.v v, .v (.fn f []), .v (.int .i64 (l.length : Int)), .v (.int .i64 (s.1 : Int))]) (hp := fun s => s.2) (far := fun s => l.length - s.1) (fun ⟨i, σi⟩ ⟨hi, hle, hok⟩ => by
      simp only at hi hle hok ⊢
      have hle' : RepS 2 (TreeArg.Rep σi) σi v l := h.mono hle fun cs x _ hc => TreeArg.Rep.le hle hc
      by_cases hlt : i < l.length
      · obtain ⟨r, o, hv, cs, hr, hP⟩ := hle'.at hlt
        have hm : l[i] ∈ l := List.getElem_mem hlt
        obtain ⟨b, hb, σ1, l1, c1⟩ := hx _ hm σi cs hP
        have ht := take_next hlt
        generalize l[i] = x at hP hm hb ht
        cases hP with
        | mk =>
        have hw : IntKind.wrap .i64 ((i : Int) + 1) = ((i + 1 : Nat) : Int) := wrap_id (by omega) (by omega)
        cases b with
        | true =>
          refine .inl ⟨.int .i64 (i : Int), σ1, ⟨hle.trans l1, (i : Int), ?_, rfl⟩, c1.mono fun k e1 m => ?_⟩
          · exact ⟨fun _ => ⟨x, hm, hb.1 rfl⟩, fun _ => by omega⟩
          · rw [slices_IndexFunc_impl_TreeArg_impl_TreeArg.L0_step]
            simp [hlt, hv, hr, e1, slices_IndexFunc_impl_TreeArg_impl_TreeArg.A0_ret]
        | false =>
          refine .inr ⟨(i + 1, σ1), ⟨hlt, hle.trans l1, fun y hy => ?_⟩, by simp only; omega, c1.mono fun k e1 m => ?_⟩
          · rw [ht] at hy
            rcases List.mem_append.1 hy with h1 | h1
            · exact hok y h1
            · simp at h1; rw [h1]; intro hc; have := hb.2 hc; cases this
          · rw [slices_IndexFunc_impl_TreeArg_impl_TreeArg.L0_step]
            simp [hlt, hv, hr, e1]
            rw [hw]
            rfl
      · refine .inl ⟨.int .i64 (-1), σi, ⟨hle, -1, ?_, rfl⟩, Ev.now fun k m => ?_⟩
        · rw [List.take_of_length_le (by omega)] at hok
          simp
          exact hok
        · rw [slices_IndexFunc_impl_TreeArg_impl_TreeArg.L0_step]
          simp [hlt, slices_IndexFunc_impl_TreeArg_impl_TreeArg.A0_x0]) (0, σ) ⟨Nat.zero_le _, Lh.refl _, fun x hx => by simp at hx⟩
  have c2 : Runs G n_slices_IndexFunc_impl_TreeArg_impl_TreeArg [v, .fn f []] σ (.int .i64 n) σ' := Runs.mk ((Ev.far l.length he).mono fun k ⟨e, hk⟩ => by
    rw [slices_IndexFunc_impl_TreeArg_impl_TreeArg.eq, h.vlen]
    exact e k (by simpa using hk))
  refine Gives.mk hl (c2.mono fun k e => ?_)
  rw [slices_ContainsFunc_impl_TreeArg_impl_TreeArg.eq, e]
  have : has P l = decide (0 ≤ n) := by
    by_cases h0 : 0 ≤ n
    · rw [has_true.2 (hn.1 h0)]; simp [h0]
    · rw [has_false.2 fun x hx hp => h0 (hn.2 ⟨x, hx, hp⟩)]; simp [h0]
  rw [this]
  rfl
def IsType (n : Int) : Prop := 1 ≤ n ∧ n ≤ 3
theorem treeOk1_gives (x : TreeArg) (σ : Heap) (cs : List V) (hr : TreeArg.Rep σ cs x) : ∃ b, (b = true ↔ ¬ IsType x.type) ∧ Gives G n_impl_TreeOk_1 [.agg cs] σ (.bool b) := by
  cases hr with
  | mk =>
  refine ⟨!decide (1 ≤ x.type ∧ x.type ≤ 3), by simp [IsType]; omega, Gives.mk (Lh.refl σ) ((isType_runs (σ := σ) x.type).mono fun k e => ?_)⟩
  rw [impl_TreeOk_1.eq, e]
  rfl
def bodies (m : TreeMod) : List TreeExpr := m.funs.map (·.body) ++ m.main
theorem bodies_runs {σ : Heap} {m : TreeMod} (hf : m.funs.length ≤ 1048576) (hm : m.main.length ≤ 1048576) {cs : List V} (hr : TreeMod.Rep σ cs m) :
    ∃ v' σ', Lh σ σ' ∧ RepS 5 (TreeExpr.Rep σ') σ' v' (bodies m) ∧ Runs G n_impl_TreeMod_bodies [.agg cs] σ v' σ' := by
  cases hr with
  | mk h0 h1 h2 =>
  rename_i a0 a1 a2
  obtain ⟨w, σ', ⟨hl, hg⟩, he⟩ := loop (L := impl_TreeMod_bodies.L0) (A := impl_TreeMod_bodies.A0) (S := Nat × V × Heap)
    (Inv := fun s => s.1 ≤ m.funs.length ∧ Lh σ s.2.2 ∧ Grown σ.length 5 (TreeExpr.Rep σ) s.2.2 s.2.1 ((m.funs.take s.1).map (·.body))) (Good := fun w σ' => Lh σ σ' ∧ RepS 5 (TreeExpr.Rep σ') σ' w (bodies m))
    (vals := fun s => [.box [a0, a1, a2], .v s.2.1, .v a1, .v (.int .i64 (m.funs.length : Int)), .v (.int .i64 (s.1 : Int))]) (hp := fun s => s.2.2) (far := fun s => m.funs.length - s.1) (fun ⟨i, u, σi⟩ ⟨hi, hle, hg⟩ => by
      simp only at hi hle hg ⊢
      by_cases hlt : i < m.funs.length
      · obtain ⟨r, o, hv, cs, hr, hP⟩ := h1.at hlt
        have hr2 := hle.rdc hr
        have ht := take_next hlt
        generalize m.funs[i] = x at hP ht
        cases hP with
        | mk k0 k1 =>
        rename_i b0 b1
        have hw : IntKind.wrap .i64 ((i : Int) + 1) = ((i + 1 : Nat) : Int) := wrap_id (by omega) (by omega)
        have hli : ((m.funs.take i).map (·.body)).length ≤ 1048576 := by rw [List.length_map, List.length_take]; omega
        obtain ⟨u', σ', ha, hg', hk⟩ := hg.app (bytes := 72) (Chunks.one (P := TreeExpr.Rep σ) (cs := [.int .i64 x.body.kind, .int .i64 x.body.num, .str x.body.name, .str x.body.mod, b1]) (x := x.body) (.mk k1)) (by simp only [List.length_singleton]; omega) (by simp only [List.length_singleton]; omega)
        have ha' : vappend 5 72 σi u 1 [.int .i64 x.body.kind, .int .i64 x.body.num, .str x.body.name, .str x.body.mod, b1] = some (u', σ') := ha
        refine .inr ⟨(i + 1, u', σ'), ⟨hlt, hk σ (Nat.le_refl _) hle, ?_⟩, by simp only; omega, Ev.now fun k m => ?_⟩
        · simp only
          rw [ht, List.map_append]
          exact hg'
        · rw [impl_TreeMod_bodies.L0_step]
          simp [hlt, hv, hr2, ha']
          rw [hw]
          rfl
      · rw [List.take_of_length_le (by omega)] at hg
        obtain ⟨cs, hc, hch⟩ := (h2.le hle).cells
        obtain ⟨u', σ', ha, hg', hk⟩ := hg.app (bytes := 72) hch (by rw [List.length_map]; omega) (by rw [List.length_map]; omega)
        have hl' := hk σ (Nat.le_refl _) hle
        refine .inl ⟨u', σ', ⟨hl', hg'.rep fun cs x _ hc => TreeExpr.Rep.le hl' x hc⟩, Ev.now fun k m => ?_⟩
        rw [impl_TreeMod_bodies.L0_step]
        simp [hlt, impl_TreeMod_bodies.A0_x0, hc, ha]) (0, .sl σ.length 0 0 true, hnew σ 5 []) ⟨Nat.zero_le _, Lh.new _ _ _, Grown.start σ 5 (TreeExpr.Rep σ) true⟩
  refine ⟨w, σ', hl, hg, Runs.mk ((Ev.far m.funs.length he).mono fun k ⟨e, hk⟩ => ?_)⟩
  rw [impl_TreeMod_bodies.eq, h1.vlen]
  exact e k (by simpa using hk)
end Go.D

/- What the reference asks of a function and of the module's size. -/
set_option linter.unusedVariables false
set_option linter.unusedSimpArgs false
namespace Go.D
open Go.HM Go.Proofs
def FunOk (f : TreeFun) : Prop := IsName f.name ∧ f.args.length ≤ 4 ∧ IsType f.type ∧ Right f.body ∧ (∀ x, x ∈ f.args → IsType x.type) ∧ AllNames (f.args.map (·.name))
noncomputable instance (f : TreeFun) : Decidable (FunOk f) := Classical.propDecidable _
/-- The sizes, as they come. -/
def sizesOk : Nat → List TreeExpr → Prop
  | _, [] => True
  | n, e :: es => n + e.many ≤ 150 ∧ e.deep ≤ 16 ∧ sizesOk (n + e.many) es
noncomputable instance (n : Nat) (l : List TreeExpr) : Decidable (sizesOk n l) := Classical.propDecidable _
theorem l2Size_runs {σ : Heap} {m : TreeMod} (ht : m.total ≤ 1048576) {cs : List V} (hr : TreeMod.Rep σ cs m) : Runs G n_spec_l2Size [.agg cs] σ (.bool (decide (sizesOk 0 (bodies m)))) σ := by
  have hl1 : m.funs.length ≤ 1048576 := by rw [TreeMod.total_eq] at ht; omega
  have hl2 : m.main.length ≤ 1048576 := by rw [TreeMod.total_eq] at ht; omega
  have hb : ∀ x, x ∈ bodies m → x.total ≤ 1048576 := by
    intro x hx
    rw [TreeMod.total_eq] at ht
    rcases List.mem_append.1 hx with h | h
    · obtain ⟨f, hf, rfl⟩ := List.mem_map.1 h
      have h1 := totS_mem TreeFun.total hf
      rw [TreeFun.total_eq f] at h1
      omega
    · have := totS_mem TreeExpr.total h
      omega
  cases hr with
  | mk h0 h1 h2 =>
  rename_i a0 a1 a2
  have hlen : (bodies m).length = m.funs.length + m.main.length := by simp [bodies]
  have hw0 : IntKind.wrap .i64 ((m.funs.length : Int) + (m.main.length : Int)) = (((bodies m).length : Nat) : Int) := by rw [wrap_id (by omega) (by omega), hlen]; omega
  obtain ⟨w, σ', ⟨rfl, rfl⟩, he⟩ := loop (L := spec_l2Size.L0) (A := spec_l2Size.A0) (S := Nat × Nat)
    (Inv := fun s => s.1 ≤ (bodies m).length ∧ s.2 ≤ 150 ∧ (sizesOk 0 (bodies m) ↔ sizesOk s.2 ((bodies m).drop s.1))) (Good := fun w σ' => σ' = σ ∧ w = .bool (decide (sizesOk 0 (bodies m))))
    (vals := fun s => [.box [a0, a1, a2], .v (.int .i64 (s.2 : Int)), .v (.int .i64 (s.1 : Int))]) (hp := fun s => σ) (far := fun s => (bodies m).length - s.1) (fun ⟨i, n⟩ ⟨hi, hn, hok⟩ => by
      simp only at hi hn hok ⊢
      by_cases hlt : i < (bodies m).length
      · have hd : (bodies m).drop i = (bodies m)[i] :: (bodies m).drop (i + 1) := List.drop_eq_getElem_cons hlt
        have hm := hb _ (List.getElem_mem hlt)
        have hmem := TreeExpr.many_le (bodies m)[i]
        have hw : IntKind.wrap .i64 ((i : Int) + 1) = ((i + 1 : Nat) : Int) := wrap_id (by omega) (by omega)
        by_cases hf : i < m.funs.length
        · obtain ⟨r, o, hv, cs, hr, hP⟩ := h1.at hf
          have he : (bodies m)[i] = m.funs[i].body := by simp [bodies, List.getElem_append_left, hf]
          have hr4 := rdc_sub hr 4 5 (by omega)
          rw [he] at hd hm hmem
          generalize m.funs[i] = fn at hP hd hm hmem
          cases hP with
          | mk q0 q1 =>
          have c := specTreeNodes_runs (σ := σ) fn.body hm (.mk q1)
          generalize hx : fn.body = x at hd hm hmem c hr4
          have hr5 : rdc σ r (o + 4) 5 = some [.int .i64 x.kind, .int .i64 x.num, .str x.name, .str x.mod, _] := hr4
          have hlf : (i : Int) < (m.funs.length : Int) := by omega
          have hlb : (i : Int) < (((bodies m).length : Nat) : Int) := by omega
          have hw1 : IntKind.wrap .i64 ((n : Int) + (x.many : Int)) = ((n + x.many : Nat) : Int) := by rw [wrap_id (by omega) (by omega)]; omega
          by_cases g1 : n + x.many ≤ 150
          · have g1' : ¬ (150 : Int) < ((n + x.many : Nat) : Int) := by omega
            by_cases g2 : x.deep ≤ 16
            · have g2' : ¬ (16 : Int) < (x.deep : Int) := by omega
              refine .inr ⟨(i + 1, n + x.many), ⟨hlt, g1, ?_⟩, by simp only; omega, c.mono fun k e1 m' => ?_⟩
              · rw [hok, hd]; simp [sizesOk, g1, g2]
              · rw [spec_l2Size.L0_step, h1.vlen, h2.vlen]
                simp only [Option.bind_some, hw0, hlb, hlf, hv, hr5, e1, uncons_cons, castInt_int, castStr_str, castBool_bool, isNil_nil, castTuple_tuple, hw1, g1', g2', decide_false, cond_false, decide_true, cond_true, hw]
            · have g2' : (16 : Int) < (x.deep : Int) := by omega
              have hno : ¬ sizesOk 0 (bodies m) := by rw [hok, hd]; simp [sizesOk, g2]
              refine .inl ⟨_, σ, ⟨rfl, rfl⟩, c.mono fun k e1 m' => ?_⟩
              rw [spec_l2Size.L0_step, h1.vlen, h2.vlen]
              simp only [Option.bind_some, hw0, hlb, hlf, hv, hr5, e1, uncons_cons, castInt_int, castStr_str, castBool_bool, isNil_nil, castTuple_tuple, hw1, g1', g2', decide_false, cond_false, decide_true, cond_true, spec_l2Size.A0_ret, hno]
          · have g1' : (150 : Int) < ((n + x.many : Nat) : Int) := by omega
            have hno : ¬ sizesOk 0 (bodies m) := by rw [hok, hd]; simp [sizesOk, g1]
            refine .inl ⟨_, σ, ⟨rfl, rfl⟩, c.mono fun k e1 m' => ?_⟩
            rw [spec_l2Size.L0_step, h1.vlen, h2.vlen]
            simp only [Option.bind_some, hw0, hlb, hlf, hv, hr5, e1, uncons_cons, castInt_int, castStr_str, castBool_bool, isNil_nil, castTuple_tuple, hw1, g1', decide_false, cond_false, decide_true, cond_true, spec_l2Size.A0_ret, hno]
        · have hi2 : i - m.funs.length < m.main.length := by omega
          obtain ⟨r, o, hv, cs, hr, hP⟩ := h2.at hi2
          have he : (bodies m)[i] = m.main[i - m.funs.length] := by
            simp only [bodies]
            rw [List.getElem_append_right (by rw [List.length_map]; omega)]
            simp only [List.length_map]
          rw [he] at hd hm hmem
          generalize m.main[i - m.funs.length] = x at hP hd hm hmem
          have c := specTreeNodes_runs (σ := σ) x hm hP
          cases hP with
          | mk q1 =>
          have hlf : ¬ (i : Int) < (m.funs.length : Int) := by omega
          have hlb : (i : Int) < (((bodies m).length : Nat) : Int) := by omega
          have hws : IntKind.wrap .i64 ((i : Int) - (m.funs.length : Int)) = ((i - m.funs.length : Nat) : Int) := by rw [wrap_id (by omega) (by omega)]; omega
          have hw1 : IntKind.wrap .i64 ((n : Int) + (x.many : Int)) = ((n + x.many : Nat) : Int) := by rw [wrap_id (by omega) (by omega)]; omega
          by_cases g1 : n + x.many ≤ 150
          · have g1' : ¬ (150 : Int) < ((n + x.many : Nat) : Int) := by omega
            by_cases g2 : x.deep ≤ 16
            · have g2' : ¬ (16 : Int) < (x.deep : Int) := by omega
              refine .inr ⟨(i + 1, n + x.many), ⟨hlt, g1, ?_⟩, by simp only; omega, c.mono fun k e1 m' => ?_⟩
              · rw [hok, hd]; simp [sizesOk, g1, g2]
              · rw [spec_l2Size.L0_step, h1.vlen, h2.vlen]
                simp only [Option.bind_some, hw0, hlb, hlf, hws, hv, hr, e1, uncons_cons, castInt_int, castStr_str, castBool_bool, isNil_nil, castTuple_tuple, hw1, g1', g2', decide_false, cond_false, decide_true, cond_true, hw]
            · have g2' : (16 : Int) < (x.deep : Int) := by omega
              have hno : ¬ sizesOk 0 (bodies m) := by rw [hok, hd]; simp [sizesOk, g2]
              refine .inl ⟨_, σ, ⟨rfl, rfl⟩, c.mono fun k e1 m' => ?_⟩
              rw [spec_l2Size.L0_step, h1.vlen, h2.vlen]
              simp only [Option.bind_some, hw0, hlb, hlf, hws, hv, hr, e1, uncons_cons, castInt_int, castStr_str, castBool_bool, isNil_nil, castTuple_tuple, hw1, g1', g2', decide_false, cond_false, decide_true, cond_true, spec_l2Size.A0_ret, hno]
          · have g1' : (150 : Int) < ((n + x.many : Nat) : Int) := by omega
            have hno : ¬ sizesOk 0 (bodies m) := by rw [hok, hd]; simp [sizesOk, g1]
            refine .inl ⟨_, σ, ⟨rfl, rfl⟩, c.mono fun k e1 m' => ?_⟩
            rw [spec_l2Size.L0_step, h1.vlen, h2.vlen]
            simp only [Option.bind_some, hw0, hlb, hlf, hws, hv, hr, e1, uncons_cons, castInt_int, castStr_str, castBool_bool, isNil_nil, castTuple_tuple, hw1, g1', decide_false, cond_false, decide_true, cond_true, spec_l2Size.A0_ret, hno]
      · refine .inl ⟨_, σ, ⟨rfl, rfl⟩, Ev.now fun k m' => ?_⟩
        rw [List.drop_eq_nil_of_le (by omega)] at hok
        have : sizesOk 0 (bodies m) := hok.2 trivial
        rw [spec_l2Size.L0_step, h1.vlen, h2.vlen]
        simp only [Option.bind_some, hw0, Int.ofNat_lt, hlt, decide_false, cond_false, spec_l2Size.A0_x0]
        simp [this]) (0, 0) ⟨Nat.zero_le _, Nat.zero_le _, Iff.rfl⟩
  refine Runs.mk ((Ev.far (bodies m).length he).mono fun k ⟨e, hk⟩ => ?_)
  rw [spec_l2Size.eq]
  exact e k (by simpa using hk)
end Go.D

/- What the reference asks of a function. -/
set_option linter.unusedVariables false
set_option linter.unusedSimpArgs false
namespace Go.D
open Go.HM Go.Proofs
theorem l2Fun_gives {σ : Heap} {f : TreeFun} (hF : f.Fit) {cs : List V} (hr : TreeFun.Rep σ cs f) : Gives G n_spec_l2Fun [.agg cs] σ (.bool (decide (FunOk f))) := by
  cases hF with
  | mk f0 f1 f2 f3 f4 =>
  cases hr with
  | mk h1 h2 =>
  rename_i a3 a9
  have hargs : ∀ x, x ∈ f.args → x.name.size ≤ 9223372036854775807 := fun x hx => by have := f2 x hx; cases this with | mk g0 g1 => exact g0
  obtain ⟨σ1, l1, c1⟩ := specLexName_gives σ f.name f0
  by_cases hn : IsName f.name
  rotate_left
  · refine Gives.mk l1 (c1.mono fun k e1 => ?_)
    have : ¬ FunOk f := fun h => hn h.1
    rw [spec_l2Fun.eq]; simp [e1, hn, this]
  by_cases h4 : 4 < f.args.length
  · refine Gives.mk l1 (c1.mono fun k e1 => ?_)
    have : ¬ FunOk f := fun h => by have := h.2.1; omega
    have h4' : (4 : Int) < (f.args.length : Int) := by omega
    rw [spec_l2Fun.eq, h1.vlen]; simp only [e1, hn, decide_true, Bool.not_true, cond_false, Option.bind_some, castBool_bool, h4', cond_true]; simp [this]
  have h4' : ¬ (4 : Int) < (f.args.length : Int) := by omega
  obtain ⟨s, hs, σ2, l2, c2⟩ := treeType_gives σ1 f.type
  by_cases ht : IsType f.type
  rotate_left
  · refine Gives.mk (l1.trans l2) ((c1.and c2).mono fun k ⟨e1, e2⟩ => ?_)
    have : ¬ FunOk f := fun h => ht h.2.2.1
    have hs' := hs.2 ht
    rw [spec_l2Fun.eq, h1.vlen]; simp only [e1, hn, decide_true, Bool.not_true, cond_false, Option.bind_some, castBool_bool, h4', decide_false, e2, castStr_str, hs', cond_true]; simp [this]
  have hs' : ¬ s = ⟨#[]⟩ := fun hc => hs.1 hc ht
  have l12 := l1.trans l2
  obtain ⟨σ3, l3, c3⟩ := l2Expr_gives f.body f4 (σ := σ2) (.mk (h2.mono l12 fun cs x _ hc => TreeExpr.Rep.le l12 x hc))
  by_cases hb : Right f.body
  rotate_left
  · refine Gives.mk (l12.trans l3) ((c1.and (c2.and c3)).mono fun k ⟨e1, e2, e3⟩ => ?_)
    have : ¬ FunOk f := fun h => hb h.2.2.2.1
    rw [spec_l2Fun.eq, h1.vlen]; simp only [e1, hn, decide_true, Bool.not_true, cond_false, Option.bind_some, castBool_bool, h4', decide_false, e2, castStr_str, hs', e3, hb, Bool.not_false, cond_true]; simp [this]
  have lenle : f.args.length ≤ 4 := by omega
  have inner : ∀ (i : Nat) (hlt : i < f.args.length) (σi : Heap), Lh σ σi → ∀ d j, j + d = i → (∀ q y, q < j → f.args[q]? = some y → y.name ≠ f.args[i].name) → ∀ k m0 m, d < m →
      (spec_l2Fun.L1 k m [.box [.str f.name, .bool f.pub, a3, .int .i64 f.type, .int .i64 f.body.kind, .int .i64 f.body.num, .str f.body.name, .str f.body.mod, a9], .v (.int .i64 (i : Int)), .v (.int .i64 (j : Int))] σi).bind (spec_l2Fun.A1 k m0) =
        if f.args[i].name ∈ (f.args.take i).map (·.name) then some (.ret, [.v (.bool false)], σi) else spec_l2Fun.L0 k m0 [.box [.str f.name, .bool f.pub, a3, .int .i64 f.type, .int .i64 f.body.kind, .int .i64 f.body.num, .str f.body.name, .str f.body.mod, a9], .v (.int .i64 (IntKind.wrap .i64 ((i : Int) + 1)))] σi := by
    intro i hlt σi hle d
    have h1' : RepS 2 (TreeArg.Rep σi) σi a3 f.args := h1.mono hle fun cs x _ hc => TreeArg.Rep.le hle hc
    induction d with
    | zero =>
      intro j hj hne k m0 m hm
      obtain ⟨m, rfl⟩ : ∃ j, m = j + 1 := ⟨m - 1, by omega⟩
      have hc : ¬ f.args[i].name ∈ (f.args.take i).map (·.name) := fun hc => by
        obtain ⟨y, hy, hyn⟩ := List.mem_map.1 hc
        obtain ⟨q, hq, hqs⟩ := List.getElem_of_mem hy
        rw [List.getElem_take] at hqs
        rw [List.length_take] at hq
        exact hne q y (by omega) (by rw [← hqs]; exact List.getElem?_eq_getElem (by omega)) hyn
      have : ¬ j < i := by omega
      rw [spec_l2Fun.L1_step, if_neg hc]
      simp [this, spec_l2Fun.A1_x2]
    | succ d ih =>
      intro j hj hne k m0 m hm
      obtain ⟨m, rfl⟩ : ∃ j, m = j + 1 := ⟨m - 1, by omega⟩
      have hji : j < i := by omega
      have hjl : j < f.args.length := by omega
      obtain ⟨r, o, hv, cs, hr, hP⟩ := h1'.at hjl
      obtain ⟨r', o', hv', cs', hr', hP'⟩ := h1'.at hlt
      have g1 : rdc σi r (o + 0) 1 = some [.str f.args[j].name] := by
        have := rdc_sub hr 0 1 (by omega)
        generalize f.args[j] = x at hP
        cases hP with | mk => exact this
      have g2 : rdc σi r' (o' + 0) 1 = some [.str f.args[i].name] := by
        have := rdc_sub hr' 0 1 (by omega)
        generalize f.args[i] = x at hP'
        cases hP' with | mk => exact this
      have hw : IntKind.wrap .i64 ((j : Int) + 1) = ((j + 1 : Nat) : Int) := wrap_id (by omega) (by omega)
      rw [spec_l2Fun.L1_step]
      by_cases hs : f.args[j].name = f.args[i].name
      · have hc : f.args[i].name ∈ (f.args.take i).map (·.name) := by
          refine List.mem_map.2 ⟨f.args[j], ?_, hs⟩
          have : f.args[j] = (f.args.take i)[j]'(by rw [List.length_take]; omega) := by rw [List.getElem_take]
          rw [this]
          exact List.getElem_mem _
        rw [if_pos hc]
        simp only [Int.ofNat_lt, hji, decide_true, cond_true, hv, g1, hv', g2, Option.bind_some, uncons_cons, castStr_str, isNil_nil, hs, spec_l2Fun.A1_ret]
      · simp only [Int.ofNat_lt, hji, decide_true, cond_true, hv, g1, hv', g2, Option.bind_some, uncons_cons, castStr_str, isNil_nil, hs, decide_false, cond_false, hw]
        refine ih (j + 1) (by omega) (fun q y hq hy => ?_) k m0 m (by omega)
        by_cases hqj : q = j
        · subst hqj
          rw [List.getElem?_eq_getElem hjl] at hy
          injection hy with hy
          rw [← hy]; exact hs
        · exact hne q y (by omega) hy
  have l13 := l12.trans l3
  obtain ⟨w, σ', ⟨hl, rfl⟩, he⟩ := loop (L := spec_l2Fun.L0) (A := spec_l2Fun.A0) (S := Nat × Heap)
    (Inv := fun s => s.1 ≤ f.args.length ∧ Lh σ s.2 ∧ (∀ x, x ∈ f.args.take s.1 → IsType x.type) ∧ AllNames ((f.args.take s.1).map (·.name))) (Good := fun w σ' => Lh σ σ' ∧ w = .bool (decide (FunOk f)))
    (vals := fun s => [.box [.str f.name, .bool f.pub, a3, .int .i64 f.type, .int .i64 f.body.kind, .int .i64 f.body.num, .str f.body.name, .str f.body.mod, a9], .v (.int .i64 (s.1 : Int))]) (hp := fun s => s.2) (far := fun s => f.args.length - s.1) (fun ⟨i, σi⟩ ⟨hi, hle, hty, hok⟩ => by
      simp only at hi hle hty hok ⊢
      have h1' : RepS 2 (TreeArg.Rep σi) σi a3 f.args := h1.mono hle fun cs x _ hc => TreeArg.Rep.le hle hc
      by_cases hlt : i < f.args.length
      · obtain ⟨r, o, hv, cs, hr, hP⟩ := h1'.at hlt
        have hm : f.args[i] ∈ f.args := List.getElem_mem hlt
        have g1 : rdc σi r (o + 0) 1 = some [.str f.args[i].name] := by
          have := rdc_sub hr 0 1 (by omega)
          generalize f.args[i] = x at hP
          cases hP with | mk => exact this
        have g2 : rdc σi r (o + 1) 1 = some [.int .i64 f.args[i].type] := by
          have := rdc_sub hr 1 1 (by omega)
          generalize f.args[i] = x at hP
          cases hP with | mk => exact this
        obtain ⟨σ4, l4, c4⟩ := specLexName_gives σi f.args[i].name (hargs _ hm)
        by_cases hN : IsName f.args[i].name
        rotate_left
        · refine .inl ⟨_, σ4, ⟨hle.trans l4, rfl⟩, c4.mono fun k e4 m => ?_⟩
          have : ¬ FunOk f := fun h => hN (h.2.2.2.2.2.1 _ (List.mem_map.2 ⟨_, hm, rfl⟩))
          rw [spec_l2Fun.L0_step, h1.vlen]
          simp only [Option.bind_some, Int.ofNat_lt, hlt, decide_true, cond_true, hv, g1, uncons_cons, castStr_str, isNil_nil, e4, castBool_bool, hN, decide_false, Bool.not_false, spec_l2Fun.A0_ret, this]
        obtain ⟨s5, hs5, σ5, l5, c5⟩ := treeType_gives σ4 f.args[i].type
        have g2' := l4.rdc g2
        have l45 := hle.trans (l4.trans l5)
        by_cases hT : IsType f.args[i].type
        rotate_left
        · refine .inl ⟨_, σ5, ⟨l45, rfl⟩, (c4.and c5).mono fun k ⟨e4, e5⟩ m => ?_⟩
          have : ¬ FunOk f := fun h => hT (h.2.2.2.2.1 _ hm)
          have hs6 := hs5.2 hT
          rw [spec_l2Fun.L0_step, h1.vlen]
          simp only [Option.bind_some, Int.ofNat_lt, hlt, decide_true, cond_true, hv, g1, g2', uncons_cons, castStr_str, castInt_int, isNil_nil, e4, castBool_bool, hN, Bool.not_true, cond_false, e5, hs6, spec_l2Fun.A0_ret, this, decide_false]
        have hs6 : ¬ s5 = ⟨#[]⟩ := fun hc => hs5.1 hc hT
        have ht := take_next hlt
        have hinn := inner i hlt σ5 l45 i 0 (by omega) (fun q y hq => absurd hq (by omega))
        by_cases hc : f.args[i].name ∈ (f.args.take i).map (·.name)
        · refine .inl ⟨_, σ5, ⟨l45, rfl⟩, (Ev.far i (c4.and c5)).mono fun k ⟨⟨e4, e5⟩, hk⟩ m => ?_⟩
          have : ¬ FunOk f := fun h => by
            have h7 := h.2.2.2.2.2.take (i + 1)
            rw [← List.map_take, ht, List.map_append] at h7
            exact (List.nodup_append.1 h7.2).2.2 _ hc _ (by simp) rfl
          have e6 := hinn k m k hk
          rw [if_pos hc] at e6
          rw [spec_l2Fun.L0_step, h1.vlen]
          simp only [Option.bind_some, Int.ofNat_lt, hlt, decide_true, cond_true, hv, g1, g2', uncons_cons, castStr_str, castInt_int, isNil_nil, e4, castBool_bool, hN, Bool.not_true, cond_false, e5, hs6, decide_false]
          rw [show ((0 : Int)) = ((0 : Nat) : Int) from rfl, e6]
          simp [spec_l2Fun.A0_ret, this]
        · refine .inr ⟨(i + 1, σ5), ⟨hlt, l45, ?_, ?_⟩, by simp only; omega, (Ev.far i (c4.and c5)).mono fun k ⟨⟨e4, e5⟩, hk⟩ m => ?_⟩
          · intro x hx
            rw [ht] at hx
            rcases List.mem_append.1 hx with h | h
            · exact hty x h
            · simp at h; rw [h]; exact hT
          · simp only
            rw [ht, List.map_append]
            refine ⟨fun x hx => ?_, ?_⟩
            · rcases List.mem_append.1 hx with h | h
              · exact hok.1 x h
              · simp at h; rw [h]; exact hN
            · rw [List.nodup_append]
              refine ⟨hok.2, by simp, fun a ha b hb hab => ?_⟩
              simp at hb
              exact hc (hb ▸ hab ▸ ha)
          · have hw : IntKind.wrap .i64 ((i : Int) + 1) = ((i + 1 : Nat) : Int) := wrap_id (by omega) (by omega)
            have e6 := hinn k m k hk
            rw [if_neg hc, hw] at e6
            rw [spec_l2Fun.L0_step, h1.vlen]
            simp only [Option.bind_some, Int.ofNat_lt, hlt, decide_true, cond_true, hv, g1, g2', uncons_cons, castStr_str, castInt_int, isNil_nil, e4, castBool_bool, hN, Bool.not_true, cond_false, e5, hs6, decide_false]
            rw [show ((0 : Int)) = ((0 : Nat) : Int) from rfl, e6]
      · refine .inl ⟨_, σi, ⟨hle, rfl⟩, Ev.now fun k m => ?_⟩
        rw [List.take_of_length_le (by omega)] at hok hty
        have : FunOk f := ⟨hn, lenle, ht, hb, hty, hok⟩
        rw [spec_l2Fun.L0_step, h1.vlen]
        simp [hlt, spec_l2Fun.A0_x0, this]) (0, σ3) ⟨Nat.zero_le _, l13, fun x hx => by simp at hx, fun x hx => by simp at hx, by simp⟩
  refine Gives.mk hl ((Ev.and c1 (Ev.and c2 (Ev.and c3 (Ev.far f.args.length he)))).mono fun k ⟨e1, e2, e3, e4, hk⟩ => ?_)
  rw [spec_l2Fun.eq, h1.vlen]
  simp only [e1, hn, decide_true, Bool.not_true, cond_false, Option.bind_some, castBool_bool, h4', decide_false, e2, castStr_str, hs', e3, hb]
  exact e4 k (by simpa using hk)
end Go.D

/- TreeOk of the reference. -/
set_option linter.unusedVariables false
set_option linter.unusedSimpArgs false
namespace Go.D
open Go.HM Go.Proofs
def ModOk (m : TreeMod) : Prop := m.uses.length ≤ 4 ∧ m.funs.length ≤ 8 ∧ m.main.length ≤ 1 ∧ AllNames m.uses ∧ sizesOk 0 (bodies m) ∧ (∀ f, f ∈ m.funs → FunOk f) ∧ AllNames (m.funs.map (·.name)) ∧ ∀ e, e ∈ m.main → Right e
noncomputable instance (m : TreeMod) : Decidable (ModOk m) := Classical.propDecidable _
theorem specTreeOk_gives {σ : Heap} {m : TreeMod} (hF : m.Fit) (htot : m.total ≤ 1048576) {cs : List V} (hr : TreeMod.Rep σ cs m) : Gives G n_spec_TreeOk [.agg cs] σ (.bool (decide (ModOk m))) := by
  have c2 : ∀ σ', Lh σ σ' → Runs G n_spec_l2Size [.agg cs] σ' (.bool (decide (sizesOk 0 (bodies m)))) σ' := fun σ' hl => l2Size_runs htot (TreeMod.Rep.le hl hr)
  cases hF with
  | mk f0 f1 f2 f3 f4 f5 =>
  cases hr with
  | mk h0 h1 h2 =>
  rename_i a1 a2 a3
  by_cases k1 : 4 < m.uses.length
  · refine Gives.mk (Lh.refl σ) (Ev.now fun k => ?_)
    have : ¬ ModOk m := fun h => by have := h.1; omega
    have k1' : (4 : Int) < (m.uses.length : Int) := by omega
    rw [spec_TreeOk.eq, h0.vlen]; simp only [Option.bind_some, k1', decide_true, cond_true, this, decide_false]
  by_cases k2 : 8 < m.funs.length
  · refine Gives.mk (Lh.refl σ) (Ev.now fun k => ?_)
    have : ¬ ModOk m := fun h => by have := h.2.1; omega
    have k1' : ¬ (4 : Int) < (m.uses.length : Int) := by omega
    have k2' : (8 : Int) < (m.funs.length : Int) := by omega
    rw [spec_TreeOk.eq, h0.vlen, h1.vlen]; simp only [Option.bind_some, k1', k2', decide_true, cond_true, this, decide_false, cond_false]
  by_cases k3 : 1 < m.main.length
  · refine Gives.mk (Lh.refl σ) (Ev.now fun k => ?_)
    have : ¬ ModOk m := fun h => by have := h.2.2.1; omega
    have k1' : ¬ (4 : Int) < (m.uses.length : Int) := by omega
    have k2' : ¬ (8 : Int) < (m.funs.length : Int) := by omega
    have k3' : (1 : Int) < (m.main.length : Int) := by omega
    rw [spec_TreeOk.eq, h0.vlen, h1.vlen, h2.vlen]; simp only [Option.bind_some, k1', k2', k3', decide_true, cond_true, this, decide_false, cond_false]
  have k1' : ¬ (4 : Int) < (m.uses.length : Int) := by omega
  have k2' : ¬ (8 : Int) < (m.funs.length : Int) := by omega
  have k3' : ¬ (1 : Int) < (m.main.length : Int) := by omega
  obtain ⟨σ1, l1, c1⟩ := l2Uses_gives σ h0 f0 f1
  by_cases hU : AllNames m.uses
  rotate_left
  · refine Gives.mk l1 (c1.mono fun k e1 => ?_)
    have : ¬ ModOk m := fun h => hU h.2.2.2.1
    rw [spec_TreeOk.eq, h0.vlen, h1.vlen, h2.vlen]; simp only [Option.bind_some, k1', k2', k3', decide_false, cond_false, e1, castBool_bool, hU, Bool.not_false, cond_true, this]
  have c2' := c2 σ1 l1
  by_cases hS : sizesOk 0 (bodies m)
  rotate_left
  · refine Gives.mk l1 ((c1.and c2').mono fun k ⟨e1, e2⟩ => ?_)
    have : ¬ ModOk m := fun h => hS h.2.2.2.2.1
    rw [spec_TreeOk.eq, h0.vlen, h1.vlen, h2.vlen]; simp only [Option.bind_some, k1', k2', k3', decide_false, cond_false, e1, castBool_bool, hU, decide_true, Bool.not_true, e2, hS, Bool.not_false, cond_true, this]
  obtain ⟨w, σ', ⟨hl, rfl⟩, he⟩ := loop (L := spec_TreeOk.L0) (A := spec_TreeOk.A0) (S := Nat × V × Heap)
    (Inv := fun s => s.1 ≤ m.funs.length ∧ Lh σ1 s.2.2 ∧ Grown σ1.length 1 StrRep s.2.2 s.2.1 ((m.funs.take s.1).map (·.name)) ∧ ∀ f, f ∈ m.funs.take s.1 → FunOk f) (Good := fun w σ' => Lh σ σ' ∧ w = .bool (decide (ModOk m)))
    (vals := fun s => [.box [a1, a2, a3], .v s.2.1, .v (.int .i64 (s.1 : Int))]) (hp := fun s => s.2.2) (far := fun s => m.funs.length - s.1) (fun ⟨i, u, σi⟩ ⟨hi, hle, hg, hok⟩ => by
      simp only at hi hle hg hok ⊢
      have hle0 := l1.trans hle
      by_cases hlt : i < m.funs.length
      · obtain ⟨r, o, hv, cs, hr, hP⟩ := h1.at hlt
        have hm : m.funs[i] ∈ m.funs := List.getElem_mem hlt
        have hfit := f3 _ hm
        have ht := take_next hlt
        have hw : IntKind.wrap .i64 ((i : Int) + 1) = ((i + 1 : Nat) : Int) := wrap_id (by omega) (by omega)
        have hli : ((m.funs.take i).map (·.name)).length ≤ 8 := by rw [List.length_map, List.length_take]; omega
        generalize m.funs[i] = x at hP ht hm hfit
        obtain ⟨u', σ2, ha, hg', hk⟩ := hg.app (bytes := 16) (Chunks.one (P := StrRep) (cs := [.str x.name]) (x := x.name) rfl) (by simp only [List.length_singleton]; omega) (by simp only [List.length_singleton]; omega)
        have ha' : vappend 1 16 σi u 1 [.str x.name] = some (u', σ2) := ha
        have hl2 := hk σ1 (Nat.le_refl _) hle
        have hl3 := l1.trans hl2
        obtain ⟨σ3, l3, c3⟩ := l2Fun_gives hfit (TreeFun.Rep.le hl3 hP)
        have g1 := rdc_sub (hle0.rdc hr) 0 1 (by omega)
        have g2 := hl3.rdc hr
        cases hP with
        | mk q0 q1 =>
        have g1' : rdc σi r (o + 0) 1 = some [.str x.name] := g1
        by_cases hFk : FunOk x
        · refine .inr ⟨(i + 1, u', σ3), ⟨hlt, hl2.trans l3, ?_, fun y hy => ?_⟩, by simp only; omega, c3.mono fun k e3 m => ?_⟩
          · simp only
            rw [ht, List.map_append]
            exact hg'.le l3
          · rw [ht] at hy
            rcases List.mem_append.1 hy with h | h
            · exact hok y h
            · simp at h; rw [h]; exact hFk
          · rw [spec_TreeOk.L0_step, h1.vlen]
            simp only [Option.bind_some, Int.ofNat_lt, hlt, decide_true, cond_true, hv, g1', ha', g2, uncons_cons, castStr_str, castBool_bool, castInt_int, isNil_nil, e3, hFk, Bool.not_true, cond_false, hw]
        · refine .inl ⟨_, σ3, ⟨hl3.trans l3, rfl⟩, c3.mono fun k e3 m' => ?_⟩
          have : ¬ ModOk m := fun h => hFk (h.2.2.2.2.2.1 _ hm)
          rw [spec_TreeOk.L0_step, h1.vlen]
          simp only [Option.bind_some, Int.ofNat_lt, hlt, decide_true, cond_true, hv, g1', ha', g2, uncons_cons, castStr_str, castBool_bool, castInt_int, isNil_nil, e3, hFk, decide_false, Bool.not_false, spec_TreeOk.A0_ret, this]
      · rw [List.take_of_length_le (by omega)] at hg hok
        have hR : RepS 1 StrRep σi u (m.funs.map (·.name)) := hg.rep fun cs x _ h => h
        obtain ⟨σ2, l2, c4⟩ := l2Uses_gives σi hR (by rw [List.length_map]; omega) (fun x hx => by
          obtain ⟨f, hf, rfl⟩ := List.mem_map.1 hx
          have := f3 f hf
          cases this with | mk g0 => exact g0)
        have hlt' : ¬ (i : Int) < (m.funs.length : Int) := by omega
        by_cases hN : AllNames (m.funs.map (·.name))
        rotate_left
        · refine .inl ⟨_, σ2, ⟨hle0.trans l2, rfl⟩, c4.mono fun k e4 m' => ?_⟩
          have : ¬ ModOk m := fun h => hN h.2.2.2.2.2.2.1
          rw [spec_TreeOk.L0_step, h1.vlen]
          simp only [Option.bind_some, hlt', decide_false, cond_false, spec_TreeOk.A0_x0, e4, castBool_bool, hN, this]
        by_cases hm0 : m.main.length = 0
        · refine .inl ⟨_, σ2, ⟨hle0.trans l2, rfl⟩, c4.mono fun k e4 m' => ?_⟩
          have hnil : m.main = [] := List.length_eq_zero_iff.1 hm0
          have : ModOk m := ⟨by omega, by omega, by omega, hU, hS, hok, hN, fun e he => by rw [hnil] at he; cases he⟩
          have hm0' : (m.main.length : Int) = 0 := by omega
          rw [spec_TreeOk.L0_step, h1.vlen]
          simp only [Option.bind_some, hlt', decide_false, cond_false, spec_TreeOk.A0_x0, e4, castBool_bool, hN, decide_true, cond_true, h2.vlen, hm0', this]
        · have h0l : 0 < m.main.length := by omega
          have l02 := hle0.trans l2
          obtain ⟨r, o, hv, cs, hr, hP⟩ := h2.at h0l
          obtain ⟨σ3, l3, c5⟩ := l2Expr_gives m.main[0] (f5 _ (List.getElem_mem h0l)) (σ := σ2) (TreeExpr.Rep.le l02 _ hP)
          have hr2 := l02.rdc hr
          have hall : (∀ e, e ∈ m.main → Right e) ↔ Right m.main[0] := by
            constructor
            · intro h; exact h _ (List.getElem_mem h0l)
            · intro h e he
              obtain ⟨j, hj, rfl⟩ := List.getElem_of_mem he
              have : j = 0 := by omega
              subst this
              exact h
          have hmk : ModOk m ↔ Right m.main[0] := ⟨fun h => hall.1 h.2.2.2.2.2.2.2, fun h => ⟨by omega, by omega, by omega, hU, hS, hok, hN, hall.2 h⟩⟩
          have hdec : decide (ModOk m) = decide (Right m.main[0]) := by simp [hmk]
          rw [hdec]
          generalize m.main[0] = x at hP c5
          cases hP with
          | mk q =>
          refine .inl ⟨_, σ3, ⟨l02.trans l3, rfl⟩, (c4.and c5).mono fun k ⟨e4, e5⟩ m' => ?_⟩
          have hm0' : ¬ (m.main.length : Int) = 0 := by omega
          have hv' : vidx 5 a3 0 = some (r, o) := hv
          rw [spec_TreeOk.L0_step, h1.vlen]
          simp only [Option.bind_some, hlt', decide_false, cond_false, spec_TreeOk.A0_x0, e4, castBool_bool, hN, decide_true, cond_true, h2.vlen, hm0', hv', hr2, uncons_cons, castInt_int, castStr_str, isNil_nil, e5]) (0, .sl σ1.length 0 0 true, hnew σ1 1 []) ⟨Nat.zero_le _, Lh.new _ _ _, Grown.start σ1 1 StrRep true, fun f hf => by simp at hf⟩
  refine Gives.mk hl ((Ev.and c1 (Ev.and c2' (Ev.far m.funs.length he))).mono fun k ⟨e1, e2, e3, hk⟩ => ?_)
  rw [spec_TreeOk.eq, h0.vlen, h1.vlen, h2.vlen]; simp only [Option.bind_some, k1', k2', k3', decide_false, cond_false, e1, castBool_bool, hU, decide_true, Bool.not_true, e2, hS]
  exact e3 k (by simpa using hk)
end Go.D

/- TreeOk of the program (begun: modOk_iff builds). -/
set_option linter.unusedVariables false
set_option linter.unusedSimpArgs false
namespace Go.D
open Go.HM Go.Proofs
/-- What the program asks of a function before it looks at bodies. -/
def HeadOk (f : TreeFun) : Prop := f.args.length ≤ 4 ∧ AllNames (f.args.map (·.name)) ∧ IsType f.type ∧ ∀ x, x ∈ f.args → IsType x.type
theorem modOk_iff (m : TreeMod) : ModOk m ↔ m.uses.length ≤ 4 ∧ m.funs.length ≤ 8 ∧ m.main.length ≤ 1 ∧ AllNames m.uses ∧ (∀ f, f ∈ m.funs → HeadOk f) ∧ sizesOk 0 (bodies m) ∧ (∀ e, e ∈ bodies m → Right e) ∧ AllNames (m.funs.map (·.name)) := by
  constructor
  · rintro ⟨h1, h2, h3, h4, h5, h6, h7, h8⟩
    refine ⟨h1, h2, h3, h4, fun f hf => ⟨(h6 f hf).2.1, (h6 f hf).2.2.2.2.2, (h6 f hf).2.2.1, (h6 f hf).2.2.2.2.1⟩, h5, fun e he => ?_, h7⟩
    rcases List.mem_append.1 he with h | h
    · obtain ⟨f, hf, rfl⟩ := List.mem_map.1 h
      exact (h6 f hf).2.2.2.1
    · exact h8 e h
  · rintro ⟨h1, h2, h3, h4, h5, h6, h7, h8⟩
    exact ⟨h1, h2, h3, h4, h6, fun f hf => ⟨h8.1 _ (List.mem_map.2 ⟨f, hf, rfl⟩), (h5 f hf).1, (h5 f hf).2.2.1, h7 _ (List.mem_append.2 (.inl (List.mem_map.2 ⟨f, hf, rfl⟩))), (h5 f hf).2.2.2, (h5 f hf).2.1⟩, h8, fun e he => h7 e (List.mem_append.2 (.inr he))⟩
/-- The first loop's test of one function. -/
theorem headOk_step {σ : Heap} {f : TreeFun} (hF : f.Fit) (ht : f.total ≤ 1048576) {v : V} (h : RepS 2 (TreeArg.Rep σ) σ v f.args) (hlen : f.args.length ≤ 4) :
    ∃ v1 σ1 σ2 σ3 b, Lh σ σ1 ∧ Lh σ1 σ2 ∧ Lh σ2 σ3 ∧ Runs G n_impl_argNames [v] σ v1 σ1 ∧ Runs G n_impl_areNames [v1] σ1 (.bool (decide (AllNames (f.args.map (·.name))))) σ2 ∧
      Runs G n_slices_ContainsFunc_impl_TreeArg_impl_TreeArg [v, .fn n_impl_TreeOk_1 []] σ2 (.bool b) σ3 ∧ (b = false ↔ ∀ x, x ∈ f.args → IsType x.type) := by
  obtain ⟨v1, σ1, l1, r1, c1⟩ := argNames_runs (by omega) h
  cases hF with
  | mk f0 f1 f2 f3 f4 =>
  obtain ⟨σ2, l2, c2⟩ := areNames_gives σ1 r1 (by rw [List.length_map]; omega) (fun x hx => by
    obtain ⟨a, ha, rfl⟩ := List.mem_map.1 hx
    have := f2 a ha
    cases this with | mk g0 g1 => exact g0)
  have l12 := l1.trans l2
  obtain ⟨σ3, l3, c3⟩ := containsArg_gives (σ := σ2) f1 (h.mono l12 fun cs x _ hc => TreeArg.Rep.le l12 hc) n_impl_TreeOk_1 (fun x => ¬ IsType x.type) (fun x _ σ cs hr => treeOk1_gives x σ cs hr)
  refine ⟨v1, σ1, σ2, σ3, _, l1, l2, l3, c1, c2, c3, ?_⟩
  rw [has_false]
  exact ⟨fun h x hx => Classical.not_not.1 (h x hx), fun h x hx hc => hc (h x hx)⟩
end Go.D
