/- Texts cut into words, and words joined that are cut again: plain. -/
import Derived.Test.YtjadancpencnnaaJoin
set_option linter.unusedVariables false
set_option linter.unusedSimpArgs false
namespace Go.A
open Go.HM Go.Proofs
abbrev CutS := List ByteArray × List UInt8
def flushC (s : CutS) : List ByteArray := if s.2 = [] then s.1 else s.1 ++ [⟨s.2.toArray⟩]
def markC (c : UInt8) : Prop := (c.toNat : Int) = 40 ∨ (c.toNat : Int) = 41
instance (c : UInt8) : Decidable (markC c) := inferInstanceAs (Decidable (_ ∨ _))
def blankC (c : UInt8) : Prop := (c.toNat : Int) = 32 ∨ (c.toNat : Int) = 10
instance (c : UInt8) : Decidable (blankC c) := inferInstanceAs (Decidable (_ ∨ _))
def fineC (c : UInt8) : Prop := 33 ≤ (c.toNat : Int) ∧ (c.toNat : Int) ≤ 126
instance (c : UInt8) : Decidable (fineC c) := inferInstanceAs (Decidable (_ ∧ _))
def stepC (s : CutS) (c : UInt8) : Option CutS :=
  if markC c then some (flushC s ++ [⟨#[c]⟩], []) else if blankC c then some (flushC s, []) else if fineC c then some (s.1, s.2 ++ [c]) else none
def runC : CutS → List UInt8 → Option CutS
  | s, [] => some s
  | s, c :: L => (stepC s c).bind fun s' => runC s' L
theorem runC_app (L M : List UInt8) : ∀ s, runC s (L ++ M) = (runC s L).bind fun s' => runC s' M := by
  induction L with
  | nil => intro s; rfl
  | cons c L ih =>
    intro s
    rw [List.cons_append, runC, runC, Option.bind_assoc]
    congr 1
    funext s'
    exact ih s'
theorem runC_one (s : CutS) (c : UInt8) : runC s [c] = stepC s c := by
  rw [runC]
  cases stepC s c <;> rfl
def startC : CutS := ([], [])
def endC (o : Option CutS) : List ByteArray × Bool := match o with
  | none => ([], false)
  | some s => if 1500 < (flushC s).length then ([], false) else (flushC s, true)
def cutR (t : ByteArray) : List ByteArray × Bool := if 4000 < t.size then ([], false) else endC (runC startC t.data.toList)
/-- Words that are whole. -/
def plainC (c : UInt8) : Prop := fineC c ∧ ¬ markC c
def WholeW (w : ByteArray) : Prop := w.data.toList ≠ [] ∧ (∀ c, c ∈ w.data.toList → fineC c) ∧ (1 < w.data.toList.length → ∀ c, c ∈ w.data.toList → ¬ markC c)
theorem mark_fine {c : UInt8} (h : markC c) : fineC c := by unfold markC at h; unfold fineC; omega
theorem fine_blank {c : UInt8} (h : fineC c) : ¬ blankC c := by unfold blankC; unfold fineC at h; omega
theorem step_plain {s : CutS} {c : UInt8} (h : fineC c) (hm : ¬ markC c) : stepC s c = some (s.1, s.2 ++ [c]) := by
  unfold stepC
  rw [if_neg hm, if_neg (fine_blank h), if_pos h]
theorem run_plain : ∀ (L : List UInt8) (s : CutS), (∀ c, c ∈ L → fineC c ∧ ¬ markC c) → runC s L = some (s.1, s.2 ++ L)
  | [], s, _ => by simp [runC]
  | c :: L, s, h => by
    rw [runC, step_plain (h c (by simp)).1 (h c (by simp)).2, Option.bind_some, run_plain L _ fun x hx => h x (by simp [hx])]
    simp
theorem ba_eq {s t : ByteArray} (h : s.data.toList = t.data.toList) : s = t := by
  obtain ⟨⟨a⟩⟩ := s
  obtain ⟨⟨b⟩⟩ := t
  simp at h
  rw [h]
/-- A whole word that one reads where nothing is open. -/
theorem run_word {w : ByteArray} (h : WholeW w) (outs : List ByteArray) : ∃ s, runC (outs, []) w.data.toList = some s ∧ flushC s = outs ++ [w] ∧ ((∃ c, w.data.toList = [c] ∧ markC c) → s = (outs ++ [w], [])) := by
  obtain ⟨h0, h1, h2⟩ := h
  have plain : (∀ c, c ∈ w.data.toList → ¬ markC c) → ∃ s, runC (outs, []) w.data.toList = some s ∧ flushC s = outs ++ [w] ∧ ((∃ c, w.data.toList = [c] ∧ markC c) → s = (outs ++ [w], [])) := fun hm => by
    refine ⟨_, run_plain _ _ fun c hc => ⟨h1 c hc, hm c hc⟩, ?_, fun ⟨c, hc, hk⟩ => absurd hk (hm c (by rw [hc]; simp))⟩
    unfold flushC
    rw [if_neg (by simpa using h0)]
    congr 2
  match hl : w.data.toList with
  | [] => exact absurd hl h0
  | [c] =>
    by_cases hk : markC c
    · have hw : (⟨#[c]⟩ : ByteArray) = w := ba_eq (by rw [hl])
      refine ⟨(outs ++ [w], []), ?_, rfl, fun _ => rfl⟩
      rw [runC_one]
      unfold stepC
      rw [if_pos hk, hw]
      rfl
    · rw [← hl]
      exact plain fun x hx => by rw [hl] at hx; simp at hx; rw [hx]; exact hk
  | c :: d :: L =>
    rw [← hl]
    exact plain (h2 (by rw [hl]; simp))
theorem flush_nil (outs : List ByteArray) : flushC (outs, []) = outs := rfl
theorem blank_step (s : CutS) : stepC s 32 = some (flushC s, []) := rfl
theorem close_word (s : CutS) : runC s [41] = some (flushC s ++ [shut1], []) := by
  rw [runC_one]
  rfl
theorem ba_data (s t : ByteArray) : (s ++ t).data.toList = s.data.toList ++ t.data.toList := by simp
theorem run_joined {l : List ByteArray} (h : ∀ w, w ∈ l → WholeW w) : ∀ i, i ≤ l.length → ∃ s, runC startC (joinTo l i).data.toList = some s ∧ flushC s = l.take i ∧ (i = 0 ∨ l[i - 1]? = some open1 → s = (l.take i, []))
  | 0, _ => ⟨startC, rfl, rfl, fun _ => rfl⟩
  | i + 1, hi => by
    obtain ⟨s, hs, hf, hz⟩ := run_joined h i (by omega)
    have hx : l[i]? = some (l[i]'(by omega)) := List.getElem?_eq_getElem (by omega)
    generalize l[i]'(by omega) = x at hx
    have hw := h x (List.mem_of_getElem? hx)
    have htk := take_next' hx
    have hop : l[i + 1 - 1]? = some open1 → ∃ c, x.data.toList = [c] ∧ markC c := fun ho => by
      rw [Nat.add_sub_cancel, hx] at ho
      injection ho with ho
      exact ⟨40, by rw [ho]; rfl, .inl rfl⟩
    rw [joinTo_next hx, ba_data]
    by_cases hg : gap l i x
    · rw [if_pos hg, ba_data]
      obtain ⟨s', r1, r2, r3⟩ := run_word hw (l.take i)
      refine ⟨s', ?_, by rw [r2, htk], fun ho => ?_⟩
      · rw [List.append_assoc, runC_app, hs, Option.bind_some, runC_app]
        show ((runC s [32]).bind _) = _
        rw [runC_one, blank_step, Option.bind_some, hf]
        exact r1
      · rw [r3 (hop (ho.resolve_left (by omega))), htk]
    · rw [if_neg hg]
      by_cases hsh : x = shut1
      · refine ⟨(l.take i ++ [x], []), ?_, by rw [flush_nil, htk], fun _ => by rw [htk]⟩
        rw [runC_app, hs, Option.bind_some, hsh]
        show runC s [41] = _
        rw [close_word, hf]
      · have h0 : i = 0 ∨ l[i - 1]? = some open1 := by
          by_cases h1 : 0 < i
          · refine .inr ?_
            by_cases h2 : l[i - 1]? = some open1
            · exact h2
            · exact absurd ⟨h1, h2, hsh⟩ hg
          · exact .inl (by omega)
        obtain ⟨s', r1, r2, r3⟩ := run_word hw (l.take i)
        refine ⟨s', ?_, by rw [r2, htk], fun ho => ?_⟩
        · rw [runC_app, hs, Option.bind_some, hz h0]
          exact r1
        · rw [r3 (hop (ho.resolve_left (by omega))), htk]
theorem cut_joined {l : List ByteArray} (h : ∀ w, w ∈ l → WholeW w) (h1 : l.length ≤ 1500) (h2 : (joined l).size ≤ 4000) : cutR (joined l) = (l, true) := by
  obtain ⟨s, hs, hf, _⟩ := run_joined h l.length (Nat.le_refl _)
  unfold cutR
  rw [if_neg (by omega), show joined l = joinTo l l.length from rfl, hs]
  show (if 1500 < (flushC s).length then (([] : List ByteArray), false) else (flushC s, true)) = _
  rw [hf, List.take_length, if_neg (by omega)]
/-- What is cut is whole. -/
def WholeS (s : CutS) : Prop := (∀ w, w ∈ s.1 → WholeW w) ∧ ∀ c, c ∈ s.2 → fineC c ∧ ¬ markC c
theorem flush_whole {s : CutS} (h : WholeS s) : ∀ w, w ∈ flushC s → WholeW w := by
  intro w hw
  unfold flushC at hw
  split at hw
  · exact h.1 w hw
  · rename_i hn
    rcases List.mem_append.1 hw with hw | hw
    · exact h.1 w hw
    · simp at hw
      subst hw
      exact ⟨hn, fun c hc => (h.2 c hc).1, fun _ c hc => (h.2 c hc).2⟩
theorem step_whole {s s' : CutS} {c : UInt8} (h : WholeS s) (e : stepC s c = some s') : WholeS s' := by
  unfold stepC at e
  split at e
  · rename_i hm
    injection e with e
    subst e
    refine ⟨fun w hw => ?_, fun c hc => by simp at hc⟩
    rcases List.mem_append.1 hw with hw | hw
    · exact flush_whole h w hw
    · simp at hw
      subst hw
      exact ⟨by simp, fun x hx => by simp at hx; subst hx; exact mark_fine hm, fun h1 => by simp at h1⟩
  · split at e
    · injection e with e
      subst e
      exact ⟨flush_whole h, fun c hc => by simp at hc⟩
    · split at e
      · rename_i hm _ hf
        injection e with e
        subst e
        refine ⟨h.1, fun x hx => ?_⟩
        rcases List.mem_append.1 hx with hx | hx
        · exact h.2 x hx
        · simp at hx
          subst hx
          exact ⟨hf, hm⟩
      · cases e
theorem run_whole : ∀ (L : List UInt8) (s s' : CutS), WholeS s → runC s L = some s' → WholeS s'
  | [], s, s', h, e => by simp [runC] at e; subst e; exact h
  | c :: L, s, s', h, e => by
    rw [runC] at e
    obtain ⟨t, h1, h2⟩ := Option.bind_eq_some_iff.1 e
    exact run_whole L t s' (step_whole h h1) h2
theorem cut_whole (t : ByteArray) : (∀ w, w ∈ (cutR t).1 → WholeW w) ∧ (cutR t).1.length ≤ 1500 := by
  unfold cutR endC
  split
  · exact ⟨fun w hw => by simp at hw, by simp⟩
  · split
    · exact ⟨fun w hw => by simp at hw, by simp⟩
    · rename_i s hs
      split
      · exact ⟨fun w hw => by simp at hw, by simp⟩
      · refine ⟨flush_whole (run_whole _ _ _ ⟨fun w hw => by simp [startC] at hw, fun c hc => by simp [startC] at hc⟩ hs), by show (flushC s).length ≤ 1500; omega⟩
end Go.A
