/- Two slices of one's own that grow and are edited, beside each other. -/
import Derived.Test.YtiefmflpmmgoaaaGreatDoorHMEdit
import Derived.Test.YtiefmflpmmgoaaaGreatDoorHMIdx
set_option linter.unusedVariables false
set_option linter.unusedSimpArgs false
namespace Go.HM
/-- What is said of an element and its rows. -/
structure OwnQ {α : Type} (Q : Heap → List V → α → List Nat → Prop) : Prop where
  keep : ∀ {σ σ' : Heap} cs x R, Q σ cs x R → (∀ j, j ∈ R → σ'[j]? = σ[j]?) → Q σ' cs x R
  lt : ∀ {σ : Heap} cs x R, Q σ cs x R → ∀ j, j ∈ R → j < σ.length
  le : ∀ {σ σ' : Heap}, Lh σ σ' → ∀ cs x R, Q σ cs x R → Q σ' cs x R
structure J2 {α β : Type} (e1 e2 : Nat) (Q1 : Heap → List V → α → List Nat → Prop) (Q2 : Heap → List V → β → List Nat → Prop) (σ : Heap) (l1 : List α) (l2 : List β) (v1 v2 : V) (σi : Heap) (R1 R2 : List Nat) : Prop where
  f : RepR e1 (Q1 σi) σi v1 l1 R1
  f0 : At0 v1
  g : RepR e2 (Q2 σi) σi v2 l2 R2
  g0 : At0 v2
  nd : (R1 ++ R2).Nodup
  lo : ∀ j, j ∈ R1 ++ R2 → σ.length ≤ j
  le : Lh σ σi
section
variable {α β : Type} {e1 e2 : Nat} {Q1 : Heap → List V → α → List Nat → Prop} {Q2 : Heap → List V → β → List Nat → Prop} {σ : Heap} {l1 : List α} {l2 : List β} {v1 v2 : V} {σi : Heap} {R1 R2 : List Nat}
theorem J2.start (σ : Heap) : J2 e1 e2 Q1 Q2 σ [] [] .nils .nils σ [] [] := ⟨.nils, .inl rfl, .nils, .inl rfl, List.nodup_nil, fun j hj => (by cases hj), Lh.refl _⟩
theorem J2.swap (h : J2 e1 e2 Q1 Q2 σ l1 l2 v1 v2 σi R1 R2) : J2 e2 e1 Q2 Q1 σ l2 l1 v2 v1 σi R2 R1 := by
  obtain ⟨n1, n2, n3⟩ := nodup_sub (c := []) h.nd
  exact ⟨h.g, h.g0, h.f, h.f0, nodup_app n2 n1 fun x hx y hy hxy => n3 x (hxy ▸ hy) hx, fun j hj => h.lo j (by rcases List.mem_append.1 hj with hj | hj; exact List.mem_append_right _ hj; exact List.mem_append_left _ hj), h.le⟩
theorem J2.up (q1 : OwnQ Q1) (q2 : OwnQ Q2) (h : J2 e1 e2 Q1 Q2 σ l1 l2 v1 v2 σi R1 R2) {σ' : Heap} (hl : Lh σi σ') : J2 e1 e2 Q1 Q2 σ l1 l2 v1 v2 σ' R1 R2 :=
  ⟨h.f.le hl (q1.le hl), h.f0, h.g.le hl (q2.le hl), h.g0, h.nd, h.lo, h.le.trans hl⟩
theorem J2.down (h : J2 e1 e2 Q1 Q2 σ l1 l2 v1 v2 σi R1 R2) {σ0 : Heap} (h0 : Lh σ0 σ) : J2 e1 e2 Q1 Q2 σ0 l1 l2 v1 v2 σi R1 R2 :=
  ⟨h.f, h.f0, h.g, h.g0, h.nd, fun j hj => Nat.le_trans h0.len (h.lo j hj), h0.trans h.le⟩
theorem J2.sl1 (h : J2 e1 e2 Q1 Q2 σ l1 l2 v1 v2 σi R1 R2) : isSl v1 = true := h.f.isSl
theorem J2.sl2 (h : J2 e1 e2 Q1 Q2 σ l1 l2 v1 v2 σi R1 R2) : isSl v2 = true := h.g.isSl
/-- One more in the first. -/
theorem J2.add1 (q1 : OwnQ Q1) (q2 : OwnQ Q2) (h : J2 e1 e2 Q1 Q2 σ l1 l2 v1 v2 σi R1 R2) {bytes : Nat} {cs : List V} {x : α} {Rx : List Nat} (hx : Q1 σi cs x Rx) (hcs : cs.length = e1) (hnd : Rx.Nodup)
    (hfar : ∀ j, j ∈ Rx → σ.length ≤ j ∧ j ∉ R1 ∧ j ∉ R2) (hl : l1.length + 1 ≤ 2097152) (hb : bytes ≤ 1024) :
    ∃ v' σ' R', vappend e1 bytes σi v1 1 cs = some (v', σ') ∧ J2 e1 e2 Q1 Q2 σ (l1 ++ [x]) l2 v' v2 σ' R' R2 := by
  have e46 : (2 : Nat) ^ 46 = 70368744177664 := by decide
  obtain ⟨n1, n2, n3⟩ := nodup_sub (c := []) h.nd
  have hlt2 := h.g.lt fun cs x R h => q2.lt cs x R h
  obtain ⟨v', σ', R', k1, k2, k3, k4, k5, k6, k7⟩ := h.f.app (bytes := bytes) (Q := Q1) h.f0 hx hcs (fun cs x R h k => q1.keep cs x R h k) (fun cs x R h => q1.lt cs x R h) (nodup_app n1 hnd fun y hy z hz hyz => (hfar z hz).2.1 (hyz ▸ hy))
    (by have := Nat.mul_le_mul hl hb; omega) (by omega)
  have hk2 : ∀ j, j ∈ R2 → σ'[j]? = σi[j]? := fun j hj => k7 j (hlt2 j hj) fun hc => n3 j hc hj
  refine ⟨v', σ', R', k1, k2, k3, h.g.keep hk2 (fun cs x R hq hk => q2.keep cs x R hq hk), h.g0, ?_, ?_, ⟨by rw [k6]; have := h.le.len; omega, fun j row hj => ?_⟩⟩
  · refine nodup_app k4 n2 fun x hx y hy hxy => ?_
    subst hxy
    rcases k5 x hx with hx | hx | hx
    · have := hlt2 x hy; omega
    · exact n3 x hx hy
    · exact (hfar x hx).2.2 hy
  · intro j hj
    rcases List.mem_append.1 hj with hj | hj
    · rcases k5 j hj with hj | hj | hj
      · have := h.le.len; omega
      · exact h.lo j (List.mem_append_left _ hj)
      · exact (hfar j hj).1
    · exact h.lo j (List.mem_append_right _ hj)
  · have := get_lt hj
    have h2 := h.le.row _ _ hj
    rw [k7 j (get_lt h2) fun hc => by have := h.lo j (List.mem_append_left _ hc); omega]
    exact h2
/-- An element of the first is edited. -/
theorem J2.edit1 (q1 : OwnQ Q1) (q2 : OwnQ Q2) (h : J2 e1 e2 Q1 Q2 σ l1 l2 v1 v2 σi R1 R2) {i : Nat} {x : α} (hx : l1[i]? = some x) :
    ∃ r o cs Rx, vidx e1 v1 (i : Int) = some (r, o) ∧ rdc σi r o e1 = some cs ∧ cs.length = e1 ∧ Q1 σi cs x Rx ∧ Rx.Nodup ∧
      ∀ (σ' : Heap) (y : α) (Ry : List Nat) (off : Nat) (ys : List V), off + ys.length ≤ e1 → σi.length ≤ σ'.length → (∀ j, j < σi.length → j ∉ Rx → σ'[j]? = σi[j]?) →
        (∀ σ'' : Heap, (∀ j, j ∈ Ry → σ''[j]? = σ'[j]?) → Q1 σ'' (setCells cs off ys) y Ry) → Ry.Nodup → (∀ j, j ∈ Ry → j ∈ Rx ∨ σi.length ≤ j) →
        ∃ σ'' R', wrc σ' r (o + off) ys = some σ'' ∧ J2 e1 e2 Q1 Q2 σ (l1.set i y) l2 v1 v2 σ'' R' R2 := by
  obtain ⟨n1, n2, n3⟩ := nodup_sub (c := []) h.nd
  have hlt1 := h.f.lt fun cs x R h => q1.lt cs x R h
  have hlt2 := h.g.lt fun cs x R h => q2.lt cs x R h
  obtain ⟨r, o, cs, Rx, k1, k2, k3, k4, k5, k6, k7, k8, k9⟩ := h.f.edit (Q := Q1) (fun cs x R h k => q1.keep cs x R h k) (fun cs x R h => q1.lt cs x R h) n1 hx
  refine ⟨r, o, cs, Rx, k1, k2, k3, k4, k7, fun σ' y Ry off ys a1 a2 a3 a4 a5 a6 => ?_⟩
  obtain ⟨σ'', R'', b1, b2, b3, b4, b5, b6⟩ := k9 σ' y Ry off ys a1 a2 a3 a4 a5 a6
  have hsame : ∀ j, j < σi.length → j ∉ R1 → σ''[j]? = σi[j]? := fun j hj hn => by
    rw [b6 j fun hc => hn (hc ▸ k5)]
    exact a3 j hj fun hc => hn (k8 j hc)
  refine ⟨σ'', R'', b1, b2, h.f0, h.g.keep (fun j hj => hsame j (hlt2 j hj) fun hc => n3 j hc hj) (fun cs x R hq hk => q2.keep cs x R hq hk), h.g0, ?_, ?_, ⟨by rw [b5]; have := h.le.len; omega, fun j row hj => ?_⟩⟩
  · refine nodup_app b3 n2 fun x hx y hy hxy => ?_
    subst hxy
    rcases b4 x hx with hx | hx
    · exact n3 x hx hy
    · have := hlt2 x hy; omega
  · intro j hj
    rcases List.mem_append.1 hj with hj | hj
    · rcases b4 j hj with hj | hj
      · exact h.lo j (List.mem_append_left _ hj)
      · have := h.le.len; omega
    · exact h.lo j (List.mem_append_right _ hj)
  · have := get_lt hj
    have h2 := h.le.row _ _ hj
    rw [hsame j (get_lt h2) fun hc => by have := h.lo j (List.mem_append_left _ hc); omega]
    exact h2
end
end Go.HM
