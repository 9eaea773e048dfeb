/- The texts of objects: what they are, and the reference's words, heads. -/
import Derived.Test.YtjadancpencnnaaDoorDec
import Derived.Test.YtjadancpencnnaaDoorObjD
set_option linter.unusedVariables false
set_option linter.unusedSimpArgs false
namespace Go.D
open Go.HM Go.Proofs
theorem fitB {α : Type} (L M : List UInt8) (x y : α) (h : L.length + M.length ≤ 4611686018427387904) : (if (ba L).size + (ba M).size ≤ 2 ^ 62 then x else y) = x := by
  have e62 : (2 : Nat) ^ 62 = 4611686018427387904 := by decide
  rw [if_pos (by rw [ba_size, ba_size, e62]; exact h)]
theorem ba2 (L M : List UInt8) : ba L ++ ba M = ba (L ++ M) := ba_app L (ba M)
theorem set_same {α : Type} : ∀ {l : List α} {i : Nat} {x : α}, l[i]? = some x → l.set i x = l
  | [], i, x, h => by simp at h
  | y :: l, 0, x, h => by simp at h; simp [h]
  | y :: l, i + 1, x, h => by
    simp at h
    simp [set_same h]
theorem prot_ro {σ : Heap} {r : Nat} {cs : List V} {e t : Nat} (h : σ[r]? = some (some ⟨cs, e, true, t⟩)) : prot [r] σ = σ := by
  show toRo σ r = σ
  unfold toRo
  rw [h]
  simp only
  exact set_same h
theorem unprot_same {σ τ : Heap} {r : Nat} {row : Row} (h : σ[r]? = some (some row)) (g : τ[r]? = some (some row)) : unprot [r] σ τ = τ := by
  show back σ τ r = τ
  unfold back
  rw [h]
  simp only
  exact set_same g
def catL {α : Type} (f : α → List UInt8) (l : List α) (i : Nat) : List UInt8 := ((l.take i).map f).flatten
theorem catL_zero {α : Type} (f : α → List UInt8) (l : List α) : catL f l 0 = [] := by simp [catL]
theorem catL_next {α : Type} {f : α → List UInt8} {l : List α} {i : Nat} {x : α} (h : l[i]? = some x) : catL f l (i + 1) = catL f l i ++ f x := by
  unfold catL
  rw [take_next' h, List.map_append, List.flatten_append]
  simp
theorem catL_len {α : Type} {f : α → List UInt8} {g : α → Nat} {l : List α} (h : ∀ x, x ∈ l → (f x).length ≤ g x) : ∀ i, i ≤ l.length → (catL f l i).length ≤ totS g (l.take i)
  | 0, _ => by simp [catL]
  | i + 1, hi => by
    have hx : l[i]? = some (l[i]'(by omega)) := List.getElem?_eq_getElem (by omega)
    have ih := catL_len h i (by omega)
    have hm := h _ (List.mem_of_getElem? hx)
    have hs : totS g (l.take (i + 1)) = totS g (l.take i) + g (l[i]'(by omega)) := by rw [take_next' hx, totS_append]; simp [totS]
    rw [catL_next hx, List.length_append]
    omega
def opws : List ByteArray := [⟨#[112, 117, 115, 104]⟩, ⟨#[102, 108, 97, 103]⟩, ⟨#[108, 111, 97, 100]⟩, ⟨#[107, 101, 101, 112]⟩, ⟨#[112, 114, 105, 109]⟩, ⟨#[106, 117, 109, 112]⟩, ⟨#[117, 110, 108, 101, 115, 115]⟩, ⟨#[99, 97, 108, 108]⟩, ⟨#[98, 97, 99, 107]⟩, ⟨#[114, 111, 119]⟩]
def opw (n : Int) : ByteArray := if 1 ≤ n ∧ n ≤ 10 then (opws[(n - 1).toNat]?).getD ⟨#[]⟩ else ⟨#[]⟩
/-- The variable holds the ten words. -/
abbrev OpW (σ : Heap) : Prop := σ[1]? = some (some ⟨opws.map .str, 1, true, 0⟩)
theorem opw_some {n : Int} (h1 : 1 ≤ n) (h2 : n ≤ 10) : opws[(n - 1).toNat]? = some (opw n) := by
  unfold opw
  rw [if_pos ⟨h1, h2⟩]
  have : (n - 1).toNat < opws.length := by show _ < 10; omega
  rw [List.getElem?_eq_getElem this]
  rfl
theorem opw_size (n : Int) : (opw n).size ≤ 6 := by
  unfold opw
  split
  · rename_i h
    have : (n - 1).toNat = 0 ∨ (n - 1).toNat = 1 ∨ (n - 1).toNat = 2 ∨ (n - 1).toNat = 3 ∨ (n - 1).toNat = 4 ∨ (n - 1).toNat = 5 ∨ (n - 1).toNat = 6 ∨ (n - 1).toNat = 7 ∨ (n - 1).toNat = 8 ∨ (n - 1).toNat = 9 := by omega
    rcases this with h | h | h | h | h | h | h | h | h | h <;> rw [h] <;> decide
  · decide
theorem row_at {σ : Heap} {r : Nat} {l : List ByteArray} {e t : Nat} {ro : Bool} {i : Nat} {x : ByteArray} (h : σ[r]? = some (some ⟨l.map .str, e, ro, t⟩)) (hx : l[i]? = some x) : rdc σ r i 1 = some [.str x] := by
  have hi := lt_of_get hx
  simp only [rdc, h]
  have e1 : ((l.map V.str).drop i).take 1 = [.str x] := by
    rw [← List.map_drop, ← List.map_take]
    have : (l.drop i).take 1 = [x] := by
      rw [List.take_one, List.head?_drop, hx]
      rfl
    rw [this]
    rfl
  rw [e1]
  simp
  omega
theorem l8Word_gives (n : Int) (σ : Heap) : Gives G n_spec_l8Word [.int .i64 n] σ (.str (opw n)) := by
  refine Gives.of (W.to (fun k _ => spec_l8Word.eq k _ _) ?_)
  refine W.ite (fun h => W.ret ⟨by rw [opw, if_neg (by omega)], Lh.refl _⟩) fun h1 => ?_
  refine W.ite (fun h => W.ret ⟨by rw [opw, if_neg (by omega)], Lh.refl _⟩) fun h2 => ?_
  have hw : IntKind.wrap .i64 (n - 1) = n - 1 := wrap_id (by omega) (by omega)
  have hg : (hnew σ 1 (opws.map .str))[σ.length]? = some (some ⟨opws.map .str, 1, false, 0⟩) := by simp [hnew]
  have hat := row_at hg (opw_some (n := n) (by omega) (by omega))
  have hv : vidx 1 (.sl σ.length 0 10 true) (n - 1) = some (σ.length, (n - 1).toNat) := by
    simp only [vidx]
    rw [if_pos (by omega)]
    simp
  simp only [opws, List.map_cons, List.map_nil] at hat
  try simp only [q_bind_some, castInt_int, q_castBool, q_castStr, q_castPtr, q_castFn, q_castAgg, q_castTuple, q_uncons, q_isNil, q_sl, q_nils, q_emp, q_ptr, q_nilp, q_fn, q_cond_true, q_cond_false, Bool.not_true, Bool.not_false, decide_true, decide_false, List.cons_append, List.nil_append, hw, hv, hat]
  exact W.ret ⟨rfl, Lh.new _ _ _⟩
def argL (l : List Int) : List UInt8 := if tyL l = [] then [45] else tyL l
def headL (args : List Int) (t s : Int) : List UInt8 := argL args ++ [32] ++ (tword t).data.toList ++ [32] ++ Lib.itoa s
def pubL (b : Bool) : List UInt8 := if b = true then [112, 117, 98] else [111, 119, 110]
def funL (f : CodeFun) : List UInt8 := [102, 117, 110, 32] ++ f.name.data.toList ++ [32] ++ pubL f.pub ++ [32] ++ headL f.args f.type f.slots ++ [10]
def insL (x : CodeIns) : List UInt8 := (opw x.op).data.toList ++ [32] ++ Lib.itoa x.a ++ [10]
def codeL (l : List CodeIns) : List UInt8 := catL insL l l.length
def refL (r : CodeRef) : List UInt8 := [114, 101, 102, 32] ++ r.mod.data.toList ++ [46] ++ r.name.data.toList ++ [10]
def wholeL (f : CodeFun) : List UInt8 := funL f ++ codeL f.code
def objL (o : CodeObj) : List UInt8 := [111, 98, 106, 101, 99, 116, 10] ++ catL refL o.refs o.refs.length ++ catL wholeL o.funs o.funs.length
theorem ins_b {x : CodeIns} (h : InsOk x) : -99999999999999999 ≤ x.a ∧ x.a ≤ 99999999999999999 ∧ 1 ≤ x.op ∧ x.op ≤ 10 := by unfold InsOk at h; omega
theorem insL_len {x : CodeIns} (h : InsOk x) : (insL x).length ≤ 32 := by
  have h1 := ins_b h
  have h2 := Lib.itoa_length_le x.a (by omega) (by omega)
  have h3 := opw_size x.op
  have h4 := ba_list (opw x.op)
  unfold insL
  simp only [List.length_append, List.length_cons, List.length_nil]
  omega
theorem tot_const {α : Type} (c : Nat) : ∀ l : List α, totS (fun _ => c) l = c * l.length
  | [] => by simp [totS]
  | x :: l => by simp only [totS, List.length_cons, tot_const c l, Nat.mul_add]; omega
theorem code_len {l : List CodeIns} (h : ∀ x, x ∈ l → InsOk x) (i : Nat) (hi : i ≤ l.length) : (catL insL l i).length ≤ 32 * i := by
  have h1 := catL_len (f := insL) (g := fun _ => 32) (fun x hx => insL_len (h x hx)) i hi
  rw [tot_const, List.length_take, Nat.min_eq_left hi] at h1
  exact h1
theorem argL_len {l : List Int} (h : l.length ≤ 4) : (argL l).length ≤ 20 := by
  have h1 := tyL_len l l.length (Nat.le_refl _)
  rw [List.take_length] at h1
  unfold argL
  split
  · simp
  · omega
theorem mainW_size : mainW.size = 4 := by decide
theorem name_len {f : CodeFun} (h : CFunOk f) : f.name.data.toList.length ≤ 8 := by
  rw [ba_list]
  rcases h.1.1 with h | h
  · exact h.2.1.2
  · rw [h, mainW_size]; omega
theorem head_len {f : CodeFun} (h : CFunOk f) : (headL f.args f.type f.slots).length ≤ 60 := by
  have h1 := argL_len h.1.2.1.1
  have h2 := tword_size f.type
  have h3 := ba_list (tword f.type)
  have h4 := h.1.2.2.2
  have h5 := Lib.itoa_length_le f.slots (by omega) (by omega)
  unfold headL
  simp only [List.length_append, List.length_cons, List.length_nil]
  omega
theorem pub_len (b : Bool) : (pubL b).length = 3 := by cases b <;> rfl
theorem funL_len {f : CodeFun} (h : CFunOk f) : (funL f).length ≤ 100 := by
  have h1 := name_len h
  have h2 := head_len h
  have h3 := pub_len f.pub
  unfold funL
  simp only [List.length_append, List.length_cons, List.length_nil]
  omega
theorem wholeL_len {f : CodeFun} (h : CFunOk f) : (wholeL f).length ≤ 100 + 32 * f.code.length := by
  have h1 := funL_len h
  have h2 := code_len h.2 _ (Nat.le_refl _)
  unfold wholeL codeL
  rw [List.length_append]
  omega
theorem ref_b {r : CodeRef} (h : RefIs r) : r.name.data.toList.length ≤ 8 ∧ r.mod.data.toList.length ≤ 8 := by
  rw [ba_list, ba_list]
  refine ⟨h.1.2.1.2, ?_⟩
  rcases h.2 with h | h
  · rw [h]; decide
  · exact h.2.1.2
theorem refL_len {r : CodeRef} (h : RefIs r) : (refL r).length ≤ 32 := by
  have := ref_b h
  unfold refL
  simp only [List.length_append, List.length_cons, List.length_nil]
  omega
theorem refs_len {o : CodeObj} (h : ObjIs o) (i : Nat) (hi : i ≤ o.refs.length) : (catL refL o.refs i).length ≤ 1280 := by
  have h1 := catL_len (f := refL) (g := fun _ => 32) (fun x hx => refL_len (h.2.2.2.1 x hx)) i hi
  rw [tot_const, List.length_take, Nat.min_eq_left hi] at h1
  have := h.1
  omega
theorem tot_lin {α : Type} (c d : Nat) (g : α → Nat) : ∀ l : List α, totS (fun x => c + d * g x) l = c * l.length + d * totS g l
  | [] => by simp [totS]
  | x :: l => by simp only [totS, List.length_cons, tot_lin c d g l, Nat.mul_add]; omega
theorem funs_len {o : CodeObj} (h : ObjIs o) (i : Nat) (hi : i ≤ o.funs.length) : (catL wholeL o.funs i).length ≤ 900 + 32 * codes (o.funs.take i) := by
  have h1 := catL_len (f := wholeL) (g := fun f : CodeFun => 100 + 32 * f.code.length) (fun x hx => wholeL_len (h.2.2.2.2 x hx)) i hi
  rw [tot_lin, List.length_take, Nat.min_eq_left hi] at h1
  have := h.2.1
  unfold codes
  omega
end Go.D
