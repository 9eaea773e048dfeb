/- The contract of Go's internal/stringslite.Index at a text of one byte that is looked for: the place of the first such byte, -1 if there is none. -/
import Derived.Shelf.Strings.Search1
import Derived.Shelf.Strings.Search2
import Derived.Test.YtlppcfjapmmkkaaProg
import Derived.Test.YtlppcfjapmmkkaaWWords
namespace Go.Proofs
open Go.Shelf
def Try.lays219_ren : Go.Shelf.Ren := ⟨fun | 219 => 107 | 217 => 112 | 225 => 113 | 224 => 114 | 267 => 115 | 266 => 127 | 314 => 128 | n => n, fun | 9 => 9 | 3 => 3 | 4 => 4 | 5 => 5 | 46 => 128 | 146 => 142 | 51 => 139 | n => n, fun | 1 => 0 | n => n⟩
theorem Try.lays219 : Go.Proofs.Lays.n219 Try.prog Try.lays219_ren := {
  mixed := by kernel_rfl
  f217 := Try.func112.trans (congrArg some (by kernel_rfl))
  f219 := Try.func107.trans (congrArg some (by kernel_rfl))
  f224 := Try.func114.trans (congrArg some (by kernel_rfl))
  f225 := Try.func113.trans (congrArg some (by kernel_rfl))
  f266 := Try.func127.trans (congrArg some (by kernel_rfl))
  f267 := Try.func115.trans (congrArg some (by kernel_rfl))
  f314 := Try.func128.trans (congrArg some (by kernel_rfl))
  t3 := Try.underlying3
  a3 := Try.isAgg3
  z3 := Try.sizeOf3
  v3 := Try.zeroValue3
  t4 := Try.underlying4
  a4 := Try.isAgg4
  z4 := Try.sizeOf4
  v4 := Try.zeroValue4
  t5 := Try.underlying5
  a5 := Try.isAgg5
  z5 := Try.sizeOf5
  v5 := Try.zeroValue5
  t9 := Try.underlying9
  a9 := Try.isAgg9
  z9 := Try.sizeOf9
  v9 := Try.zeroValue9
  t46 := Try.underlying128
  a46 := Try.isAgg128
  z46 := Try.sizeOf128
  v46 := Try.zeroValue128
  t51 := Try.underlying139
  a51 := Try.isAgg139
  z51 := Try.sizeOf139
  v51 := Try.zeroValue139
  t146 := Try.underlying142
  a146 := Try.isAgg142
  z146 := Try.sizeOf142
  v146 := Try.zeroValue142
  g1 := by kernel_rfl }
open Go.RowKit Go.Lib in
/-- internal/stringslite.Index (what strings.Index calls) AT A substr OF ONE BYTE c: IT RETURNS 'Lib.indexByte s c'; the world is as it was. (LAID: no walk: one application.) -/
theorem Try.stringslite_Index_one (s : ByteArray) (c : UInt8) (w : World) :
    Calls Try.prog 107 #[.string s, .string ⟨#[c]⟩] w fun e w' => e = .returned (.int .i64 (Lib.indexByte s.data.toList c)) ∧ w' = w := Any.stringslite_Index_one Try.lays219 s c w
end Go.Proofs
namespace Go.Proofs.Ytlppcfjapmmkkaa.Q
open Go.RowKit Go.Proofs.YtlppcfjapmmkkaaW.PrintWords
/-- The place of the first byte c from place i on. -/
def byteAt (c : UInt8) : List UInt8 → Int → Int
  | [], _ => -1
  | x :: r, i => if x = c then i else byteAt c r (i + 1)
def stringslite_Index.f (a0 a1 : ByteArray) : Option Int := if a1.size = 1 then some (Lib.indexByte a0.data.toList (a1.data.toList.headD 0)) else none
theorem stringslite_Index.calls (a0 a1 : ByteArray) (r : Int) (w : World) (h : stringslite_Index.f a0 a1 = some r) :
    Calls Try.prog 107 #[.string a0, .string a1] w fun e w' => e = .returned (.int .i64 r) ∧ Drawn0 w w' := by
  unfold stringslite_Index.f at h
  by_cases h1 : a1.size = 1
  · rw [if_pos h1] at h
    obtain ⟨d⟩ := a1
    obtain ⟨l⟩ := d
    have h2 : l.length = 1 := h1
    obtain ⟨c, rfl⟩ : ∃ c, l = [c] := by
      cases l with
      | nil => simp at h2
      | cons c l =>
        cases l with
        | nil => exact ⟨c, rfl⟩
        | cons _ _ => simp at h2
    obtain rfl := Option.some.inj h
    refine (Try.stringslite_Index_one a0 c w).mono ?_
    rintro e w' ⟨rfl, rfl⟩
    exact ⟨rfl, Drawn0.refl _⟩
  · rw [if_neg h1] at h
    cases h
end Go.Proofs.Ytlppcfjapmmkkaa.Q
