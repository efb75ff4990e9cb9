/- strings.Contains at a text of one byte, and at any text where internal/bytealg.MaxLen's variable can be read: out of the library's own contracts, laid at this dump. -/
import Derived.Shelf.Strings.Search3
import Derived.Test.YtcmicndmaaaknaaHBytes
namespace Go.Proofs
open Go.Shelf
def Try.lays144_ren : Go.Shelf.Ren := ⟨fun | 144 => 32 | 143 => 39 | 219 => 45 | 217 => 48 | 225 => 49 | 224 => 50 | 267 => 51 | 266 => 54 | 314 => 55 | n => n, fun | 9 => 9 | 4 => 4 | 3 => 3 | 5 => 5 | 46 => 88 | 146 => 93 | 51 => 92 | n => n, fun | 1 => 0 | n => n⟩
theorem Try.lays144 : Go.Proofs.Lays.n144 Try.prog Try.lays144_ren := {
  mixed := by kernel_rfl
  f143 := Try.func39.trans (congrArg some (by kernel_rfl))
  f144 := Try.func32.trans (congrArg some (by kernel_rfl))
  f217 := Try.func48.trans (congrArg some (by kernel_rfl))
  f219 := Try.func45.trans (congrArg some (by kernel_rfl))
  f224 := Try.func50.trans (congrArg some (by kernel_rfl))
  f225 := Try.func49.trans (congrArg some (by kernel_rfl))
  f266 := Try.func54.trans (congrArg some (by kernel_rfl))
  f267 := Try.func51.trans (congrArg some (by kernel_rfl))
  f314 := Try.func55.trans (congrArg some (by kernel_rfl))
  t3 := Try.underlying3
  a3 := Try.isAgg3
  z3 := Try.sizeOf3
  v3 := Try.zeroValue3
  t4 := Try.underlying4
  a4 := Try.isAgg4
  z4 := Try.sizeOf4
  v4 := Try.zeroValue4
  t5 := Try.underlying5
  a5 := Try.isAgg5
  z5 := Try.sizeOf5
  v5 := Try.zeroValue5
  t9 := Try.underlying9
  a9 := Try.isAgg9
  z9 := Try.sizeOf9
  v9 := Try.zeroValue9
  t46 := Try.underlying88
  a46 := Try.isAgg88
  z46 := Try.sizeOf88
  v46 := Try.zeroValue88
  t51 := Try.underlying92
  a51 := Try.isAgg92
  z51 := Try.sizeOf92
  v51 := Try.zeroValue92
  t146 := Try.underlying93
  a146 := Try.isAgg93
  z146 := Try.sizeOf93
  v146 := Try.zeroValue93
  g1 := by kernel_rfl }
open Go.RowKit Go.Lib in
theorem Try.strings_Contains_one (s : ByteArray) (c : UInt8) (w : World) :
    Calls Try.prog 32 #[.string s, .string ⟨#[c]⟩] w fun e w' => e = .returned (.bool (decide (0 ≤ Lib.indexByte s.data.toList c))) ∧ w' = w := Any.strings_Contains_one Try.lays144 s c w
open Go.RowKit Go.Lib in
theorem Try.strings_Contains (s sub : ByteArray) (m : Int) (w : World) (hs : s.size < 4294967281) (hm : w.cell? ⟨0, 0, none⟩ = some (.int .i64 m)) :
    Calls Try.prog 32 #[.string s, .string sub] w fun e w' => e = .returned (.bool (Lib.contains s.data.toList sub.data.toList)) ∧ w' = w := Any.strings_Contains Try.lays144 s sub m w hs hm
end Go.Proofs
namespace Go.Proofs.Ytcmicndmaaaknaa.G
open Go.RowKit Go.Proofs.YtcmicndmaaaknaaW.PrintWords

/-- internal/bytealg.MaxLen can be read -/
structure MaxOk (w : World) : Prop where
  cell : ∃ m, w.cell? ⟨0, 0, none⟩ = some (.int .i64 m)
theorem MaxOk.below {w w1 : World} (h : MaxOk w) (hb : Below w.heap.size w w1) : MaxOk w1 := by
  obtain ⟨m, hm⟩ := h.cell
  exact ⟨m, pw_cell_below hb hm⟩

theorem indexByte_contains (l : List UInt8) (c : UInt8) : decide (0 ≤ Lib.indexByte l c) = l.contains c := by
  induction l with
  | nil => simp [Lib.indexByte]
  | cons b l ih =>
    have hg := Lib.indexByte_ge l c
    rw [List.contains_cons]
    by_cases h : b = c
    · subst h
      simp [Lib.indexByte]
    · have h1 : (b == c) = false := by simpa using h
      have h2 : (c == b) = false := by simpa using fun e => h e.symm
      rw [h2, Bool.false_or, ← ih]
      simp only [Lib.indexByte, h1, Bool.false_eq_true, if_false]
      by_cases hi : Lib.indexByte l c = -1
      · simp [hi]
      · have hi2 : (Lib.indexByte l c == -1) = false := by simpa using hi
        simp only [hi2, Bool.false_eq_true, if_false]
        have a : 0 ≤ Lib.indexByte l c := by omega
        simp [a]
        omega

theorem contains_byte (a : ByteArray) (c : UInt8) (w : World) :
    Calls Try.prog 32 #[.string a, .string (mkB [c])] w fun e w' => e = .returned (.bool (a.data.toList.contains c)) ∧ w' = w := by
  rw [← indexByte_contains]
  exact Try.strings_Contains_one a c w

theorem contains_any (a b : ByteArray) (w : World) (hM : MaxOk w) (hs : a.size < 4294967281) :
    Calls Try.prog 32 #[.string a, .string b] w fun e w' => ∃ r : Bool, e = .returned (.bool r) ∧ w' = w := by
  obtain ⟨m, hm⟩ := hM.cell
  exact (Try.strings_Contains a b m w hs hm).mono fun e w' h => ⟨_, h⟩

theorem strings_Contains.calls (a0 : ByteArray) (a1 : ByteArray) (r : Bool) (w : World) (h : strings_Contains.f a0 a1 = some r) :
    Calls Try.prog 32 #[.string a0, .string a1] w fun e w' => e = .returned (.bool r) ∧ Drawn0 w w' := by
  unfold strings_Contains.f at h
  split at h
  · rename_i b hb
    have e : a1 = mkB [b] := eq_mkB hb
    subst e
    injection h with h
    subst h
    exact (contains_byte a0 b w).mono fun e w' hh => ⟨hh.1, by rw [hh.2]; exact Drawn0.refl w⟩
  · cases h
end Go.Proofs.Ytcmicndmaaaknaa.G
