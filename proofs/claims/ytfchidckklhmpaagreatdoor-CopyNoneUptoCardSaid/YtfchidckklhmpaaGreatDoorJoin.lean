/- strings.Join at a row of texts, out of the library's own contract, laid at this dump. -/
import Derived.Shelf.Strings.OnBuilder
import Derived.Test.YtfchidckklhmpaaGreatDoorProg
namespace Go.Proofs
open Go.Shelf
def Tryz.lays156_ren : Go.Shelf.Ren := ⟨fun | 156 => 307 | 165 => 384 | 166 => 385 | 169 => 386 | 240 => 423 | 241 => 424 | 276 => 437 | 277 => 438 | n => n, fun | 31 => 22 | 9 => 9 | 3 => 3 | 4 => 4 | 0 => 0 | 20 => 20 | 72 => 421 | 76 => 424 | 70 => 419 | 37 => 42 | 75 => 423 | 127 => 445 | 164 => 458 | 5 => 5 | 80 => 426 | n => n, fun | n => n⟩
theorem Tryz.lays156 : Go.Proofs.Lays.n156 Tryz.prog Tryz.lays156_ren := {
  mixed := by kernel_rfl
  f156 := Tryz.func307.trans (congrArg some (by kernel_rfl))
  f165 := Tryz.func384.trans (congrArg some (by kernel_rfl))
  f166 := Tryz.func385.trans (congrArg some (by kernel_rfl))
  f169 := Tryz.func386.trans (congrArg some (by kernel_rfl))
  f240 := Tryz.func423.trans (congrArg some (by kernel_rfl))
  f241 := Tryz.func424.trans (congrArg some (by kernel_rfl))
  f276 := Tryz.func437.trans (congrArg some (by kernel_rfl))
  f277 := Tryz.func438.trans (congrArg some (by kernel_rfl))
  t0 := Tryz.underlying0
  a0 := Tryz.isAgg0
  z0 := Tryz.sizeOf0
  v0 := Tryz.zeroValue0
  t3 := Tryz.underlying3
  a3 := Tryz.isAgg3
  z3 := Tryz.sizeOf3
  v3 := Tryz.zeroValue3
  t4 := Tryz.underlying4
  a4 := Tryz.isAgg4
  z4 := Tryz.sizeOf4
  v4 := Tryz.zeroValue4
  t9 := Tryz.underlying9
  a9 := Tryz.isAgg9
  z9 := Tryz.sizeOf9
  v9 := Tryz.zeroValue9
  t20 := Tryz.underlying20
  a20 := Tryz.isAgg20
  z20 := Tryz.sizeOf20
  v20 := Tryz.zeroValue20
  t31 := Tryz.underlying22
  a31 := Tryz.isAgg22
  z31 := Tryz.sizeOf22
  v31 := Tryz.zeroValue22
  t37 := Tryz.underlying42
  a37 := Tryz.isAgg42
  z37 := Tryz.sizeOf42
  v37 := Tryz.zeroValue42
  t70 := Tryz.underlying419
  a70 := Tryz.isAgg419
  z70 := Tryz.sizeOf419
  v70 := Tryz.zeroValue419
  t72 := Tryz.underlying421
  a72 := Tryz.isAgg421
  z72 := Tryz.sizeOf421
  v72 := Tryz.zeroValue421
  t75 := Tryz.underlying423
  a75 := Tryz.isAgg423
  z75 := Tryz.sizeOf423
  v75 := Tryz.zeroValue423
  t76 := Tryz.underlying424
  a76 := Tryz.isAgg424
  z76 := Tryz.sizeOf424
  v76 := Tryz.zeroValue424
  t127 := Tryz.underlying445
  a127 := Tryz.isAgg445
  z127 := Tryz.sizeOf445
  v127 := Tryz.zeroValue445
  t164 := Tryz.underlying458
  a164 := Tryz.isAgg458
  z164 := Tryz.sizeOf458
  v164 := Tryz.zeroValue458 }
theorem Tryz.Builder_Extra_156 : Builder.Extra Tryz.prog Tryz.lays156_ren := {
  sizeBuilder := by kernel_rfl
  liesBuilder := by kernel_rfl
  t5 := Tryz.underlying5
  a5 := Tryz.isAgg5
  z5 := Tryz.sizeOf5
  v5 := Tryz.zeroValue5
  infoByte := by kernel_rfl
  cellsByte := by kernel_rfl
  sizeByte := by kernel_rfl
  neB5 := by decide }
open Go.RowKit in
theorem Tryz.strings_Join (bk o c : Nat) (xs : List ByteArray) (sep : ByteArray) (w : World) (hcells : ∀ (j : Nat) x, xs[j]? = some x → w.cell? ⟨bk, o + j, none⟩ = some (.string x)) (hbk : bk < w.heap.size) (hN : xs.length ≤ 140737488355328) (hcap : xs.length ≤ c) (hlen : (Lib.join (xs.map (·.data.toList)) sep.data.toList).length ≤ 140737488355328) :
    Calls Tryz.prog 307 #[.slice (some ⟨bk, o, none⟩) xs.length c, .string sep] w fun e w' => e = .returned (.string ⟨(Lib.join (xs.map (·.data.toList)) sep.data.toList).toArray⟩) ∧ Below w.heap.size w w' := Any.strings_Join Tryz.lays156 Tryz.Builder_Extra_156 bk o c xs sep w hcells hbk hN hcap hlen
end Go.Proofs
