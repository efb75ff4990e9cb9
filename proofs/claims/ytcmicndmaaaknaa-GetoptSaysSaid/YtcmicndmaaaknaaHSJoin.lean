/- strings.Join at a row of texts, out of the library's own contract, laid at this dump. -/
import Derived.Shelf.Strings.OnBuilder
import Derived.Test.YtcmicndmaaaknaaHBytes
namespace Go.Proofs
open Go.Shelf
def Try.lays156_ren : Go.Shelf.Ren := ⟨fun | 156 => 34 | 165 => 40 | 166 => 41 | 169 => 42 | 240 => 46 | 241 => 47 | 276 => 52 | 277 => 53 | n => n, fun | 31 => 22 | 9 => 9 | 3 => 3 | 4 => 4 | 0 => 0 | 20 => 20 | 72 => 78 | 76 => 82 | 70 => 76 | 37 => 74 | 75 => 81 | 127 => 85 | 164 => 89 | 5 => 5 | 80 => 84 | n => n, fun | n => n⟩
theorem Try.lays156 : Go.Proofs.Lays.n156 Try.prog Try.lays156_ren := {
  mixed := by kernel_rfl
  f156 := Try.func34.trans (congrArg some (by kernel_rfl))
  f165 := Try.func40.trans (congrArg some (by kernel_rfl))
  f166 := Try.func41.trans (congrArg some (by kernel_rfl))
  f169 := Try.func42.trans (congrArg some (by kernel_rfl))
  f240 := Try.func46.trans (congrArg some (by kernel_rfl))
  f241 := Try.func47.trans (congrArg some (by kernel_rfl))
  f276 := Try.func52.trans (congrArg some (by kernel_rfl))
  f277 := Try.func53.trans (congrArg some (by kernel_rfl))
  t0 := Try.underlying0
  a0 := Try.isAgg0
  z0 := Try.sizeOf0
  v0 := Try.zeroValue0
  t3 := Try.underlying3
  a3 := Try.isAgg3
  z3 := Try.sizeOf3
  v3 := Try.zeroValue3
  t4 := Try.underlying4
  a4 := Try.isAgg4
  z4 := Try.sizeOf4
  v4 := Try.zeroValue4
  t9 := Try.underlying9
  a9 := Try.isAgg9
  z9 := Try.sizeOf9
  v9 := Try.zeroValue9
  t20 := Try.underlying20
  a20 := Try.isAgg20
  z20 := Try.sizeOf20
  v20 := Try.zeroValue20
  t31 := Try.underlying22
  a31 := Try.isAgg22
  z31 := Try.sizeOf22
  v31 := Try.zeroValue22
  t37 := Try.underlying74
  a37 := Try.isAgg74
  z37 := Try.sizeOf74
  v37 := Try.zeroValue74
  t70 := Try.underlying76
  a70 := Try.isAgg76
  z70 := Try.sizeOf76
  v70 := Try.zeroValue76
  t72 := Try.underlying78
  a72 := Try.isAgg78
  z72 := Try.sizeOf78
  v72 := Try.zeroValue78
  t75 := Try.underlying81
  a75 := Try.isAgg81
  z75 := Try.sizeOf81
  v75 := Try.zeroValue81
  t76 := Try.underlying82
  a76 := Try.isAgg82
  z76 := Try.sizeOf82
  v76 := Try.zeroValue82
  t127 := Try.underlying85
  a127 := Try.isAgg85
  z127 := Try.sizeOf85
  v127 := Try.zeroValue85
  t164 := Try.underlying89
  a164 := Try.isAgg89
  z164 := Try.sizeOf89
  v164 := Try.zeroValue89 }
theorem Try.Builder_Extra_156 : Builder.Extra Try.prog Try.lays156_ren := {
  sizeBuilder := by kernel_rfl
  liesBuilder := by kernel_rfl
  t5 := Try.underlying5
  a5 := Try.isAgg5
  z5 := Try.sizeOf5
  v5 := Try.zeroValue5
  infoByte := by kernel_rfl
  cellsByte := by kernel_rfl
  sizeByte := by kernel_rfl
  neB5 := by decide }
open Go.RowKit in
/-- No element: the empty string; the world is as it was. (Whatever the slice's address and capacity: a nil slice too.) (LAID: no walk: one application.) -/
theorem Try.strings_Join_none (a : Option Addr) (c : Nat) (sep : ByteArray) (w : World) :
    Calls Try.prog 34 #[.slice a 0 c, .string sep] w fun e w' => e = .returned (.string ⟨#[]⟩) ∧ w' = w := Any.strings_Join_none Try.lays156 Try.Builder_Extra_156 a c sep w
open Go.RowKit in
/-- strings.Join: "Join concatenates the elements of its first argument to create a single string. The separator string sep is placed between elements in the resulting string.": HOWEVER MANY ELEMENTS. Below the heap's end the world is as it was. (LAID: no walk: one application.) -/
theorem Try.strings_Join (bk o c : Nat) (xs : List ByteArray) (sep : ByteArray) (w : World) (hcells : ∀ (j : Nat) x, xs[j]? = some x → w.cell? ⟨bk, o + j, none⟩ = some (.string x)) (hbk : bk < w.heap.size) (hN : xs.length ≤ 140737488355328) (hcap : xs.length ≤ c) (hlen : (Lib.join (xs.map (·.data.toList)) sep.data.toList).length ≤ 140737488355328) :
    Calls Try.prog 34 #[.slice (some ⟨bk, o, none⟩) xs.length c, .string sep] w fun e w' => e = .returned (.string ⟨(Lib.join (xs.map (·.data.toList)) sep.data.toList).toArray⟩) ∧ Below w.heap.size w w' := Any.strings_Join Try.lays156 Try.Builder_Extra_156 bk o c xs sep w hcells hbk hN hcap hlen
end Go.Proofs
namespace Go.Proofs.Ytcmicndmaaaknaa.G
open Go.RowKit Go.Proofs.YtcmicndmaaaknaaW.PrintWords

theorem joinSp_eq (xs : List (List UInt8)) : joinSp xs = Lib.join xs [32] := by
  match xs with
  | [] => rfl
  | [x] => rw [Lib.join_one]; rfl
  | x :: y :: r =>
    rw [joinSp, joinSp_eq (y :: r), Lib.join_cons, Lib.join_cons, Lib.joinTail, Lib.joinTail]
    simp

theorem sjoin_calls {base : Nat} {ok : Nat → Prop} (v : Value) (xs : List ByteArray) (w : World) (hR : Kd.R Kd.string 9 w base ok v xs) (hN : xs.length ≤ 140737488355328) (hlen : (joinSp (xs.map (·.data.toList))).length ≤ 140737488355328) :
    Calls Try.prog 34 #[v, .string (mkB [32])] w fun e w' => e = .returned (.string (mkB (joinSp (xs.map (·.data.toList))))) ∧ Below w.heap.size w w' := by
  have hs : (mkB [32]).data.toList = [32] := mkB_data _
  obtain ⟨A, c, hv, hc, hC⟩ := Kd.R_reads hR
  obtain ⟨inner, hown⟩ := Kd.R_own hR
  subst hv
  rcases hown.2 with ⟨h1, h2⟩ | ⟨g, cap, cur, h1, hg, hh, h2, h3, h4, h5⟩
  · injection h1 with h1 h3 h4
    subst h1 h4
    have : xs = [] := List.eq_nil_of_length_eq_zero h3
    subst this
    exact (Try.strings_Join_none none 0 (mkB [32]) w).mono fun e w' h => ⟨h.1, by rw [h.2]; exact Below.refl _ _⟩
  · injection h1 with h1 h6 h7
    subst h1 h7
    have hj := Try.strings_Join g 0 c xs (mkB [32]) w ?_ (Array.getElem?_eq_some_iff.1 hh).1 hN hc (by rw [hs, ← joinSp_eq]; exact hlen)
    · rw [hs, ← joinSp_eq] at hj
      exact hj
    · intro j x hx
      have hlt := (List.getElem?_eq_some_iff.1 hx).1
      obtain ⟨ad, he, hcell⟩ := hC.2.2 (by omega)
      injection he with he
      subst he
      obtain ⟨cs, hl, hk, hcs⟩ := hcell j x hx
      have hk2 : cs = [.string x] := hk
      subst hk2
      have := hcs 0 (.string x) rfl
      rw [← this]
      unfold Addr.add
      by_cases h0 : j = 0
      · subst h0; rfl
      · have : Kd.string.sz = 1 := rfl
        rw [this, if_neg (by omega)]
        simp
end Go.Proofs.Ytcmicndmaaaknaa.G
