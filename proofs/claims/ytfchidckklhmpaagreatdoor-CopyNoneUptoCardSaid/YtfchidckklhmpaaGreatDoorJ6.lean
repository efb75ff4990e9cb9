/- The function by its name; no function starts another goroutine. -/
import Derived.Test.YtfchidckklhmpaaGreatDoorJ7
import Derived.Test.YtfchidckklhmpaaGreatDoorJ8
namespace Go.Proofs.YtfchidckklhmpaaGreatDoor
open Go
theorem named : Tryz.prog.funcNamed Rows.copyNoneUptoRow.func = some 3 := by kernel_rfl
theorem sized : Tryz.prog.funcs.size = 484 := by kernel_rfl
theorem noGo (g : Nat) : (Tryz.prog.funcs[g]?).any Func.goes = false := by
  have of : ∀ a n, ((List.range' a n).any fun g => (Tryz.prog.funcs[g]?).any Func.goes) = false → a ≤ g → g < a + n → (Tryz.prog.funcs[g]?).any Func.goes = false := by
    intro a n h h1 h2
    have := List.any_eq_false.1 h g (List.mem_range'_1.2 ⟨h1, h2⟩)
    simpa using this
  by_cases h : g < 484
  · by_cases h1 : g < 121
    · exact of _ _ go0 (by omega) (by omega)
    · by_cases h2 : g < 242
      · exact of _ _ go1 (by omega) (by omega)
      · by_cases h3 : g < 363
        · exact of _ _ go2 (by omega) (by omega)
        · exact of _ _ go3 (by omega) (by omega)
  · rw [Array.getElem?_eq_none (by rw [sized]; omega)]; rfl
theorem goes_none {Q : Program} (hq : ∀ g : Nat, (Q.funcs[g]?).any Func.goes = false) (f : FuncId) : Q.goes f = false := by
  have h1 : ((Q.closure f).any fun g => (Q.funcs[g]?).any Func.goes) = false := by
    rw [List.any_eq_false]
    intro g _ hg
    rw [hq g] at hg; cases hg
  have h2 : Q.funcs.any Func.goes = false := by
    rw [Array.any_eq_false]
    intro i hi hg
    have := hq i
    rw [Array.getElem?_eq_getElem hi] at this
    have : Func.goes Q.funcs[i] = false := this
    rw [this] at hg; cases hg
  unfold Program.goes
  rw [h1, h2]
  simp
theorem goesBy_none {Q : Program} {c : OpenClaim} (hq : ∀ g : Nat, (Q.funcs[g]?).any Func.goes = false) (hs : c.start = .entering) : c.goesBy Q = false := by
  unfold OpenClaim.goesBy Program.goesAt Program.goesFrom
  rw [hs]
  cases Q.funcNamed c.func with
  | none => rfl
  | some f => simp [goes_none hq]
theorem goes : false = Rows.copyNoneUptoRow.goesBy Tryz.prog := (goesBy_none noGo rfl).symm
end Go.Proofs.YtfchidckklhmpaaGreatDoor
