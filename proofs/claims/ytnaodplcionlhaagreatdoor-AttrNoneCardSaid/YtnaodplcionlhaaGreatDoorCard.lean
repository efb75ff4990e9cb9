/- For every applet's number and arguments AttrNone returns true, and its argument reads behind the call as before it.
   Conditions: none but the listed package-level variables (tables of Go's library), which the card ties to the program's text. -/
import Derived.Test.YtnaodplcionlhaaGreatDoorTie
import Derived.Test.YtnaodplcionlhaaGreatDoorCards
import Derived.Test.YtnaodplcionlhaaGreatDoorRow
import Derived.Test.YtnaodplcionlhaaGreatDoorJ0
import Derived.Test.YtnaodplcionlhaaGreatDoorJ6
import Derived.SevenTiedAt
import Derived.Stop.Joined
namespace Go.Proofs.YtnaodplcionlhaaGreatDoor
open Go Go.ChangeShapes Go.WideShapes Go.ChangeAt Go.RowKit
set_option linter.unusedVariables false

theorem over : Rows.AttrNoneSaid :=
  OpenClaim.holds_of_wide 3 Tryz.f3 rfl rfl rfl rfl rfl rfl rfl ⟨rfl, rfl, rfl, rfl, rfl⟩ rfl rfl rfl rfl rfl named Tryz.func3 closed
    (of_decide_eq_true (by kernel_rfl)) (by unfold Func.isWrapper; first | (rw [if_pos (by decide +kernel)]; kernel_rfl) | (rw [if_neg (by decide +kernel)]; exact ⟨rfl, rfl⟩))
    (fun os started H enc _ => lifted os started H enc)

theorem attrNone_holds : Rows.AttrNoneCardSaid :=
  Claim7.holds_tied_plain_at .later [] [.data, .data, .data, .data, .data, .pinned] true (true, "a3e8b53ddcac8718a1741169a64dbc56785bcd1b43c0cc22cdf522d1f31d3af8") true
    over (fun _ h => by cases h) (by kernel_rfl) (fun _ h => by cases h) attrNone_row_tie rfl ⟨rfl, rfl⟩ (by kernel_rfl) rfl
    (fun f fn hf hfn => by
      obtain rfl : f = 3 := (Option.some.inj (named.symm.trans hf)).symm
      obtain rfl : fn = Tryz.f3 := (Option.some.inj (Tryz.func3.symm.trans hfn)).symm
      exact ⟨by kernel_rfl, fun j t ht => by
        rw [Tryz.params3] at ht
        have hm : t ∈ [24] := by simpa using Array.mem_of_getElem? ht
        have hall : ([24].all fun u => !Tryz.prog.wantsStandIn u) = true := by kernel_rfl
        exact (show Tryz.prog.wantsStandIn t = false by simpa using List.all_eq_true.1 hall t hm)⟩)
    goes
#print axioms attrNone_holds
end Go.Proofs.YtnaodplcionlhaaGreatDoor
