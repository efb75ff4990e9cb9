/- Where the arguments hold at most 1048576 values and letters, CopyNone returns true for every applet's number and arguments, and its arguments read behind the call as before it.
   Conditions: that bound (the second form's), and the listed package-level variables (tables of Go's library), which the card ties to the program's text. -/
import Derived.Test.YtfchidckklhmpaaGreatDoorTie
import Derived.Test.YtfchidckklhmpaaGreatDoorCards
import Derived.Test.YtfchidckklhmpaaGreatDoorRow
import Derived.Test.YtfchidckklhmpaaGreatDoorJ0
import Derived.Test.YtfchidckklhmpaaGreatDoorJ6
import Derived.SevenTiedAt
import Derived.JoinedCond
import Derived.Stop.Joined
namespace Go.Proofs.YtfchidckklhmpaaGreatDoor
open Go Go.ChangeShapes Go.WideShapes Go.ChangeAt Go.RowKit
set_option linter.unusedVariables false

theorem over : Rows.CopyNoneUptoSaid :=
  OpenClaim.holds_of_cond 3 Tryz.f3 rfl rfl rfl rfl rfl rfl rfl ⟨rfl, rfl, rfl, rfl, rfl⟩ rfl rfl rfl rfl rfl named Tryz.func3 closed
    (of_decide_eq_true (by kernel_rfl)) (by unfold Func.isWrapper; first | (rw [if_pos (by decide +kernel)]; kernel_rfl) | (rw [if_neg (by decide +kernel)]; exact ⟨rfl, rfl⟩))
    (fun os started H enc _ F => by rw [OpenClaim.pre_eq_preRow]; exact lifted os started H enc F)

theorem copyNoneUpto_holds : Rows.CopyNoneUptoCardSaid :=
  Claim7.holds_tied_plain_at .later [] [.data, .data, .pinned] true (true, "178d6c17997b65962f9b47b9324f88f524adf0aca774e5849d08bf45f676816f") true
    over (fun _ h => by cases h) (by kernel_rfl) (fun _ h => by cases h) copyNoneUpto_row_tie rfl ⟨rfl, rfl⟩ (by kernel_rfl) rfl
    (fun f fn hf hfn => by
      obtain rfl : f = 3 := (Option.some.inj (named.symm.trans hf)).symm
      obtain rfl : fn = Tryz.f3 := (Option.some.inj (Tryz.func3.symm.trans hfn)).symm
      exact ⟨by kernel_rfl, fun j t ht => by
        rw [Tryz.params3] at ht
        have hm : t ∈ [3, 22] := by simpa using Array.mem_of_getElem? ht
        have hall : ([3, 22].all fun u => !Tryz.prog.wantsStandIn u) = true := by kernel_rfl
        exact (show Tryz.prog.wantsStandIn t = false by simpa using List.all_eq_true.1 hall t hm)⟩)
    goes
#print axioms copyNoneUpto_holds
end Go.Proofs.YtfchidckklhmpaaGreatDoor
