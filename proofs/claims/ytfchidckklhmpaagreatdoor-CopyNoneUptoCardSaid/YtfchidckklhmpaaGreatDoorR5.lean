/- lives' run, reckoned by the kernel out of its parts. -/
import Derived.Test.YtfchidckklhmpaaGreatDoorR1
namespace Go.Proofs.YtfchidckklhmpaaGreatDoor.Run
open Go Go.Ev Go.Proofs
noncomputable section
set_option linter.unusedVariables false
def isMemo (f : FuncId) : Bool := bIf (Nat.beq f 21) true (Nat.beq f 94)
def C1 : Ctx := C0.memo isMemo [memo0, memo1, memo2]
set_option maxRecDepth 1000000 in
theorem lives : isTrue (ev C1 (evDraw C1) 3000 (.call 6 [] h0)) = true := by decide +kernel

end
end Go.Proofs.YtfchidckklhmpaaGreatDoor.Run
