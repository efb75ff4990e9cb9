/- A part of the run, reckoned by the kernel. -/
import Derived.Test.YtfchidckklhmpaaGreatDoorR1
namespace Go.Proofs.YtfchidckklhmpaaGreatDoor.Run
open Go Go.Ev Go.Proofs
noncomputable section
set_option linter.unusedVariables false
set_option maxRecDepth 1000000 in
theorem m2 : memo2.right C0 3000 = true := by decide +kernel

end
end Go.Proofs.YtfchidckklhmpaaGreatDoor.Run
