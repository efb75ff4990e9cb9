/- The run, reckoned by the kernel out of its parts. -/
import Derived.Test.YtnaodplcionlhaaGreatDoorR1
namespace Go.Proofs.YtnaodplcionlhaaGreatDoor.Run
open Go Go.Ev Go.Proofs
noncomputable section
set_option linter.unusedVariables false
def isMemo (f : FuncId) : Bool := bIf (Nat.beq f 249) true (bIf (Nat.beq f 250) true (Nat.beq f 113))
def C1 : Ctx := C0.memo isMemo [memo0, memo1, memo2]
set_option maxRecDepth 1000000 in
theorem main : isTrue (ev C1 (evDraw C1) 3000 (.call 3 [.agg #[.chan (some 0), .chan (some 1)]] h0)) = true := by decide +kernel

end
end Go.Proofs.YtnaodplcionlhaaGreatDoor.Run
