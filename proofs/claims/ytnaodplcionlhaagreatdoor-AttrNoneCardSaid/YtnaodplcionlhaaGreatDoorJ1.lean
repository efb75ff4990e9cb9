/- Closed facts of the row, by the kernel. -/
import Derived.Test.YtnaodplcionlhaaGreatDoorRows
import Derived.JoinedTies
import Derived.JoinedOf
import Derived.KernelRfl
import Derived.Stop.Joined
namespace Go.Proofs.YtnaodplcionlhaaGreatDoor
open Go
theorem j1 : (laidOutB Tryz.prog) = true := by kernel_rfl
end Go.Proofs.YtnaodplcionlhaaGreatDoor
