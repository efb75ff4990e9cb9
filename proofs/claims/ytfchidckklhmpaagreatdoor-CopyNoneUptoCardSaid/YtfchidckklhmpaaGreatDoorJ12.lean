/- Closed facts of the row, by the kernel. -/
import Derived.Test.YtfchidckklhmpaaGreatDoorRows
import Derived.JoinedTies
import Derived.JoinedOf
import Derived.KernelRfl
import Derived.Stop.Joined
namespace Go.Proofs.YtfchidckklhmpaaGreatDoor
open Go
theorem j12 : (Rows.copyNoneUptoRow.named == Tryz.prog.varsNamed 3) = true := by kernel_rfl
end Go.Proofs.YtfchidckklhmpaaGreatDoor
