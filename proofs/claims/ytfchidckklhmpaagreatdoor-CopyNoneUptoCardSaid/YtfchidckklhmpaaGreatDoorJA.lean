/- Closed facts of the row, by the kernel. -/
import Derived.Test.YtfchidckklhmpaaGreatDoorRows
import Derived.JoinedTies
import Derived.JoinedOf
import Derived.KernelRfl
import Derived.Stop.Joined
/- Closed facts of the row, by the kernel. -/
namespace Go.Proofs.YtfchidckklhmpaaGreatDoor
open Go
theorem j2 : (mapsRowed Tryz.prog) = true := by kernel_rfl
end Go.Proofs.YtfchidckklhmpaaGreatDoor

/- Closed facts of the row, by the kernel. -/
namespace Go.Proofs.YtfchidckklhmpaaGreatDoor
open Go
theorem j22 : (Rows.copyNoneUptoRow.plainKeys == Tryz.prog.plainKeys) = true := by kernel_rfl
end Go.Proofs.YtfchidckklhmpaaGreatDoor

/- Closed facts of the row, by the kernel. -/
namespace Go.Proofs.YtfchidckklhmpaaGreatDoor
open Go
theorem j24 : (Tryz.prog.stopsHeard) = true := by kernel_rfl
end Go.Proofs.YtfchidckklhmpaaGreatDoor

/- Closed facts of the row, by the kernel. -/
namespace Go.Proofs.YtfchidckklhmpaaGreatDoor
open Go
theorem j25 : (Tryz.prog.mayEnter) = true := by kernel_rfl
end Go.Proofs.YtfchidckklhmpaaGreatDoor
