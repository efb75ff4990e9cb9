/- No function starts another goroutine: a part of them. -/
import Derived.Test.YtfchidckklhmpaaGreatDoorRows
import Derived.JoinedTies
import Derived.JoinedOf
import Derived.KernelRfl
import Derived.Stop.Joined
import GoSem.ClaimGoes
namespace Go.Proofs.YtfchidckklhmpaaGreatDoor
open Go
set_option maxRecDepth 1000000 in
theorem go2 : ((List.range' 242 121).any fun g => (Tryz.prog.funcs[g]?).any Func.goes) = false := by decide +kernel
set_option maxRecDepth 1000000 in
theorem go3 : ((List.range' 363 121).any fun g => (Tryz.prog.funcs[g]?).any Func.goes) = false := by decide +kernel
end Go.Proofs.YtfchidckklhmpaaGreatDoor
