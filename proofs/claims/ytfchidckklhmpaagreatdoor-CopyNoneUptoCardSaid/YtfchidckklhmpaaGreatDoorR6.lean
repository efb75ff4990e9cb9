/- The applets, reckoned by the kernel: lives, and what getopt.Parse answers, stand for themselves. -/
import Derived.Test.YtfchidckklhmpaaGreatDoorR2
import Derived.Test.YtfchidckklhmpaaGreatDoorR3
import Derived.Test.YtfchidckklhmpaaGreatDoorR4
import Derived.Test.YtfchidckklhmpaaGreatDoorR5
namespace Go.Proofs.YtfchidckklhmpaaGreatDoor.Run
open Go Go.Ev Go.Proofs
noncomputable section
set_option linter.unusedVariables false
theorem ok1 (E : Nat → Option Value) (W0 : World) : COK E W0 C1 :=
  (ok E W0).memo fun m hm => by
    simp only [List.mem_cons, List.mem_nil_iff, or_false] at hm
    rcases hm with rfl | rfl | rfl
    · exact Memo.ok (ok E W0) m0
    · exact Memo.ok (ok E W0) m1
    · exact Memo.ok (ok E W0) m2
def stubs2 (f : FuncId) : Option (List Value → AH → Option (Value × AH)) := bIf (Nat.beq f 6) (some (closedStub h0)) (bIf (Nat.beq f 84) (some blindStub) (stubs f))
def C2 : Ctx := { P := Tryz.prog, G := 4, fns := fnsOf Tryz.prog, meth := meths, stub := stubs2 }
set_option maxRecDepth 1000000 in
theorem applets : ((List.range 11).all fun k => isTrue (ev C2 (evDraw C2) 3000 (.call 3 [.int .i64 (.ofNat k), .chan (some 1)] h0))) = true := by decide +kernel
theorem starts : litB h0.blks = true := by decide +kernel

end
end Go.Proofs.YtfchidckklhmpaaGreatDoor.Run
