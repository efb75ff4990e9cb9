/- The context of the whole run is right. -/
import Derived.Test.YtnaodplcionlhaaGreatDoorR2
import Derived.Test.YtnaodplcionlhaaGreatDoorR3
import Derived.Test.YtnaodplcionlhaaGreatDoorR4
import Derived.Test.YtnaodplcionlhaaGreatDoorR5
namespace Go.Proofs.YtnaodplcionlhaaGreatDoor.Run
open Go Go.Ev Go.Proofs
noncomputable section
set_option linter.unusedVariables false
theorem ok1 (E : Nat → Option Value) (W0 : World) : COK E W0 C1 :=
  (ok E W0).memo fun m hm => by
    simp only [List.mem_cons, List.mem_nil_iff, or_false] at hm
    rcases hm with rfl | rfl | rfl
    · exact Memo.ok (ok E W0) m0
    · exact Memo.ok (ok E W0) m1
    · exact Memo.ok (ok E W0) m2

end
end Go.Proofs.YtnaodplcionlhaaGreatDoor.Run
