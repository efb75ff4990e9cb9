/- The closed facts of the row, together. -/
import Derived.Test.YtnaodplcionlhaaGreatDoorJ1
import Derived.Test.YtnaodplcionlhaaGreatDoorJ2
import Derived.Test.YtnaodplcionlhaaGreatDoorJ3
import Derived.Test.YtnaodplcionlhaaGreatDoorJ4
import Derived.Test.YtnaodplcionlhaaGreatDoorJ5
import Derived.Test.YtnaodplcionlhaaGreatDoorJ9
import Derived.Test.YtnaodplcionlhaaGreatDoorJ10
import Derived.Test.YtnaodplcionlhaaGreatDoorJ11
import Derived.Test.YtnaodplcionlhaaGreatDoorJ12
import Derived.Stop.Joined
namespace Go.Proofs.YtnaodplcionlhaaGreatDoor
open Go
theorem and2 {a b : Bool} (ha : a = true) (hb : b = true) : (a && b) = true := by rw [ha, hb]; rfl
theorem j0 : (Rows.attrNoneRow.wf (OpenSpec.ofChange Rows.attrNoneSpec)) = true := by kernel_rfl
theorem j3 : (Tryz.f3.params.all (Tryz.prog.readableRec ·)) = true := by kernel_rfl
theorem j4 : (namedTie Tryz.prog Rows.attrNoneRow.named Rows.attrNoneSpec.vars) = true := by kernel_rfl
theorem j5 : (Rows.attrNoneRow.stops == []) = true := by kernel_rfl
theorem j6 : (Tryz.prog.stops == []) = true := by kernel_rfl
theorem j7 : (Rows.attrNoneRow.knobs == []) = true := by kernel_rfl
theorem j8 : (Tryz.prog.stopKnobs == []) = true := by kernel_rfl
theorem j13 : (Rows.attrNoneRow.maps == (Tryz.f3.params.toList ++ Rows.attrNoneSpec.plain.varTypes Tryz.prog).any (Tryz.prog.mapsRec ·)) = true := by kernel_rfl
theorem j14 : (Rows.attrNoneRow.ifaces == (Tryz.f3.params.toList ++ Rows.attrNoneSpec.plain.varTypes Tryz.prog).any (Tryz.prog.ifacesRec ·)) = true := by kernel_rfl
theorem j15 : (Rows.attrNoneRow.mapsOut == Tryz.prog.mapsAmong Tryz.f3.resultTypes.toList) = true := by kernel_rfl
theorem j16 : (Rows.attrNoneRow.loops == (Tryz.f3.params.toList ++ Rows.attrNoneSpec.plain.varTypes Tryz.prog).any (Tryz.prog.loopsFrom ·)) = true := by kernel_rfl
theorem j17 : (Rows.attrNoneRow.wideKeys == (Tryz.f3.params.toList ++ Rows.attrNoneSpec.plain.varTypes Tryz.prog ++ Tryz.f3.resultTypes.toList).any (Tryz.prog.wideKeysFrom ·)) = true := by kernel_rfl
theorem j18 : (Rows.attrNoneSpec.vars.all (Tryz.prog.varReadable ·)) = true := by kernel_rfl
theorem j19 : (Tryz.f3.resultTypes.all (fun t => Tryz.prog.readableRec t && decide (t < Tryz.prog.types.size))) = true := by kernel_rfl
theorem j20 : (Rows.attrNoneRow.ifacesOut == Tryz.f3.resultTypes.toList.any (Tryz.prog.ifacesRec ·)) = true := by kernel_rfl
theorem j21 : (Rows.attrNoneRow.loopsOut == Tryz.f3.resultTypes.toList.any (Tryz.prog.loopsFrom ·)) = true := by kernel_rfl
theorem j23 : (Rows.attrNoneRow.shortTexts.isNone) = true := by kernel_rfl
theorem j26 : (Rows.attrNoneRow.lifted == Tryz.prog.liftsFinal) = true := by kernel_rfl
theorem j27 : (Tryz.prog.make == some Rows.attrNoneRow.make) = true := by kernel_rfl
theorem j29 : (Rows.attrNoneRow.pinned == Rows.attrNoneRow.pinnedBy) = true := by kernel_rfl
theorem j30 : (Rows.attrNoneRow.veiled == (Tryz.f3.params.toList ++ Rows.attrNoneSpec.plain.varTypes Tryz.prog ++ Tryz.f3.resultTypes.toList).any (Tryz.prog.veiledRec ·)) = true := by kernel_rfl
theorem j31 : (Rows.attrNoneRow.veiledFits Tryz.prog Tryz.f3.params.toList (Tryz.f3.params.toList ++ Rows.attrNoneSpec.plain.varTypes Tryz.prog ++ Tryz.f3.resultTypes.toList)) = true := by kernel_rfl
theorem closed : joinedFacts Tryz.prog 3 Tryz.f3 Rows.attrNoneSpec Rows.attrNoneRow = true := by
  unfold joinedFacts
  exact and2 (and2 (and2 (and2 (and2 (and2 (and2 (and2 (and2 (and2 (and2 (and2 (and2 (and2 (and2 (and2 (and2 (and2 (and2 (and2 (and2 (and2 (and2 (and2 (and2 (and2 (and2 (and2 (and2 (and2 (and2 (j0) j1) j2) j3) j4) j5) j6) j7) j8) j9) j10) j11) j12) j13) j14) j15) j16) j17) j18) j19) j20) j21) j22) j23) j24) j25) j26) j27) (by kernel_rfl)) j29) j30) j31
end Go.Proofs.YtnaodplcionlhaaGreatDoor
