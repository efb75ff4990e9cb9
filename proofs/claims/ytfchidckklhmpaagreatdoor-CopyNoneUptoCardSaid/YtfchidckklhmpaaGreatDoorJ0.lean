/- The closed facts of the row, together. -/
import Derived.Test.YtfchidckklhmpaaGreatDoorJ1
import Derived.Test.YtfchidckklhmpaaGreatDoorJA
import Derived.Test.YtfchidckklhmpaaGreatDoorJ9
import Derived.Test.YtfchidckklhmpaaGreatDoorJ10
import Derived.Test.YtfchidckklhmpaaGreatDoorJ11
import Derived.Test.YtfchidckklhmpaaGreatDoorJ12
import Derived.Stop.Joined
namespace Go.Proofs.YtfchidckklhmpaaGreatDoor
open Go
theorem and2 {a b : Bool} (ha : a = true) (hb : b = true) : (a && b) = true := by rw [ha, hb]; rfl
theorem j0 : (Rows.copyNoneUptoRow.wf (OpenSpec.ofChange (Rows.OpenSpec.upto Rows.copyNoneSpec).bare)) = true := by kernel_rfl
theorem j3 : (Tryz.f3.params.all (Tryz.prog.readableRec ·)) = true := by kernel_rfl
theorem j4 : (namedTie Tryz.prog Rows.copyNoneUptoRow.named (Rows.OpenSpec.upto Rows.copyNoneSpec).bare.vars) = true := by kernel_rfl
theorem j5 : (Rows.copyNoneUptoRow.stops == []) = true := by kernel_rfl
theorem j6 : (Tryz.prog.stops == []) = true := by kernel_rfl
theorem j7 : (Rows.copyNoneUptoRow.knobs == []) = true := by kernel_rfl
theorem j8 : (Tryz.prog.stopKnobs == []) = true := by kernel_rfl
theorem j13 : (Rows.copyNoneUptoRow.maps == (Tryz.f3.params.toList ++ (Rows.OpenSpec.upto Rows.copyNoneSpec).bare.plain.varTypes Tryz.prog).any (Tryz.prog.mapsRec ·)) = true := by kernel_rfl
theorem j14 : (Rows.copyNoneUptoRow.ifaces == (Tryz.f3.params.toList ++ (Rows.OpenSpec.upto Rows.copyNoneSpec).bare.plain.varTypes Tryz.prog).any (Tryz.prog.ifacesRec ·)) = true := by kernel_rfl
theorem j15 : (Rows.copyNoneUptoRow.mapsOut == Tryz.prog.mapsAmong Tryz.f3.resultTypes.toList) = true := by kernel_rfl
theorem j16 : (Rows.copyNoneUptoRow.loops == (Tryz.f3.params.toList ++ (Rows.OpenSpec.upto Rows.copyNoneSpec).bare.plain.varTypes Tryz.prog).any (Tryz.prog.loopsFrom ·)) = true := by kernel_rfl
theorem j17 : (Rows.copyNoneUptoRow.wideKeys == (Tryz.f3.params.toList ++ (Rows.OpenSpec.upto Rows.copyNoneSpec).bare.plain.varTypes Tryz.prog ++ Tryz.f3.resultTypes.toList).any (Tryz.prog.wideKeysFrom ·)) = true := by kernel_rfl
theorem j18 : ((Rows.OpenSpec.upto Rows.copyNoneSpec).bare.vars.all (Tryz.prog.varReadable ·)) = true := by kernel_rfl
theorem j19 : (Tryz.f3.resultTypes.all (fun t => Tryz.prog.readableRec t && decide (t < Tryz.prog.types.size))) = true := by kernel_rfl
theorem j20 : (Rows.copyNoneUptoRow.ifacesOut == Tryz.f3.resultTypes.toList.any (Tryz.prog.ifacesRec ·)) = true := by kernel_rfl
theorem j21 : (Rows.copyNoneUptoRow.loopsOut == Tryz.f3.resultTypes.toList.any (Tryz.prog.loopsFrom ·)) = true := by kernel_rfl
theorem j23 : (Rows.copyNoneUptoRow.shortTexts.isNone) = true := by kernel_rfl
theorem j26 : (Rows.copyNoneUptoRow.lifted == Tryz.prog.liftsFinal) = true := by kernel_rfl
theorem j27 : (Tryz.prog.make == some Rows.copyNoneUptoRow.make) = true := by kernel_rfl
theorem j29 : (Rows.copyNoneUptoRow.pinned == Rows.copyNoneUptoRow.pinnedBy) = true := by kernel_rfl
theorem j30 : (Rows.copyNoneUptoRow.veiled == (Tryz.f3.params.toList ++ (Rows.OpenSpec.upto Rows.copyNoneSpec).bare.plain.varTypes Tryz.prog ++ Tryz.f3.resultTypes.toList).any (Tryz.prog.veiledRec ·)) = true := by kernel_rfl
theorem j31 : (Rows.copyNoneUptoRow.veiledFits Tryz.prog Tryz.f3.params.toList (Tryz.f3.params.toList ++ (Rows.OpenSpec.upto Rows.copyNoneSpec).bare.plain.varTypes Tryz.prog ++ Tryz.f3.resultTypes.toList)) = true := by kernel_rfl
theorem closed : joinedFacts Tryz.prog 3 Tryz.f3 (Rows.OpenSpec.upto Rows.copyNoneSpec).bare Rows.copyNoneUptoRow = true := by
  unfold joinedFacts
  exact and2 (and2 (and2 (and2 (and2 (and2 (and2 (and2 (and2 (and2 (and2 (and2 (and2 (and2 (and2 (and2 (and2 (and2 (and2 (and2 (and2 (and2 (and2 (and2 (and2 (and2 (and2 (and2 (and2 (and2 (and2 (j0) j1) j2) j3) j4) j5) j6) j7) j8) j9) j10) j11) j12) j13) j14) j15) j16) j17) j18) j19) j20) j21) j22) j23) j24) j25) j26) j27) (by kernel_rfl)) j29) j30) j31
end Go.Proofs.YtfchidckklhmpaaGreatDoor
