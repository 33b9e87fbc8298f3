/- Closed facts of this seat's program, part by part. -/
import Derived.Test.YtglploknmdbigaaGreatDoorFc
import Derived.Test.YtglploknmdbigaaGreatDoorFd
import Derived.Test.YtglploknmdbigaaGreatDoorFe
import Derived.Test.YtglploknmdbigaaGreatDoorRows
namespace Go.Proofs.YtglploknmdbigaaGreatDoor
open Go Go.Ev
set_option maxRecDepth 1000000 in
theorem k0 : Rows.scriptNoneRow.wf (OpenSpec.ofChange Rows.scriptNoneSpec) = true := by kernel_rfl
set_option maxRecDepth 1000000 in
theorem k3 : Tryz.f3.params.all (Tryz.prog.readableRec ·) = true := by kernel_rfl
set_option maxRecDepth 1000000 in
theorem k4 : namedTie Tryz.prog Rows.scriptNoneRow.named Rows.scriptNoneSpec.vars = true := by kernel_rfl
set_option maxRecDepth 1000000 in
theorem k5 : (Rows.scriptNoneRow.stops == []) = true := by kernel_rfl
set_option maxRecDepth 1000000 in
theorem k6 : (Tryz.prog.stops == []) = true := by kernel_rfl
set_option maxRecDepth 1000000 in
theorem k7 : (Rows.scriptNoneRow.knobs == []) = true := by kernel_rfl
set_option maxRecDepth 1000000 in
theorem k8 : (Tryz.prog.stopKnobs == []) = true := by kernel_rfl
set_option maxRecDepth 1000000 in
theorem k13 : (Rows.scriptNoneRow.maps == (Tryz.f3.params.toList ++ Rows.scriptNoneSpec.plain.varTypes Tryz.prog).any (Tryz.prog.mapsRec ·)) = true := by kernel_rfl
set_option maxRecDepth 1000000 in
theorem k14 : (Rows.scriptNoneRow.ifaces == (Tryz.f3.params.toList ++ Rows.scriptNoneSpec.plain.varTypes Tryz.prog).any (Tryz.prog.ifacesRec ·)) = true := by kernel_rfl
set_option maxRecDepth 1000000 in
theorem k15 : (Rows.scriptNoneRow.mapsOut == Tryz.prog.mapsAmong Tryz.f3.resultTypes.toList) = true := by kernel_rfl
set_option maxRecDepth 1000000 in
theorem k16 : (Rows.scriptNoneRow.loops == (Tryz.f3.params.toList ++ Rows.scriptNoneSpec.plain.varTypes Tryz.prog).any (Tryz.prog.loopsFrom ·)) = true := by kernel_rfl
set_option maxRecDepth 1000000 in
theorem k17 : (Rows.scriptNoneRow.wideKeys == (Tryz.f3.params.toList ++ Rows.scriptNoneSpec.plain.varTypes Tryz.prog ++ Tryz.f3.resultTypes.toList).any (Tryz.prog.wideKeysFrom ·)) = true := by kernel_rfl
set_option maxRecDepth 1000000 in
theorem k18 : Rows.scriptNoneSpec.vars.all (Tryz.prog.varReadable ·) = true := by kernel_rfl
set_option maxRecDepth 1000000 in
theorem k19 : Tryz.f3.resultTypes.all (fun t => Tryz.prog.readableRec t && decide (t < Tryz.prog.types.size)) = true := by kernel_rfl
set_option maxRecDepth 1000000 in
theorem k20 : (Rows.scriptNoneRow.ifacesOut == Tryz.f3.resultTypes.toList.any (Tryz.prog.ifacesRec ·)) = true := by kernel_rfl
set_option maxRecDepth 1000000 in
theorem k21 : (Rows.scriptNoneRow.loopsOut == Tryz.f3.resultTypes.toList.any (Tryz.prog.loopsFrom ·)) = true := by kernel_rfl
set_option maxRecDepth 1000000 in
theorem k22 : (Rows.scriptNoneRow.plainKeys == Tryz.prog.plainKeys) = true := by kernel_rfl
set_option maxRecDepth 1000000 in
theorem k23 : Rows.scriptNoneRow.shortTexts.isNone = true := by kernel_rfl
set_option maxRecDepth 1000000 in
theorem k26 : (Rows.scriptNoneRow.lifted == Tryz.prog.liftsFinal) = true := by kernel_rfl
set_option maxRecDepth 1000000 in
theorem k27 : (Tryz.prog.make == some Rows.scriptNoneRow.make) = true := by kernel_rfl
set_option maxRecDepth 1000000 in
theorem k28 : (Rows.scriptNoneRow.kinds == (if Rows.scriptNoneRow.domain.isEmpty then [] else Tryz.f3.params.toList.map fun t => match Tryz.prog.underlying t with | some (.int k) => some k | _ => none)) = true := by kernel_rfl
set_option maxRecDepth 1000000 in
theorem k29 : (Rows.scriptNoneRow.pinned == Rows.scriptNoneRow.pinnedBy) = true := by kernel_rfl
set_option maxRecDepth 1000000 in
theorem k30 : (Rows.scriptNoneRow.veiled == (Tryz.f3.params.toList ++ Rows.scriptNoneSpec.plain.varTypes Tryz.prog ++ Tryz.f3.resultTypes.toList).any (Tryz.prog.veiledRec ·)) = true := by kernel_rfl
set_option maxRecDepth 1000000 in
theorem k31 : Rows.scriptNoneRow.veiledFits Tryz.prog Tryz.f3.params.toList (Tryz.f3.params.toList ++ Rows.scriptNoneSpec.plain.varTypes Tryz.prog ++ Tryz.f3.resultTypes.toList) = true := by kernel_rfl
set_option maxRecDepth 1000000 in
theorem joined : joinedFacts Tryz.prog 3 Tryz.f3 Rows.scriptNoneSpec Rows.scriptNoneRow = true := by
  unfold joinedFacts
  exact (and_mk (and_mk (and_mk (and_mk (and_mk (and_mk (and_mk (and_mk (and_mk (and_mk (and_mk (and_mk (and_mk (and_mk (and_mk (and_mk (and_mk (and_mk (and_mk (and_mk (and_mk (and_mk (and_mk (and_mk (and_mk (and_mk (and_mk (and_mk (and_mk (and_mk (and_mk k0 (laidOut)) (rowed)) k3) k4) k5) k6) k7) k8) (eq_beq inPlace.symm)) (eq_beq (show Rows.scriptNoneRow.unfollowed = Tryz.prog.unfollowed 3 from unfollowed.symm))) (eq_beq (show Rows.scriptNoneRow.recurses = Tryz.prog.recurses 3 from recurses.symm))) (eq_beq varsNamed.symm)) k13) k14) k15) k16) k17) k18) k19) k20) k21) k22) k23) (heard)) (enter)) k26) k27) k28) k29) k30) k31)
end Go.Proofs.YtglploknmdbigaaGreatDoor
