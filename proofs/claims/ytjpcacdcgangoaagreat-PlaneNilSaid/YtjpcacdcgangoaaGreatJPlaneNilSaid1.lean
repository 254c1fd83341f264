/- PlaneNilSaid: part 2 of 8 of the proof that it returns true for every input and leaves its arguments as they were; no condition. -/
import Derived.Test.YtjpcacdcgangoaaGreatJPlaneNilSaid0
import Derived.Test.YtjpcacdcgangoaaGreatRows
import Derived.ProofKit
set_option linter.unusedSimpArgs false
set_option linter.unusedVariables false
namespace Go.Proofs.YtjpcacdcgangoaaGreat.planeNil
theorem own : ownKnob Tryz.prog.godebug = none := by kernel_rfl
theorem laidOut : laidOutB Tryz.prog = true := by kernel_rfl
theorem j1 : Rows.planeNilRow.wf (OpenSpec.ofChange Rows.planeNilSpec) = true := by kernel_rfl
theorem j3 : mapsRowed Tryz.prog = true := by kernel_rfl
theorem j4 : (Tryz.f3.params.all (Tryz.prog.readableRec ·)) = true := by kernel_rfl
theorem j5 : namedTie Tryz.prog Rows.planeNilRow.named Rows.planeNilSpec.vars = true := by kernel_rfl
theorem j6 : ((Rows.planeNilRow.stops == []) && (Tryz.prog.stops == []) && (Rows.planeNilRow.knobs == []) && (Tryz.prog.stopKnobs == [])) = true := by kernel_rfl
theorem j7 : (Rows.planeNilRow.inPlace == Tryz.prog.inPlace 3) = true := by kernel_rfl
theorem j8 : (Rows.planeNilRow.unfollowed == Tryz.prog.unfollowed 3) = true := by kernel_rfl
theorem j9 : (Rows.planeNilRow.recurses == Tryz.prog.recurses 3) = true := by kernel_rfl
theorem j10 : (Rows.planeNilRow.named == Tryz.prog.varsNamed 3) = true := by kernel_rfl
theorem j11 : ((Rows.planeNilRow.maps == (Tryz.f3.params.toList ++ Rows.planeNilSpec.plain.varTypes Tryz.prog).any (Tryz.prog.mapsRec ·)) && (Rows.planeNilRow.ifaces == (Tryz.f3.params.toList ++ Rows.planeNilSpec.plain.varTypes Tryz.prog).any (Tryz.prog.ifacesRec ·)) && (Rows.planeNilRow.mapsOut == Tryz.prog.mapsAmong Tryz.f3.resultTypes.toList) && (Rows.planeNilRow.loops == (Tryz.f3.params.toList ++ Rows.planeNilSpec.plain.varTypes Tryz.prog).any (Tryz.prog.loopsFrom ·)) && (Rows.planeNilRow.wideKeys == (Tryz.f3.params.toList ++ Rows.planeNilSpec.plain.varTypes Tryz.prog ++ Tryz.f3.resultTypes.toList).any (Tryz.prog.wideKeysFrom ·))) = true := by kernel_rfl
theorem j12 : (Rows.planeNilSpec.vars.all (Tryz.prog.varReadable ·) && Tryz.f3.resultTypes.all (fun t => Tryz.prog.readableRec t && decide (t < Tryz.prog.types.size)) && (Rows.planeNilRow.ifacesOut == Tryz.f3.resultTypes.toList.any (Tryz.prog.ifacesRec ·)) && (Rows.planeNilRow.loopsOut == Tryz.f3.resultTypes.toList.any (Tryz.prog.loopsFrom ·))) = true := by kernel_rfl
theorem j13 : (Rows.planeNilRow.plainKeys == Tryz.prog.plainKeys) = true := by kernel_rfl
theorem j14 : Rows.planeNilRow.shortTexts.isNone = true := by kernel_rfl
theorem j15 : Tryz.prog.stopsHeard = true := by kernel_rfl
theorem j16 : Tryz.prog.mayEnter = true := by kernel_rfl
theorem j17 : (Rows.planeNilRow.lifted == Tryz.prog.liftsFinal) = true := by kernel_rfl
theorem j18 : (Tryz.prog.make == some Rows.planeNilRow.make) = true := by kernel_rfl
theorem j19 : ((Rows.planeNilRow.kinds == (if Rows.planeNilRow.domain.isEmpty then [] else Tryz.f3.params.toList.map fun t => match Tryz.prog.underlying t with | some (.int k) => some k | _ => none)) && (Rows.planeNilRow.pinned == Rows.planeNilRow.pinnedBy)) = true := by kernel_rfl
theorem j20 : ((Rows.planeNilRow.veiled == (Tryz.f3.params.toList ++ Rows.planeNilSpec.plain.varTypes Tryz.prog ++ Tryz.f3.resultTypes.toList).any (Tryz.prog.veiledRec ·)) && Rows.planeNilRow.veiledFits Tryz.prog Tryz.f3.params.toList (Tryz.f3.params.toList ++ Rows.planeNilSpec.plain.varTypes Tryz.prog ++ Tryz.f3.resultTypes.toList)) = true := by kernel_rfl
end Go.Proofs.YtjpcacdcgangoaaGreat.planeNil
