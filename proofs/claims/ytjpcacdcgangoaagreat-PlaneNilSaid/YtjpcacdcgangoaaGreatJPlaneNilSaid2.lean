/- PlaneNilSaid: part 3 of 8 of the proof that it returns true for every input and leaves its arguments as they were; no condition. -/
import Derived.Test.YtjpcacdcgangoaaGreatJPlaneNilSaid1
set_option linter.unusedSimpArgs false
set_option linter.unusedVariables false
namespace Go.Proofs.YtjpcacdcgangoaaGreat.planeNil
set_option maxRecDepth 100000
theorem closed : joinedFacts Tryz.prog 3 Tryz.f3 Rows.planeNilSpec Rows.planeNilRow = true := Go.Ab.joined_of j1 laidOut j3 j4 j5 j6 j7 j8 j9 j10 j11 j12 j13 j14 j15 j16 j17 j18 j19 j20
theorem named : Tryz.prog.funcNamed Rows.planeNilRow.func = some 3 := by kernel_rfl
theorem instFits : Tryz.f3.isInstance Tryz.prog Rows.planeNilRow.origin Rows.planeNilRow.targs := of_decide_eq_true (by kernel_rfl)
theorem wrapFits : Tryz.f3.isWrapper Tryz.prog Rows.planeNilRow.wrapper Rows.planeNilRow.mainSum := by unfold Func.isWrapper; first | (rw [if_pos (by decide +kernel)]; kernel_rfl) | (rw [if_neg (by decide +kernel)]; exact ⟨rfl, rfl⟩)
end Go.Proofs.YtjpcacdcgangoaaGreat.planeNil
