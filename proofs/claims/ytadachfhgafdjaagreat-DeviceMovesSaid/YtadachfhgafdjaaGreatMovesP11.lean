/- MovesP: part 11 of the texts that the proof of moves_holds needs: an evaluator of the program on data, its soundness, the equations of the functions, the plain laws. Conditions: none. -/
import Derived.Test.YtadachfhgafdjaaGreatMovesP10
import Derived.Test.YtadachfhgafdjaaGreatRows
import Derived.JoinedOf
import Derived.KernelRfl
/- DeviceMoves: the facts of the row that are found by looking over the program. -/
set_option linter.unusedVariables false
namespace Go.Proofs.YtadachfhgafdjaaGreat
set_option maxRecDepth 100000 in
theorem moves_f1 : (Rows.deviceMovesRow.inPlace == Tryz.pinned.checked.prog.inPlace 5) = true := by kernel_rfl
set_option maxRecDepth 100000 in
theorem moves_f2 : (Rows.deviceMovesRow.unfollowed == Tryz.pinned.checked.prog.unfollowed 5) = true := by kernel_rfl
set_option maxRecDepth 100000 in
theorem moves_f3 : (Rows.deviceMovesRow.recurses == Tryz.pinned.checked.prog.recurses 5) = true := by kernel_rfl
set_option maxRecDepth 100000 in
theorem moves_f4 : (Rows.deviceMovesRow.named == Tryz.pinned.checked.prog.varsNamed 5) = true := by kernel_rfl
set_option maxRecDepth 100000 in
theorem moves_closed : joinedFacts Tryz.pinned.checked.prog 5 Tryz.f5 Rows.deviceMovesSpec Rows.deviceMovesRow = true := by
  unfold joinedFacts
  rw [moves_f1, moves_f2, moves_f3, moves_f4]
  kernel_rfl
end Go.Proofs.YtadachfhgafdjaaGreat
