/- OpensP: part 9 of the texts that the proof of opens_holds needs: an evaluator of the program on data, its soundness, the equations of the functions, the plain laws. Conditions: none. -/
import Derived.Test.YtadachfhgafdjaaGreatOpensP8
import Derived.Test.YtadachfhgafdjaaGreatRows
import Derived.JoinedOf
import Derived.KernelRfl
/- DeviceOpens: the facts of the row that are found by looking over the program. -/
set_option linter.unusedVariables false
namespace Go.Proofs.YtadachfhgafdjaaGreat
set_option maxRecDepth 100000 in
theorem opens_f1 : (Rows.deviceOpensRow.inPlace == Tryz.pinned.checked.prog.inPlace 8) = true := by kernel_rfl
set_option maxRecDepth 100000 in
theorem opens_f2 : (Rows.deviceOpensRow.unfollowed == Tryz.pinned.checked.prog.unfollowed 8) = true := by kernel_rfl
set_option maxRecDepth 100000 in
theorem opens_f3 : (Rows.deviceOpensRow.recurses == Tryz.pinned.checked.prog.recurses 8) = true := by kernel_rfl
set_option maxRecDepth 100000 in
theorem opens_f4 : (Rows.deviceOpensRow.named == Tryz.pinned.checked.prog.varsNamed 8) = true := by kernel_rfl
set_option maxRecDepth 100000 in
theorem opens_closed : joinedFacts Tryz.pinned.checked.prog 8 Tryz.f8 Rows.deviceOpensSpec Rows.deviceOpensRow = true := by
  unfold joinedFacts
  rw [opens_f1, opens_f2, opens_f3, opens_f4]
  kernel_rfl
end Go.Proofs.YtadachfhgafdjaaGreat
