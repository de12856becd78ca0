/- The closed facts of RunNone's row and card. -/
import Derived.Test.YtafaeibcpanaeaaGreatDoorRows
import Derived.Test.YtafaeibcpanaeaaGreatDoorCards
import Derived.JoinedOf
import Derived.SevenTiedAt
import Derived.KernelRfl
namespace Go.Proofs.YtafaeibcpanaeaaGreatDoor
open Go
set_option maxRecDepth 100000
theorem k32 : (Rows.runNoneRow.veiledFits Tryz.pinned.checked.prog Tryz.f3.params.toList (Tryz.f3.params.toList ++ Rows.runNoneSpec.plain.varTypes Tryz.pinned.checked.prog ++ Tryz.f3.resultTypes.toList)) = true := by kernel_rfl
theorem g1 : Rows.runNoneRow.wfByText (OpenSpec.ofChange Rows.runNoneSpec) = true := by kernel_rfl
theorem g2 : Tryz.pinned.checked.prog.mainIs = some (true, "e668196ee3fd8aeda14db6d4eec42a57c1f1546a508be94ff19ad7b31c2b1365".toList) := by kernel_rfl
theorem g3 : true = Tryz.pinned.checked.prog.looks [] := by kernel_rfl
theorem g4 : ([23, 3, 24].all fun u => !Tryz.pinned.checked.prog.wantsStandIn u) = true := by kernel_rfl
theorem g5 : false = Rows.runNoneRow.goesBy Tryz.pinned.checked.prog := by kernel_rfl
theorem g6 : Tryz.pinned.checked.prog.funcNamed Rows.runNoneRow.func = some 3 := by kernel_rfl
theorem g7 : Tryz.f3.isInstance Tryz.pinned.checked.prog Rows.runNoneRow.origin Rows.runNoneRow.targs := of_decide_eq_true (by kernel_rfl)
theorem g8 : Tryz.f3.isWrapper Tryz.pinned.checked.prog Rows.runNoneRow.wrapper Rows.runNoneRow.mainSum := by unfold Func.isWrapper; first | (rw [if_pos (by decide +kernel)]; kernel_rfl) | (rw [if_neg (by decide +kernel)]; exact ⟨rfl, rfl⟩)
end Go.Proofs.YtafaeibcpanaeaaGreatDoor
