/- The closed facts of RunNone's row and card. -/
import Derived.Test.YtafaeibcpanaeaaGreatDoorRows
import Derived.Test.YtafaeibcpanaeaaGreatDoorCards
import Derived.JoinedOf
import Derived.SevenTiedAt
import Derived.KernelRfl
namespace Go.Proofs.YtafaeibcpanaeaaGreatDoor
open Go
set_option maxRecDepth 100000
theorem k1 : (Rows.runNoneRow.wf (OpenSpec.ofChange Rows.runNoneSpec)) = true := by kernel_rfl
theorem k2 : (laidOutB Tryz.pinned.checked.prog) = true := by kernel_rfl
theorem k3 : (mapsRowed Tryz.pinned.checked.prog) = true := by kernel_rfl
theorem k4 : (Tryz.f3.params.all (Tryz.pinned.checked.prog.readableRec ·)) = true := by kernel_rfl
theorem k5 : (namedTie Tryz.pinned.checked.prog Rows.runNoneRow.named Rows.runNoneSpec.vars) = true := by kernel_rfl
theorem k6 : ((Rows.runNoneRow.stops == [])) = true := by kernel_rfl
theorem k7 : ((Tryz.pinned.checked.prog.stops == [])) = true := by kernel_rfl
theorem k8 : ((Rows.runNoneRow.knobs == [])) = true := by kernel_rfl
end Go.Proofs.YtafaeibcpanaeaaGreatDoor
