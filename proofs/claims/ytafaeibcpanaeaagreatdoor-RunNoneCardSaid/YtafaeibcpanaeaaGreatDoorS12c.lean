/- The closed facts of RunNone's row and card. -/
import Derived.Test.YtafaeibcpanaeaaGreatDoorRows
import Derived.Test.YtafaeibcpanaeaaGreatDoorCards
import Derived.JoinedOf
import Derived.SevenTiedAt
import Derived.KernelRfl
namespace Go.Proofs.YtafaeibcpanaeaaGreatDoor
open Go
set_option maxRecDepth 100000
theorem k11 : ((Rows.runNoneRow.unfollowed == Tryz.pinned.checked.prog.unfollowed 3)) = true := by kernel_rfl
theorem k12 : ((Rows.runNoneRow.recurses == Tryz.pinned.checked.prog.recurses 3)) = true := by kernel_rfl
theorem k13 : ((Rows.runNoneRow.named == Tryz.pinned.checked.prog.varsNamed 3)) = true := by kernel_rfl
end Go.Proofs.YtafaeibcpanaeaaGreatDoor
