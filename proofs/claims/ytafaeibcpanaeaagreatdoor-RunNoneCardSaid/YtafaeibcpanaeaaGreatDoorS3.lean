/- RunNone's seat: the run of awake. -/
import Derived.Test.YtafaeibcpanaeaaGreatDoorS2
namespace Go.VII.RN
noncomputable section
open Go.Proofs
set_option maxRecDepth 100000
def isTrue : Option Value → Bool
  | some (.bool b) => b
  | _ => false
theorem awake_run (s : Nat → Option BI) (hs : ∀ n bi, s n = some bi → LIMIT ≤ n) : isTrue (pureRun ⟨0, s, hs⟩ (lay0 ⟨0, s, hs⟩ (exts2 ⟨0, s, hs⟩) 1000) 4 []) = true := by kernel_rfl
end
end Go.VII.RN
