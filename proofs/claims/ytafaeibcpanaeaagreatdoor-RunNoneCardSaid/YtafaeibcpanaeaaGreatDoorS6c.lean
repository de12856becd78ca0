/- RunNone's seat: run.New, the classes 8 to 11 of rooms for cells. -/
import Derived.Test.YtafaeibcpanaeaaGreatDoorS5
namespace Go.VII.RN
noncomputable section
set_option maxRecDepth 100000
theorem cls8 (s : Nat → Option BI) (hs : ∀ n bi, s n = some bi → LIMIT ≤ n) : ((List.range 14).all (fun j => chk8 (some 52) 0 53 (run8 ⟨0, s, hs⟩ (tabV 8 j))) && chk8 none 1 53 (run8 ⟨0, s, hs⟩ (tabF true false 8)) && chk8 none 1 53 (run8 ⟨0, s, hs⟩ (tabF false true 8))) = true := by kernel_rfl
theorem cls9 (s : Nat → Option BI) (hs : ∀ n bi, s n = some bi → LIMIT ≤ n) : ((List.range 14).all (fun j => chk8 (some 52) 0 53 (run8 ⟨0, s, hs⟩ (tabV 9 j))) && chk8 none 1 53 (run8 ⟨0, s, hs⟩ (tabF true false 9)) && chk8 none 1 53 (run8 ⟨0, s, hs⟩ (tabF false true 9))) = true := by kernel_rfl
theorem cls10 (s : Nat → Option BI) (hs : ∀ n bi, s n = some bi → LIMIT ≤ n) : ((List.range 14).all (fun j => chk8 (some 52) 0 53 (run8 ⟨0, s, hs⟩ (tabV 10 j))) && chk8 none 1 53 (run8 ⟨0, s, hs⟩ (tabF true false 10)) && chk8 none 1 53 (run8 ⟨0, s, hs⟩ (tabF false true 10))) = true := by kernel_rfl
theorem cls11 (s : Nat → Option BI) (hs : ∀ n bi, s n = some bi → LIMIT ≤ n) : ((List.range 14).all (fun j => chk8 (some 52) 0 53 (run8 ⟨0, s, hs⟩ (tabV 11 j))) && chk8 none 1 53 (run8 ⟨0, s, hs⟩ (tabF true false 11)) && chk8 none 1 53 (run8 ⟨0, s, hs⟩ (tabF false true 11))) = true := by kernel_rfl
end
end Go.VII.RN
