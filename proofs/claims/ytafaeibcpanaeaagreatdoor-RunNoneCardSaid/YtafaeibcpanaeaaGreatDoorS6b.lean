/- RunNone's seat: run.New, the classes 4 to 7 of rooms for cells. -/
import Derived.Test.YtafaeibcpanaeaaGreatDoorS5
namespace Go.VII.RN
noncomputable section
set_option maxRecDepth 100000
theorem cls4 (s : Nat → Option BI) (hs : ∀ n bi, s n = some bi → LIMIT ≤ n) : ((List.range 14).all (fun j => chk8 (some 52) 0 53 (run8 ⟨0, s, hs⟩ (tabV 4 j))) && chk8 none 1 53 (run8 ⟨0, s, hs⟩ (tabF true false 4)) && chk8 none 1 53 (run8 ⟨0, s, hs⟩ (tabF false true 4))) = true := by kernel_rfl
theorem cls5 (s : Nat → Option BI) (hs : ∀ n bi, s n = some bi → LIMIT ≤ n) : ((List.range 14).all (fun j => chk8 (some 52) 0 53 (run8 ⟨0, s, hs⟩ (tabV 5 j))) && chk8 none 1 53 (run8 ⟨0, s, hs⟩ (tabF true false 5)) && chk8 none 1 53 (run8 ⟨0, s, hs⟩ (tabF false true 5))) = true := by kernel_rfl
theorem cls6 (s : Nat → Option BI) (hs : ∀ n bi, s n = some bi → LIMIT ≤ n) : ((List.range 14).all (fun j => chk8 (some 52) 0 53 (run8 ⟨0, s, hs⟩ (tabV 6 j))) && chk8 none 1 53 (run8 ⟨0, s, hs⟩ (tabF true false 6)) && chk8 none 1 53 (run8 ⟨0, s, hs⟩ (tabF false true 6))) = true := by kernel_rfl
theorem cls7 (s : Nat → Option BI) (hs : ∀ n bi, s n = some bi → LIMIT ≤ n) : ((List.range 14).all (fun j => chk8 (some 52) 0 53 (run8 ⟨0, s, hs⟩ (tabV 7 j))) && chk8 none 1 53 (run8 ⟨0, s, hs⟩ (tabF true false 7)) && chk8 none 1 53 (run8 ⟨0, s, hs⟩ (tabF false true 7))) = true := by kernel_rfl
end
end Go.VII.RN
