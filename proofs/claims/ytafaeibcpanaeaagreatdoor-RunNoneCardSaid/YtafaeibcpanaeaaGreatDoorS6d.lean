/- RunNone's seat: run.New, the classes 12 to 15 of rooms for cells. -/
import Derived.Test.YtafaeibcpanaeaaGreatDoorS5
namespace Go.VII.RN
noncomputable section
set_option maxRecDepth 100000
theorem cls12 (s : Nat → Option BI) (hs : ∀ n bi, s n = some bi → LIMIT ≤ n) : ((List.range 14).all (fun j => chk8 (some 52) 0 53 (run8 ⟨0, s, hs⟩ (tabV 12 j))) && chk8 none 1 53 (run8 ⟨0, s, hs⟩ (tabF true false 12)) && chk8 none 1 53 (run8 ⟨0, s, hs⟩ (tabF false true 12))) = true := by kernel_rfl
theorem cls13 (s : Nat → Option BI) (hs : ∀ n bi, s n = some bi → LIMIT ≤ n) : ((List.range 14).all (fun j => chk8 (some 52) 0 53 (run8 ⟨0, s, hs⟩ (tabV 13 j))) && chk8 none 1 53 (run8 ⟨0, s, hs⟩ (tabF true false 13)) && chk8 none 1 53 (run8 ⟨0, s, hs⟩ (tabF false true 13))) = true := by kernel_rfl
theorem cls14 (s : Nat → Option BI) (hs : ∀ n bi, s n = some bi → LIMIT ≤ n) : ((List.range 14).all (fun j => chk8 (some 52) 0 53 (run8 ⟨0, s, hs⟩ (tabV 14 j))) && chk8 none 1 53 (run8 ⟨0, s, hs⟩ (tabF true false 14)) && chk8 none 1 53 (run8 ⟨0, s, hs⟩ (tabF false true 14))) = true := by kernel_rfl
theorem cls15 (s : Nat → Option BI) (hs : ∀ n bi, s n = some bi → LIMIT ≤ n) : ((List.range 14).all (fun j => chk8 (some 52) 0 53 (run8 ⟨0, s, hs⟩ (tabV 15 j))) && chk8 none 1 53 (run8 ⟨0, s, hs⟩ (tabF true false 15)) && chk8 none 1 53 (run8 ⟨0, s, hs⟩ (tabF false true 15))) = true := by kernel_rfl
end
end Go.VII.RN
