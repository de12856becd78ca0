/- RunNone's seat: run.New, the classes 0 to 3 of rooms for cells. -/
import Derived.Test.YtafaeibcpanaeaaGreatDoorS5
namespace Go.VII.RN
noncomputable section
set_option maxRecDepth 100000
theorem cls0 (s : Nat → Option BI) (hs : ∀ n bi, s n = some bi → LIMIT ≤ n) : ((List.range 14).all (fun j => chk8 (some 52) 0 53 (run8 ⟨0, s, hs⟩ (tabV 0 j))) && chk8 none 1 53 (run8 ⟨0, s, hs⟩ (tabF true false 0)) && chk8 none 1 53 (run8 ⟨0, s, hs⟩ (tabF false true 0))) = true := by kernel_rfl
theorem cls1 (s : Nat → Option BI) (hs : ∀ n bi, s n = some bi → LIMIT ≤ n) : ((List.range 14).all (fun j => chk8 (some 52) 0 53 (run8 ⟨0, s, hs⟩ (tabV 1 j))) && chk8 none 1 53 (run8 ⟨0, s, hs⟩ (tabF true false 1)) && chk8 none 1 53 (run8 ⟨0, s, hs⟩ (tabF false true 1))) = true := by kernel_rfl
theorem cls2 (s : Nat → Option BI) (hs : ∀ n bi, s n = some bi → LIMIT ≤ n) : ((List.range 14).all (fun j => chk8 (some 52) 0 53 (run8 ⟨0, s, hs⟩ (tabV 2 j))) && chk8 none 1 53 (run8 ⟨0, s, hs⟩ (tabF true false 2)) && chk8 none 1 53 (run8 ⟨0, s, hs⟩ (tabF false true 2))) = true := by kernel_rfl
theorem cls3 (s : Nat → Option BI) (hs : ∀ n bi, s n = some bi → LIMIT ≤ n) : ((List.range 14).all (fun j => chk8 (some 52) 0 53 (run8 ⟨0, s, hs⟩ (tabV 3 j))) && chk8 none 1 53 (run8 ⟨0, s, hs⟩ (tabF true false 3)) && chk8 none 1 53 (run8 ⟨0, s, hs⟩ (tabF false true 3))) = true := by kernel_rfl
end
end Go.VII.RN
