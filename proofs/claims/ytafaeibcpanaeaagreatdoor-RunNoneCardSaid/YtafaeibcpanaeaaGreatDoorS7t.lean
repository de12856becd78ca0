/- RunNone's seat: how RunNone ends, in each case. -/
import Derived.Test.YtafaeibcpanaeaaGreatDoorS7
namespace Go.VII.RN
noncomputable section
open Go.Proofs
set_option maxRecDepth 100000
theorem tail_ok (s : Nat → Option BI) (hs : ∀ n bi, s n = some bi → LIMIT ≤ n) : chkT (tl ⟨0, s, hs⟩ (rowsLen false ++ rowsT true true true true true true) (some 52) 0 53) = true := by kernel_rfl
theorem tail_bad50 (s : Nat → Option BI) (hs : ∀ n bi, s n = some bi → LIMIT ≤ n) : (all2 fun b1 => all2 fun b2 => all2 fun b3 => all2 fun b4 => all2 fun b5 => all2 fun b6 =>
    (b1 && b2 && b3 && b4 && b5 && b6) || chkT (tl ⟨0, s, hs⟩ (rowsLen false ++ rowsT b1 b2 b3 b4 b5 b6) none 1 50)) = true := by kernel_rfl
theorem tail_bad53 (s : Nat → Option BI) (hs : ∀ n bi, s n = some bi → LIMIT ≤ n) : (all2 fun b1 => all2 fun b2 => all2 fun b3 => all2 fun b4 => all2 fun b5 => all2 fun b6 =>
    (b1 && b2 && b3 && b4 && b5 && b6) || chkT (tl ⟨0, s, hs⟩ (rowsLen false ++ rowsT b1 b2 b3 b4 b5 b6) none 1 53)) = true := by kernel_rfl
noncomputable def chkC : Option CRes → Bool
  | some (.ret (.bool b) h) => b && Nat.ble h.next LIMIT
  | _ => false
theorem long_ok (s : Nat → Option BI) (hs : ∀ n bi, s n = some bi → LIMIT ≤ n) : chkC ((semR ⟨0, s, hs⟩ (rowsLen true)).call 3 args3 (AH.void ⟨0, s, hs⟩)) = true := by kernel_rfl
end
end Go.VII.RN
