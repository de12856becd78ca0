/- RunNone: of no machine nothing comes; of a config that may not be there is none. Proved for every input, as the tied card. -/
import Derived.Test.YtafaeibcpanaeaaGreatDoorS11
import Derived.Test.YtafaeibcpanaeaaGreatDoorS12a
import Derived.Test.YtafaeibcpanaeaaGreatDoorS12b
import Derived.Test.YtafaeibcpanaeaaGreatDoorS12c
import Derived.Test.YtafaeibcpanaeaaGreatDoorS12d
import Derived.Test.YtafaeibcpanaeaaGreatDoorS12e
namespace Go.Proofs.YtafaeibcpanaeaaGreatDoor
open Go Go.ChangeShapes Go.WideShapes Go.ChangeAt Go.RowKit
set_option maxRecDepth 100000
theorem and_tt {a b : Bool} (h : a = true) (k : b = true) : (a && b) = true := by rw [h, k]; rfl
theorem closed : joinedFacts Tryz.pinned.checked.prog 3 Tryz.f3 Rows.runNoneSpec Rows.runNoneRow = true :=
  and_tt (and_tt (and_tt (and_tt (and_tt (and_tt (and_tt (and_tt (and_tt (and_tt (and_tt (and_tt (and_tt (and_tt (and_tt (and_tt (and_tt (and_tt (and_tt (and_tt (and_tt (and_tt (and_tt (and_tt (and_tt (and_tt (and_tt (and_tt (and_tt (and_tt (and_tt k1 k2) k3) k4) k5) k6) k7) k8) k9) k10) k11) k12) k13) k14) k15) k16) k17) k18) k19) k20) k21) k22) k23) k24) k25) k26) k27) k28) k29) k30) k31) k32
theorem runNone_row : Rows.RunNoneSaid :=
  OpenClaim.holds_of_wide 3 Tryz.f3 rfl rfl rfl rfl rfl rfl rfl ⟨rfl, rfl, rfl, rfl, rfl⟩ rfl rfl rfl rfl rfl g6 VII.RN.func3 closed g7 g8
    (fun os started H enc _ => lifted os started H enc)
theorem runNone_card : Rows.RunNoneCardSaid :=
  Claim7.holds_tied_plain_at .later [] [.data, .data, .pinned] true (true, "e668196ee3fd8aeda14db6d4eec42a57c1f1546a508be94ff19ad7b31c2b1365") true runNone_row (fun _ h => by cases h) g1 (fun _ h => by cases h) runNone_row_tie rfl ⟨rfl, rfl⟩ g2 rfl
    (fun f fn hf hfn => by
      obtain rfl : f = 3 := Option.some.inj (g6.symm.trans hf) |>.symm
      obtain rfl : fn = Tryz.f3 := (Option.some.inj (VII.RN.func3.symm.trans hfn)).symm
      exact ⟨g3, fun j t ht => by
        have hm : t ∈ [23, 3, 24] := by rw [← params3]; exact Array.mem_toList_iff.2 (Array.mem_of_getElem? ht)
        simpa using List.all_eq_true.1 g4 t hm⟩)
    g5
#print axioms runNone_card
end Go.Proofs.YtafaeibcpanaeaaGreatDoor
