/- RunNone's seat: the walk: whatever the config and the arguments, RunNone returns true and turns nothing that lay there. -/
import Derived.Test.YtafaeibcpanaeaaGreatDoorS9
namespace Go.VII.RN
noncomputable section
open Go.Proofs Go.RowKit
set_option maxRecDepth 100000
theorem cls_at (s : Nat → Option BI) (hs : ∀ n bi, s n = some bi → LIMIT ≤ n) (k : Nat) (hk : k ≤ 15) :
    ((List.range 14).all (fun j => chk8 (some 52) 0 53 (run8 ⟨0, s, hs⟩ (tabV k j))) && chk8 none 1 53 (run8 ⟨0, s, hs⟩ (tabF true false k)) && chk8 none 1 53 (run8 ⟨0, s, hs⟩ (tabF false true k))) = true := by
  match k, hk with
  | 0, _ => exact cls0 s hs
  | 1, _ => exact cls1 s hs
  | 2, _ => exact cls2 s hs
  | 3, _ => exact cls3 s hs
  | 4, _ => exact cls4 s hs
  | 5, _ => exact cls5 s hs
  | 6, _ => exact cls6 s hs
  | 7, _ => exact cls7 s hs
  | 8, _ => exact cls8 s hs
  | 9, _ => exact cls9 s hs
  | 10, _ => exact cls10 s hs
  | 11, _ => exact cls11 s hs
  | 12, _ => exact cls12 s hs
  | 13, _ => exact cls13 s hs
  | 14, _ => exact cls14 s hs
  | 15, _ => exact cls15 s hs
  | n + 16, h => omega
theorem all2_at {f : Bool → Bool} (h : all2 f = true) (b : Bool) : f b = true := by
  simp only [all2, Bool.and_eq_true] at h
  cases b
  · exact h.2
  · exact h.1
theorem chkC_ok {r : Option CRes} (h : chkC r = true) : ∃ hZ, r = some (.ret (.bool true) hZ) ∧ hZ.next ≤ LIMIT := by
  unfold chkC at h
  split at h
  · rename_i b hZ
    simp only [Bool.and_eq_true] at h
    obtain ⟨rfl, h2⟩ := h
    exact ⟨hZ, rfl, Nat.le_of_ble_eq_true h2⟩
  · cases h
variable {C F U K : Int} {A : BI} {W : World}
theorem blk_ok (h0 : 0 < W.heap.size) (hA : A.blk < W.heap.size) : ∀ n bi, (gs C F U K A).s n = some bi → bi.blk < W.heap.size := fun n bi e => by
  have e' : symsOf C F U K A n = some bi := e
  rcases (symsOf_cases e').2 with ⟨z, rfl⟩ | rfl
  · exact h0
  · exact hA
theorem sym_at {n : Nat} {z : Int} (hp : Nat.beq (n % 2) 0 = true) (hn : symsOf C F U K A n = some (biOf z)) : VR (Rho.syms (gs C F U K A)) (sy n) (.int .i64 z) := by
  have h := VR.sym (ρ := Rho.syms (gs C F U K A)) (n := n) (bi := biOf z) hp hn
  have e : ((biOf z).base : Int) - ((biOf z).rsize : Int) = z := numOf_biOf z
  rw [e] at h
  exact h
theorem args_ok {v : Value} (hv : VR (Rho.syms (gs C F U K A)) (sy cA) v) : VRL (Rho.syms (gs C F U K A)) args3 (#[.agg #[.int .i64 C, .int .i64 F, .int .i64 U], .int .i64 K, v] : Array Value).toList :=
  .cons (.agg (.cons (sym_at rfl rfl) (.cons (sym_at rfl rfl) (.cons (sym_at rfl rfl) .nil)))) (.cons (sym_at rfl rfl) (.cons hv .nil))
theorem fin {v : Value} (h0 : 0 < W.heap.size) (hA : A.blk < W.heap.size) (hv : VR (Rho.syms (gs C F U K A)) (sy cA) v) (hlen : decide ((lenOf A : Int) > 30) = false)
    {p : Option Nat} {e next : Nat} (hp : fput frJ o10.dst (vOf p e) = some (frK p e)) (ok8 : Ok8 (gs C F U K A) p e next)
    (ht : chkT (tl (gs C F U K A) (rowsLen false ++ rowsT (decide (C ≥ 1)) (decide (C ≤ 65536)) (decide (F ≥ 1)) (decide (F ≤ 10000)) (decide (U ≥ 0)) (decide (U ≤ 10000000))) p e next) = true) :
    Calls Tryz.prog 3 #[.agg #[.int .i64 C, .int .i64 F, .int .i64 U], .int .i64 K, v] W fun en W' => en = .returned (.bool true) ∧ Below W.heap.size W W' := by
  obtain ⟨hZ, hrun, hlim⟩ := run3 (symsOf C F U K A) (symsOf_lim C F U K A) _ hp ht
  have hT : ∀ t ∈ rowsLen false ++ rowsT (decide (C ≥ 1)) (decide (C ≤ 65536)) (decide (F ≥ 1)) (decide (F ≤ 10000)) (decide (U ≥ 0)) (decide (U ≤ 10000000)), RowOk (gs C F U K A) t := app_ok (rowsLen_ok hlen) (rowsT_ok rfl rfl rfl rfl rfl rfl)
  obtain ⟨ok, hx⟩ := okay_of hT (entR (gs C F U K A) rfl) pk.size pk.names
  have hs := semL_sound pk hT (entR (gs C F U K A) rfl) 300
  have hc := acallBody_sound (s := sm8 (gs C F U K A) _ p e next) ok (drL_sound pk hT (entR (gs C F U K A) rfl)) hx (call8_sound rfl hT ok8) hs.2.1 hs.2.2
  exact calls_of_run rfl (blk_ok h0 hA) hc func3 (by rw [body3_eq]; rfl) (args_ok hv) hrun rfl hlim
theorem walk {v : Value} (h0 : 0 < W.heap.size) (hA : A.blk < W.heap.size) (hv : VR (Rho.syms (gs C F U K A)) (sy cA) v) :
    Calls Tryz.prog 3 #[.agg #[.int .i64 C, .int .i64 F, .int .i64 U], .int .i64 K, v] W fun en W' => en = .returned (.bool true) ∧ Below W.heap.size W W' := by
  by_cases hl : (lenOf A : Int) > 30
  · obtain ⟨hZ, hrun, hlim⟩ := chkC_ok (long_ok (symsOf C F U K A) (symsOf_lim C F U K A))
    have hT : ∀ t ∈ rowsLen true, RowOk (gs C F U K A) t := rowsLen_ok (by simpa using hl)
    exact calls_of_run rfl (blk_ok h0 hA) (semL_sound pk hT (entR (gs C F U K A) rfl) 300).1 func3 (by rw [body3_eq]; rfl) (args_ok hv) hrun rfl hlim
  · have hlen : decide ((lenOf A : Int) > 30) = false := by simpa using hl
    have bad : ∀ next, (next = 50 ∨ next = 53) → Ok8 (gs C F U K A) none 1 next → (decide (C ≥ 1) && decide (C ≤ 65536) && decide (F ≥ 1) && decide (F ≤ 10000) && decide (U ≥ 0) && decide (U ≤ 10000000)) = false →
        Calls Tryz.prog 3 #[.agg #[.int .i64 C, .int .i64 F, .int .i64 U], .int .i64 K, v] W fun en W' => en = .returned (.bool true) ∧ Below W.heap.size W W' := by
      intro next hn ok8 hb
      refine fin h0 hA hv hlen run_p10.2 ok8 ?_
      rcases hn with rfl | rfl
      · have := all2_at (all2_at (all2_at (all2_at (all2_at (all2_at (tail_bad50 (symsOf C F U K A) (symsOf_lim C F U K A)) (decide (C ≥ 1))) (decide (C ≤ 65536))) (decide (F ≥ 1))) (decide (F ≤ 10000))) (decide (U ≥ 0))) (decide (U ≤ 10000000))
        rw [hb, Bool.false_or] at this
        exact this
      · have := all2_at (all2_at (all2_at (all2_at (all2_at (all2_at (tail_bad53 (symsOf C F U K A) (symsOf_lim C F U K A)) (decide (C ≥ 1))) (decide (C ≤ 65536))) (decide (F ≥ 1))) (decide (F ≤ 10000))) (decide (U ≥ 0))) (decide (U ≤ 10000000))
        rw [hb, Bool.false_or] at this
        exact this
    have uc := uc_facts (symsOf C F U K A) (symsOf_lim C F U K A)
    simp only [Bool.and_eq_true] at uc
    obtain ⟨⟨u1, u2⟩, c1, c2⟩ := uc
    by_cases hU1 : U < 0
    · refine bad 50 (.inl rfl) (ok8_of rfl (rowsU_ok (by simpa using hU1) (by simp; omega)) u1) ?_
      have : decide (U ≥ 0) = false := by simp; omega
      rw [this]; simp
    by_cases hU2 : U > 10000000
    · refine bad 50 (.inl rfl) (ok8_of rfl (rowsU_ok (by simpa using hU1) (by simpa using hU2)) u2) ?_
      have : decide (U ≤ 10000000) = false := by simp; omega
      rw [this]; simp
    have tU : ∀ t ∈ rowsU false false, RowOk (gs C F U K A) t := rowsU_ok (by simpa using hU1) (by simpa using hU2)
    by_cases hC1 : C < 1
    · refine bad 50 (.inl rfl) (ok8_of rfl (app_ok tU (rowsC_ok (by simpa using hC1) (by simp; omega))) c1) ?_
      have : decide (C ≥ 1) = false := by simp; omega
      rw [this]; simp
    by_cases hC2 : C > 65536
    · refine bad 50 (.inl rfl) (ok8_of rfl (app_ok tU (rowsC_ok (by simpa using hC1) (by simpa using hC2))) c2) ?_
      have : decide (C ≤ 65536) = false := by simp; omega
      rw [this]; simp
    have tC : ∀ t ∈ rowsC false false, RowOk (gs C F U K A) t := rowsC_ok (by simpa using hC1) (by simpa using hC2)
    have hM : iwrap .i64 (8 * C) = 8 * C := iwrap_small (by omega) (by omega)
    have tM : ∀ t ∈ rowsN cC cM 8, RowOk (gs C F U K A) t := rowsN_ok concC concM rfl (by rw [hM]; omega) (by rw [hM]; omega)
    obtain ⟨k, hk1, hk2, hk3⟩ := class_ex (8 * C) 15 (by simp only [Int.ofNat_eq_natCast]; omega)
    have tK : ∀ t ∈ rowsCls cM k, RowOk (gs C F U K A) t := rowsCls_ok concM (by rw [hM]; exact hk2) (by rw [hM]; exact hk3)
    have ck := cls_at (symsOf C F U K A) (symsOf_lim C F U K A) k hk1
    simp only [Bool.and_eq_true] at ck
    obtain ⟨⟨v1, f1⟩, f2⟩ := ck
    by_cases hF1 : F < 1
    · refine bad 53 (.inr rfl) (ok8_of rfl (app_ok (app_ok (app_ok (app_ok tU tC) tM) tK) (rowsF_ok (by simpa using hF1) (by simp; omega))) f1) ?_
      have : decide (F ≥ 1) = false := by simp; omega
      rw [this]; simp
    by_cases hF2 : F > 10000
    · refine bad 53 (.inr rfl) (ok8_of rfl (app_ok (app_ok (app_ok (app_ok tU tC) tM) tK) (rowsF_ok (by simpa using hF1) (by simpa using hF2))) f2) ?_
      have : decide (F ≤ 10000) = false := by simp; omega
      rw [this]; simp
    have tF : ∀ t ∈ rowsF false false, RowOk (gs C F U K A) t := rowsF_ok (by simpa using hF1) (by simpa using hF2)
    have hN : iwrap .i64 (12 * F) = 12 * F := iwrap_small (by omega) (by omega)
    have tN : ∀ t ∈ rowsN cF cN 12, RowOk (gs C F U K A) t := rowsN_ok concF concN rfl (by rw [hN]; omega) (by rw [hN]; omega)
    obtain ⟨j, hj1, hj2, hj3⟩ := class_ex (12 * F) 13 (by simp only [Int.ofNat_eq_natCast]; omega)
    have tJ : ∀ t ∈ rowsCls cN j, RowOk (gs C F U K A) t := rowsCls_ok concN (by rw [hN]; exact hj2) (by rw [hN]; exact hj3)
    have vj := List.all_eq_true.1 v1 j (List.mem_range.2 (by omega))
    refine fin h0 hA hv hlen run_p10.1 (ok8_of rfl (app_ok (app_ok (app_ok (app_ok (app_ok (app_ok tU tC) tM) tK) tF) tN) tJ) vj) ?_
    have e1 : decide (C ≥ 1) = true := by simp; omega
    have e2 : decide (C ≤ 65536) = true := by simp; omega
    have e3 : decide (F ≥ 1) = true := by simp; omega
    have e4 : decide (F ≤ 10000) = true := by simp; omega
    have e5 : decide (U ≥ 0) = true := by simp; omega
    have e6 : decide (U ≤ 10000000) = true := by simp; omega
    rw [e1, e2, e3, e4, e5, e6]
    exact tail_ok (symsOf C F U K A) (symsOf_lim C F U K A)
end
end Go.VII.RN
