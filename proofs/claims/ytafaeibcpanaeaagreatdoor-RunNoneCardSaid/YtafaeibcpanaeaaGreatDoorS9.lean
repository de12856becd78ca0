/- RunNone's seat: the whole call. -/
import Derived.Test.YtafaeibcpanaeaaGreatDoorS8
namespace Go.VII.RN
noncomputable section
open Go.Proofs Go.RowKit
set_option maxRecDepth 100000
theorem uc_facts (s : Nat → Option BI) (hs : ∀ n bi, s n = some bi → LIMIT ≤ n) : ((chk8 none 1 50 (run8 ⟨0, s, hs⟩ (rowsU true false)) && chk8 none 1 50 (run8 ⟨0, s, hs⟩ (rowsU false true))) &&
    (chk8 none 1 50 (run8 ⟨0, s, hs⟩ (rowsU false false ++ rowsC true false)) && chk8 none 1 50 (run8 ⟨0, s, hs⟩ (rowsU false false ++ rowsC false true)))) = true := by kernel_rfl
variable {G : GS}
theorem chk8_ok {p : Option Nat} {e next : Nat} {r : Option CRes} (h : chk8 p e next r = true) : ∃ h1, r = some (.ret (vOf p e) h1) ∧ Less (hO next) h1 := by
  unfold chk8 at h
  split at h
  · rename_i a h1
    split at h
    · rename_i q z ha
      simp only [Bool.and_eq_true] at h
      obtain ⟨⟨⟨g1, g2⟩, g3⟩, g4⟩ := h
      have hq : q = ptrOf p := by
        split at g1
        · rfl
        · rename_i n m; rw [beq_tt.1 g1]; rfl
        · cases g1
      have hz := beq_tt.1 g2
      have hn := beq_tt.1 g3
      refine ⟨h1, ?_, ?_⟩
      · have : a = #[q, .int .i64 (.ofNat z)] := by rw [← Array.toArray_toList (xs := a), ha]
        rw [this, hq, hz]; rfl
      · split at g4
        · rename_i c hg
          simp only [Bool.and_eq_true] at g4
          obtain ⟨k1, k2⟩ := g4
          split at k2
          · rename_i x y z' e0 e1 e2
            simp only [Bool.and_eq_true] at k2
            obtain ⟨⟨q1, q2⟩, q3⟩ := k2
            have q1 := beq_tt.1 q1
            have q2 := beq_tt.1 q2
            have q3 := beq_tt.1 q3
            subst q1; subst q2; subst q3
            refine Less.keep1 hn hg (by rw [beq_tt.1 k1]; rfl) fun i v hi => ?_
            match i, hi with
            | 0, hi => simp only [List.getElem?_cons_zero, Option.some.injEq] at hi; subst hi; exact e0
            | 1, hi => simp only [List.getElem?_cons_succ, List.getElem?_cons_zero, Option.some.injEq] at hi; subst hi; exact e1
            | 2, hi => simp only [List.getElem?_cons_succ, List.getElem?_cons_zero, Option.some.injEq] at hi; subst hi; exact e2
            | n + 3, hi => simp at hi
          · cases k2
        · cases g4
    · cases h
  · cases h
/-- run.New's contract at the place where RunNone calls it. -/
def Ok8 (G : GS) (p : Option Nat) (e next : Nat) : Prop :=
  hI.next ≤ next ∧ ∀ (X : Cx) ρ w args', X.G = G → Rel X ρ hI w → Room X w (hO next) → VRL ρ argsI args'.toList → Calls Tryz.prog 8 args' w (CPost X ρ hI w (.ret (vOf p e) (hO next)))
theorem ok8_of {p : Option Nat} {e next : Nat} {T : List TRow} (hg : G.g = 0) (hT : ∀ t ∈ T, RowOk G t) (h : chk8 p e next (run8 G T) = true) : Ok8 G p e next := by
  obtain ⟨h1, hr, hless⟩ := chk8_ok h
  have hc := (semL_sound pk hT (entR G hg) 300).1 _ _ _ _ hr
  have hn : h1.next = next := hless.next.symm
  refine ⟨by rw [← hn]; exact hc.2, fun X ρ w args' hG r hB ha => ?_⟩
  refine (hc.1 Tryz.f8 (by kernel_rfl) (by kernel_rfl) X ρ w args' hG r ⟨hB.1, fun n hR => ?_⟩ ha).mono fun en w' hp => ?_
  · show h1.next ≤ n
    rw [hn]; exact hB.2 n hR
  · obtain ⟨v', ρ', rfl, p1, p2, p3⟩ := hp
    exact ⟨v', ρ', rfl, p1, p2.less hless, p3.less hless⟩
theorem call8_sound {p : Option Nat} {e next : Nat} {T : List TRow} (hg : G.g = 0) (hT : ∀ t ∈ T, RowOk G t) (ok8 : Ok8 G p e next) : CallSound Tryz.prog G (call8 G T p e next) := by
  intro f args h res he
  unfold call8 at he
  cases hb : (Nat.beq f 8 && isPtr args) with
  | true =>
    rw [hb] at he
    simp only [cond_true] at he
    split at he
    · rename_i hc
      obtain ⟨rfl, rfl⟩ := hc
      cases he
      simp only [Bool.and_eq_true] at hb
      have := beq_tt.1 hb.1
      subst this
      exact ⟨fun fn _ _ X ρ w args' hG r hB ha => ok8.2 X ρ w args' hG r hB ha, ok8.1⟩
    · cases he
  | false =>
    rw [hb] at he
    exact (semL_sound pk hT (entR G hg) 300).1 f args h res he
theorem call8_at (p : Option Nat) (e next : Nat) (T : List TRow) : call8 G T p e next 8 argsI hI = some (.ret (vOf p e) (hO next)) := by
  have hb : (Nat.beq 8 8 && isPtr argsI) = true := rfl
  unfold call8
  rw [hb, cond_true, if_pos (And.intro rfl rfl)]
noncomputable def sm8 (G : GS) (T : List TRow) (p : Option Nat) (e next : Nat) : Sm := { call := call8 G T p e next, loop := (semR G T).loop, dcall := (semR G T).dcall }
theorem func3 : Tryz.prog.funcs[3]? = some Tryz.f3 := by kernel_rfl
theorem ext3 (T : List TRow) : extR T 3 = none := by kernel_rfl
theorem body3_eq : Tryz.f3.body = some body3 := by kernel_rfl
theorem init3 : ainit Tryz.f3 args3 = some fr0 := by kernel_rfl
theorem chkT_ok {r : Option Res} (h : chkT r = true) : ∃ fr hZ, r = some (.ret, fr, hZ) ∧ fr.d = [] ∧ aresults Tryz.prog Tryz.f3 fr hZ = some (.bool true) ∧ hZ.next ≤ LIMIT := by
  unfold chkT at h
  split at h
  · rename_i fr hZ
    split at h
    · rename_i hd
      split at h
      · rename_i b hb
        simp only [Bool.and_eq_true] at h
        obtain ⟨rfl, h2⟩ := h
        exact ⟨fr, hZ, rfl, hd, hb, Nat.le_of_ble_eq_true h2⟩
      · cases h
    · cases h
  · cases h
theorem run3 (s : Nat → Option BI) (hs : ∀ n bi, s n = some bi → LIMIT ≤ n) {p : Option Nat} {e next : Nat} (T : List TRow) (hp : fput frJ o10.dst (vOf p e) = some (frK p e)) (h : chkT (tl ⟨0, s, hs⟩ (rowsLen false ++ T) p e next) = true) :
    ∃ hZ, acallBody Tryz.prog ⟨0, s, hs⟩ (extR (rowsLen false ++ T)) (drR ⟨0, s, hs⟩ (rowsLen false ++ T)) (sm8 ⟨0, s, hs⟩ (rowsLen false ++ T) p e next) 3 args3 (AH.void ⟨0, s, hs⟩) = some (.ret (.bool true) hZ) ∧ hZ.next ≤ LIMIT := by
  obtain ⟨fr, hZ, h1, h2, h3, h4⟩ := chkT_ok h
  refine ⟨hZ, ?_, h4⟩
  have hrun : arunQ Tryz.prog ⟨0, s, hs⟩ (extR (rowsLen false ++ T)) (drR ⟨0, s, hs⟩ (rowsLen false ++ T)) (call8 ⟨0, s, hs⟩ (rowsLen false ++ T) p e next) (semR ⟨0, s, hs⟩ (rowsLen false ++ T)).loop body3 fr0 (AH.void ⟨0, s, hs⟩) = some (.ret, fr, hZ) := by
    rw [arunQ_cut 9 body3 (pre_run s hs T p e next), post9, arunQ_seq]
    have e10 : arunQ Tryz.prog ⟨0, s, hs⟩ (extR (rowsLen false ++ T)) (drR ⟨0, s, hs⟩ (rowsLen false ++ T)) (call8 ⟨0, s, hs⟩ (rowsLen false ++ T) p e next) (semR ⟨0, s, hs⟩ (rowsLen false ++ T)).loop c10 frI hI =
        arunL Tryz.prog ⟨0, s, hs⟩ (extR (rowsLen false ++ T)) (call8 ⟨0, s, hs⟩ (rowsLen false ++ T) p e next) ops10 m10 (frK p e) (hO next) := by
      rw [c10_eq]
      have e1 : arunQ Tryz.prog ⟨0, s, hs⟩ (extR (rowsLen false ++ T)) (drR ⟨0, s, hs⟩ (rowsLen false ++ T)) (call8 ⟨0, s, hs⟩ (rowsLen false ++ T) p e next) (semR ⟨0, s, hs⟩ (rowsLen false ++ T)).loop (.region 10 ops10 false) frI hI =
          arunL Tryz.prog ⟨0, s, hs⟩ (extR (rowsLen false ++ T)) (call8 ⟨0, s, hs⟩ (rowsLen false ++ T) p e next) ops10 ops10.toList frI hI := rfl
      rw [e1, ops10_eq, arunL_app l10 _ (run_l10 s hs T _), arunL_call run_o10w (run_o10 s hs T) (call8_at p e next _) hp]
    rw [e10]
    exact h1
  unfold acallBody
  simp only [func3, ext3, body3_eq, init3, sm8, hrun, h2, aleave, h3]
end
end Go.VII.RN
