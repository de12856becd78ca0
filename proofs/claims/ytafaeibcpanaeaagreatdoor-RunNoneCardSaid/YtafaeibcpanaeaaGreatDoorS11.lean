/- The row and the card of RunNone. -/
import Derived.Test.YtafaeibcpanaeaaGreatDoorS10
import Derived.Test.YtafaeibcpanaeaaGreatDoorTie
import Derived.Test.YtafaeibcpanaeaaGreatDoorCards
import Derived.ProofKit
import Derived.OpenShut
import Derived.LaidMore
import Derived.Lay
import Derived.Carry
import Derived.SevenTiedAt
import Derived.Stop.Joined
namespace Go.Proofs.YtafaeibcpanaeaaGreatDoor
open Go Go.ChangeShapes Go.WideShapes Go.ChangeAt Go.RowKit
set_option maxRecDepth 100000
theorem own : ownKnob Tryz.prog.godebug = none := by kernel_rfl
theorem laidOut : laidOutB Tryz.prog = true := by kernel_rfl
theorem params3 : Tryz.f3.params.toList = [23, 3, 24] := by kernel_rfl
theorem under4 : Tryz.prog.underlying 4 = some .bool := by kernel_rfl
theorem under3 : Tryz.prog.underlying 3 = some (.int .i64) := by kernel_rfl
theorem under24 : ∃ e, Tryz.prog.underlying 24 = some (.slice e) := by
  have h : (match Tryz.prog.underlying 24 with | some (.slice _) => true | _ => false) = true := by kernel_rfl
  split at h
  · rename_i e he; exact ⟨e, he⟩
  · cases h
theorem under23 : ∃ fs, Tryz.prog.underlying 23 = some (.struct fs) := by
  have h : (match Tryz.prog.underlying 23 with | some (.struct _) => true | _ => false) = true := by kernel_rfl
  split at h
  · rename_i e he; exact ⟨e, he⟩
  · cases h
theorem cells23 : Tryz.prog.cellsOf 23 = 3 := by kernel_rfl
theorem types23 : Tryz.prog.cellTypes Tryz.prog.depth 23 = some [3, 3, 3] := by kernel_rfl
theorem heap_pos {W : World} (h : laidMetH Tryz.prog Rows.runNoneRow.laid W) : 0 < W.heap.size := by
  rw [MakeChecks.laidMetH_plain _ _ _ (by kernel_rfl)] at h
  obtain ⟨ps, ⟨g, t, cs, fuel, p, q, hg, ht, hv, hd, _⟩, _⟩ := h
  have hv' : Tryz.prog.globalNamed "math/bits.deBruijn64tab" = some g := hg
  have hvv : W.var? Tryz.prog "math/bits.deBruijn64tab" = some cs := hv
  simp only [World.var?, hv', Option.bind_some] at hvv
  cases hh : W.heap[g]? with
  | none => simp [hh] at hvv
  | some o => have := (Array.getElem?_eq_some_iff.1 hh).1; omega
theorem open_config {W : World} {r : Reach} {base : Nat} {v : Value} (h : Value.okWide Tryz.prog W r base 23 v) : ∃ C F U : Int, v = .agg #[.int .i64 C, .int .i64 F, .int .i64 U] := by
  obtain ⟨fs, hu⟩ := under23
  simp only [Value.okWide, hu] at h
  obtain ⟨cs, rfl, hsz, ts, hts, _, hcell⟩ := h
  rw [types23] at hts
  cases hts
  rw [cells23] at hsz
  have one : ∀ i, i < 3 → ∃ z : Int, cs[i]? = some (.int .i64 z) := by
    intro i hi
    have hlt : i < cs.size := by omega
    obtain ⟨u, e1, e2⟩ := hcell i cs[i] (by rw [Array.getElem?_eq_getElem hlt])
    have hu3 : u = 3 := by
      match i, hi, e1 with
      | 0, _, e1 => simpa using e1.symm
      | 1, _, e1 => simpa using e1.symm
      | 2, _, e1 => simpa using e1.symm
    subst hu3
    rw [Array.getElem?_eq_getElem hlt]
    simp only [Cell.okWide, under3] at e2
    generalize cs[i] = c at e2
    cases c <;> simp [Cell.ok] at e2
    obtain ⟨rfl, _⟩ := e2
    exact ⟨_, rfl⟩
  obtain ⟨C, hC⟩ := one 0 (by omega)
  obtain ⟨F, hF⟩ := one 1 (by omega)
  obtain ⟨U, hU⟩ := one 2 (by omega)
  refine ⟨C, F, U, ?_⟩
  congr 1
  refine Array.ext_getElem? fun i => ?_
  match i with
  | 0 => rw [hC]; rfl
  | 1 => rw [hF]; rfl
  | 2 => rw [hU]; rfl
  | n + 3 => rw [Array.getElem?_eq_none (by omega)]; rfl
theorem open_num {W : World} {r : Reach} {base : Nat} {v : Value} (h : Value.okWide Tryz.prog W r base 3 v) : ∃ K : Int, v = .int .i64 K := by
  simp only [Value.okWide, under3, Cell.okWide] at h
  cases v <;> simp [Cell.ok] at h
  obtain ⟨rfl, _⟩ := h
  exact ⟨_, rfl⟩
theorem open_args {W : World} {r : Reach} {base : Nat} {v : Value} (h0 : 0 < W.heap.size) (C F U K : Int) (h : Value.okWide Tryz.prog W r base 24 v) :
    ∃ A : VII.BI, A.blk < W.heap.size ∧ VII.VR (VII.Rho.syms (VII.RN.gs C F U K A)) (VII.RN.sy VII.RN.cA) v := by
  obtain ⟨e, hu⟩ := under24
  simp only [Value.okWide, hu, Cell.okWide] at h
  cases v <;> simp [Cell.ok, hu] at h
  rename_i a len cap
  cases a with
  | none =>
    have hn : len = 0 ∧ cap = 0 := by
      cases len <;> cases cap <;> simp_all
    obtain ⟨rfl, rfl⟩ := hn
    exact ⟨⟨0, 0, 0, 0⟩, h0, .symN rfl rfl⟩
  | some a =>
    obtain ⟨blk, off, spot⟩ := a
    obtain ⟨_, _, _, hs, row, cells, hsh, _⟩ := h
    have hs' : spot = none := hs
    subst hs'
    refine ⟨⟨blk, off + 1, len, cap⟩, ?_, .symS rfl rfl⟩
    simp only [World.shape?] at hsh
    cases hh : W.heap[blk]? with
    | none => simp [hh] at hsh
    | some o => exact (Array.getElem?_eq_some_iff.1 hh).1
theorem lifted (os : Os) (started : os.Started) (H : Type) (enc : TypeId × Value → H) :
    ReturnsInHanded {} Tryz.checked os 3 .any (fun w args => (Rows.runNoneSpec.pre enc Tryz.prog Tryz.f3 Rows.runNoneRow.domain false w args ∧ laidMetH Tryz.prog Rows.runNoneRow.laid w) ∧ sizedMet enc Tryz.prog Tryz.f3 (OpenSpec.ofChange Rows.runNoneSpec) false w args)
      (Rows.runNoneSpec.post enc Tryz.prog Tryz.f3 false true false false) := by
  refine returnsInHanded_of_change_and (C := Tryz.checked) (X := fun w _ => laidMetH Tryz.prog Rows.runNoneRow.laid w) (fun _ _ _ hh h => h.of_heap hh) own started (by kernel_rfl) VII.RN.func3
    (ChangeSpec.witness_shaped (enc := enc) (C := Tryz.checked) (os := os) (X := fun w _ => laidMetH Tryz.prog Rows.runNoneRow.laid w) false (World.laidAll Tryz.prog os Rows.runNoneRow.laid) #[.agg #[.int .i64 0, .int .i64 0, .int .i64 0], .int .i64 0, .slice none 0 0] 8 (World.laidAll_os _ _ _)
      (World.shaped_of_ZipB (by kernel_rfl) (by kernel_rfl)) (by kernel_rfl) (by kernel_rfl) (by kernel_rfl)
      (by rw [MakeChecks.laidMetH_plain _ _ _ (by kernel_rfl)]; exact laidMet_laidAll _ (by kernel_rfl) (by kernel_rfl))) ?_
  intro W base args ds gs before hval0 hW hc _ hL _
  have hval : ∀ (j : Nat) t v, Tryz.f3.params[j]? = some t → args[j]? = some v → Value.okWide Tryz.prog W .any base t v := hval0
  have hW' := hW
  obtain ⟨p, q, hA0, hV, rfl, _, _⟩ := hW
  have hA : DataW.TrodAll enc Tryz.prog W 0 (fun _ => true) true Tryz.f3.params.toList args.toList ds p := hA0
  rw [params3] at hA
  obtain ⟨v0, v1, v2, d0, d1, d2, p0, p1, p2, rfl, rfl, rfl, h0, h1, h2⟩ := trodAll_three hA
  obtain ⟨rfl, rfl⟩ := trodVars_none hV
  have hp : ∀ j, Tryz.f3.params[j]? = [23, 3, 24][j]? := fun j => by rw [← params3, Array.getElem?_toList]
  obtain ⟨C, F, U, rfl⟩ := open_config (hval 0 23 v0 (by rw [hp]; rfl) rfl)
  obtain ⟨K, rfl⟩ := open_num (hval 1 3 v1 (by rw [hp]; rfl) rfl)
  have hpos := heap_pos hL
  obtain ⟨A, hAb, hAv⟩ := open_args hpos C F U K (hval 2 24 v2 (by rw [hp]; rfl) rfl)
  clear hA0 hval0
  simp only [List.append_nil] at hW'
  have hlt : ∀ x ∈ p0 ++ p1 ++ p2, x.block < W.heap.size := fun x hx => by simpa using hW'.lt x hx
  refine (VII.RN.walk hpos hAb hAv).mono fun e W' ⟨he, hb⟩ => ?_
  subst he
  have a0 := Below.trod laidOut (by kernel_rfl) (of_decide_eq_true (by kernel_rfl)) h0 hb (fun x hx => hlt x (by simp [hx]))
  have a1 := Below.trod laidOut (by kernel_rfl) (of_decide_eq_true (by kernel_rfl)) h1 hb (fun x hx => hlt x (by simp [hx]))
  have a2 := Below.trod laidOut (by kernel_rfl) (of_decide_eq_true (by kernel_rfl)) h2 hb (fun x hx => hlt x (by simp [hx]))
  have hargs : DataW.TrodAll enc Tryz.prog W' 0 (fun b => decide (b < W.heap.size)) true Tryz.f3.params.toList #[.agg #[.int .i64 C, .int .i64 F, .int .i64 U], .int .i64 K, v2].toList [d0, d1, d2] (p0 ++ p1 ++ p2) := by
    rw [params3, List.append_assoc]
    exact trodAll_mk3 a0 a1 a2
  refine ⟨_, rfl, _, _, _, [], _, [], hW', ?_, hargs, rfl, hb.frame _, fun h => by cases h⟩
  exact trodAll_mk1 (shut_bool under4 _)
end Go.Proofs.YtafaeibcpanaeaaGreatDoor
