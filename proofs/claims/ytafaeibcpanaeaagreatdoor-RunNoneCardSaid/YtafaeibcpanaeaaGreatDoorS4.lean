/- RunNone's seat: awake's contract; the unknown ones; the run up to run.New. -/
import Derived.Test.YtafaeibcpanaeaaGreatDoorS3
namespace Go.VII.RN
noncomputable section
open Go.Proofs
set_option maxRecDepth 100000
noncomputable def specAwake : Spec := fun args h => match args with
  | [] => some (.bool true, h)
  | _ => none
theorem isTrue_eq {v : Option Value} (h : isTrue v = true) : v = some (.bool true) := by
  unfold isTrue at h
  split at h
  · subst h; rfl
  · cases h
theorem ent4 (G : GS) (hg : G.g = 0) : EntOk Tryz.prog G 4 specAwake := by
  obtain ⟨g, s, hs⟩ := G
  have hg' : g = 0 := hg
  subst hg'
  have hf : Tryz.prog.funcs[4]? = some Tryz.f4 := by kernel_rfl
  have hb : Tryz.f4.body.isSome = true := by kernel_rfl
  refine .ofBody (fn := Tryz.f4) ((blt_iff _ _).1 rfl) hf hb fun args h v h1 e => ?_
  unfold specAwake at e
  split at e
  · cases e
    have h0 := isTrue_eq (awake_run s hs)
    refine specP_sound (lay0_ok (ent2 ⟨0, s, hs⟩) 1000).1 (f := 4) ?_
    unfold specP
    obtain ⟨c, hc⟩ := Option.isSome_iff_exists.1 hb
    simp only [hf, hc, forceL, h0]
  · cases e
noncomputable def extsR : List (FuncId × Spec) := (4, specAwake) :: exts0
theorem entR (G : GS) (hg : G.g = 0) : ∀ p ∈ extsR, EntOk Tryz.prog G p.1 p.2 := by
  intro p hp
  simp only [extsR, List.mem_cons] at hp
  rcases hp with rfl | hp
  · exact ent4 G hg
  · exact ent0 p hp
/-! ### The unknown ones -/
noncomputable def cC : Nat := 1073741824
noncomputable def cF : Nat := 1073741826
noncomputable def cU : Nat := 1073741828
noncomputable def cK : Nat := 1073741830
noncomputable def cM : Nat := 1073741832
noncomputable def cN : Nat := 1073741834
noncomputable def cL : Nat := 1073741836
noncomputable def cA : Nat := 1073741825
noncomputable def sy (n : Nat) : Value := .chan (some n)
noncomputable def args3 : List Value := [.agg #[sy cC, sy cF, sy cU], sy cK, sy cA]
noncomputable def rowsLen (b : Bool) : List TRow := [⟨50, [.s cA], sy cL⟩, ⟨15, [.s cL, .i 30], .bool b⟩]
noncomputable def semR (G : GS) (T : List TRow) : Sm := semL Tryz.prog G T extsR 300
noncomputable def body3 : Code := (Tryz.f3.body).getD .skip
noncomputable def fr0 : AFr := (ainit Tryz.f3 args3).getD ⟨0, .nil, []⟩
noncomputable def resFr (r : Option Res) : AFr := match r with
  | some (_, fr, _) => fr
  | none => ⟨0, .nil, []⟩
noncomputable def resH (r : Option Res) : AH := match r with
  | some (_, _, h) => h
  | none => ⟨0, .nil⟩
noncomputable def isNormal (r : Option Res) : Bool := match r with
  | some (.normal, _, _) => true
  | _ => false
theorem isNormal_eq {r : Option Res} (h : isNormal r = true) : r = some (.normal, resFr r, resH r) := by
  unfold isNormal at h
  split at h
  · rfl
  · cases h
end
end Go.VII.RN
