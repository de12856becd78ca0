/- RunNone's seat: awake gives true. -/
import Derived.Test.YtafaeibcpanaeaaGreatDoorS1
namespace Go.VII.RN
noncomputable section
open Go.Proofs
set_option maxRecDepth 100000
noncomputable def none0 : List TRow := []
theorem none0_ok (G : GS) : ∀ t ∈ none0, RowOk G t := fun _ h => by cases h
noncomputable def lay0 (G : GS) (l : List (FuncId × Spec)) (k : Nat) : Sm := semL Tryz.prog G none0 l k
theorem lay0_ok {G : GS} {l : List (FuncId × Spec)} (hl : ∀ p ∈ l, EntOk Tryz.prog G p.1 p.2) (k : Nat) :
    CallSound Tryz.prog G (lay0 G l k).call ∧ LoopSound Tryz.prog G (lay0 G l k).loop ∧ DCallSound Tryz.prog G (lay0 G l k).dcall := semL_sound pk (none0_ok G) hl k
noncomputable def exts00 (G : GS) : List (FuncId × Spec) := (256, specP Tryz.prog G (lay0 G exts0 300) 256) :: (257, specP Tryz.prog G (lay0 G exts0 300) 257) :: exts0
noncomputable def exts1 (G : GS) : List (FuncId × Spec) := (200, specP Tryz.prog G (lay0 G (exts00 G) 300) 200) :: exts00 G
noncomputable def exts2 (G : GS) : List (FuncId × Spec) := (124, specR Tryz.prog G (extL none0 (exts1 G)) (drL Tryz.prog G none0 (exts1 G)) (lay0 G (exts1 G) 300) 124) :: exts1 G
theorem entP {G : GS} {l : List (FuncId × Spec)} (hl : ∀ p ∈ l, EntOk Tryz.prog G p.1 p.2) (k : Nat) {f : FuncId} {fn : Func} (hlow : Nat.blt f SYMB = true) (hf : Tryz.prog.funcs[f]? = some fn) (hb : fn.body.isSome = true) : EntOk Tryz.prog G f (specP Tryz.prog G (lay0 G l k) f) :=
  .ofBody ((blt_iff _ _).1 hlow) hf hb fun _ _ _ _ e => specP_sound (lay0_ok hl k).1 e
theorem ent00 (G : GS) : ∀ p ∈ exts00 G, EntOk Tryz.prog G p.1 p.2 := by
  intro p hp
  simp only [exts00, List.mem_cons] at hp
  rcases hp with rfl | rfl | hp
  · exact entP ent0 300 (fn := Tryz.f256) rfl (by kernel_rfl) (by kernel_rfl)
  · exact entP ent0 300 (fn := Tryz.f257) rfl (by kernel_rfl) (by kernel_rfl)
  · exact ent0 p hp
theorem ent1 (G : GS) : ∀ p ∈ exts1 G, EntOk Tryz.prog G p.1 p.2 := by
  intro p hp
  simp only [exts1, List.mem_cons] at hp
  rcases hp with rfl | hp
  · exact entP (ent00 G) 300 (fn := Tryz.f200) rfl (by kernel_rfl) (by kernel_rfl)
  · exact ent00 G p hp
theorem ent2 (G : GS) : ∀ p ∈ exts2 G, EntOk Tryz.prog G p.1 p.2 := by
  intro p hp
  simp only [exts2, List.mem_cons] at hp
  rcases hp with rfl | hp
  · exact .ofBody (fn := Tryz.f124) ((blt_iff _ _).1 rfl) (by kernel_rfl) (by kernel_rfl) fun _ _ _ _ e =>
      specR_sound (okay_of (none0_ok G) (ent1 G) pk.size pk.names).1 (drL_sound pk (none0_ok G) (ent1 G)) (lay0_ok (ent1 G) 300).1 (lay0_ok (ent1 G) 300).2.1 e
  · exact ent1 G p hp
end
end Go.VII.RN
