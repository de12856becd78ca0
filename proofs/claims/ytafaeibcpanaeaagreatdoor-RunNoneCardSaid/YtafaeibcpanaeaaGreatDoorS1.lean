/- RunNone's seat: the program's facts; the contracts of what has no body. -/
import Derived.Test.YtafaeibcpanaeaaGreatDoorV29
import Derived.Test.YtafaeibcpanaeaaGreatDoorProg
import Derived.KernelRfl
namespace Go.VII.RN
noncomputable section
open Go.Proofs
set_option maxRecDepth 100000
theorem pk : ProgOk Tryz.prog := ProgOk.of (l := Tryz.prog.funcs.toList) rfl (by kernel_rfl) (by kernel_rfl) (by kernel_rfl)
variable {G : GS}
theorem ent {f : FuncId} {sp : Spec} {fn : Func} (hlow : Nat.blt f SYMB = true) (hf : Tryz.prog.funcs[f]? = some fn) (hb : fn.body.isNone = true) (hn : Extern.findNext fn = none)
    (hs : (Tryz.prog.funcs[f]? = some fn) → (fn.name == "runtime.NumGoroutine") = false → fn.body.isNone = true → Extern.findNext fn = none → SpecOk Tryz.prog G f sp) : EntOk Tryz.prog G f sp :=
  .ofBare ((blt_iff _ _).1 hlow) hf (by simpa using hb) (hs hf (pk.names f fn hf) hb hn)
noncomputable def exts0 : List (FuncId × Spec) := [(79, atLoad .i64), (81, atLoad .u32), (120, atStore), (175, atNone), (176, atCas .i32), (177, atNone), (178, atMark), (180, atMark), (181, atAdd .i32), (193, atAdd .i64)]
theorem ent0 : ∀ p ∈ exts0, EntOk Tryz.prog G p.1 p.2 := by
  intro p hp
  simp only [exts0, List.mem_cons, List.mem_nil_iff, or_false] at hp
  rcases hp with rfl | rfl | rfl | rfl | rfl | rfl | rfl | rfl | rfl | rfl
  · exact ent (fn := Tryz.f79) rfl (by kernel_rfl) (by kernel_rfl) (by kernel_rfl) fun a b c d => atLoad_ok a b c d .i64 (by kernel_rfl)
  · exact ent (fn := Tryz.f81) rfl (by kernel_rfl) (by kernel_rfl) (by kernel_rfl) fun a b c d => atLoad_ok a b c d .u32 (by kernel_rfl)
  · exact ent (fn := Tryz.f120) rfl (by kernel_rfl) (by kernel_rfl) (by kernel_rfl) fun a b c d => atStore_ok a b c d (by kernel_rfl)
  · exact ent (fn := Tryz.f175) rfl (by kernel_rfl) (by kernel_rfl) (by kernel_rfl) fun a b c d => atMark0_ok a b c d .disable (by kernel_rfl)
  · exact ent (fn := Tryz.f176) rfl (by kernel_rfl) (by kernel_rfl) (by kernel_rfl) fun a b c d => atCas_ok a b c d .i32 (by kernel_rfl)
  · exact ent (fn := Tryz.f177) rfl (by kernel_rfl) (by kernel_rfl) (by kernel_rfl) fun a b c d => atMark0_ok a b c d .enable (by kernel_rfl)
  · exact ent (fn := Tryz.f178) rfl (by kernel_rfl) (by kernel_rfl) (by kernel_rfl) fun a b c d => atMark_ok a b c d .acquire (by kernel_rfl)
  · exact ent (fn := Tryz.f180) rfl (by kernel_rfl) (by kernel_rfl) (by kernel_rfl) fun a b c d => atMark_ok a b c d .releaseMerge (by kernel_rfl)
  · exact ent (fn := Tryz.f181) rfl (by kernel_rfl) (by kernel_rfl) (by kernel_rfl) fun a b c d => atAdd_ok a b c d .i32 (by kernel_rfl)
  · exact ent (fn := Tryz.f193) rfl (by kernel_rfl) (by kernel_rfl) (by kernel_rfl) fun a b c d => atAdd_ok a b c d .i64 (by kernel_rfl)
end
end Go.VII.RN
