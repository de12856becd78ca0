/- A function that ranges over a function which gives nothing. -/
import Derived.Test.YtafaeibcpanaeaaGreatDoorV23
import Derived.RangeFuncRecord
namespace Go.VII
noncomputable section
variable {P : Program} {X : Cx} {ρ : Rho} {h : AH} {w : World} {ext : FuncId → Option Spec}
/-! ### Blocks that no name has -/
theorem Rel.allocBare (r : Rel X ρ h w) (o : Obj) : Rel X ρ h (w.alloc o) := by
  have hold : ∀ k, k < w.heap.size → (w.alloc o).heap[k]? = w.heap[k]? := fun k hk => by
    show (w.heap.push o)[k]? = _
    rw [Array.getElem?_push, if_neg (by omega)]
  refine ⟨r.low, r.ro, r.dom, fun n bi e => ?_, r.glob, fun n o' e => ?_, r.own⟩
  · have := r.blk n bi e; simp; omega
  · obtain ⟨bi, h1, h2⟩ := r.objs n o' e
    exact ⟨bi, h1, by rw [hold _ (r.blk n bi h1)]; exact h2⟩
theorem Ext.allocBare (ρ : Rho) (h : AH) (w : World) (o : Obj) : Ext ρ h w ρ h (w.alloc o) :=
  ⟨fun _ _ hh => .inl hh, Rho.le_refl ρ, Nat.le_refl _, by simp, fun b hb _ => by
    show (w.heap.push o)[b]? = _
    rw [Array.getElem?_push, if_neg (by omega)], fun _ h => .inr h, rfl, rfl, rfl⟩
theorem Rel.putBare (r : Rel X ρ h w) {l : Nat} (hl : ¬ Owned ρ h l) (hB : X.B ≤ l) (o : Obj) : Rel X ρ h (w.putObj l o) := by
  refine ⟨r.low, r.ro, r.dom, fun n bi e => by rw [World.putObj_size]; exact r.blk n bi e, r.glob, fun n o' e => ?_, r.own⟩
  obtain ⟨bi, h1, h2⟩ := r.objs n o' e
  refine ⟨bi, h1, ?_⟩
  rw [World.putObj_heap_other]
  · exact h2
  · intro hb
    cases ho : o'.own with
    | true => exact hl ⟨n, o', bi, e, ho, h1, hb⟩
    | false => have := r.ro n o' bi e ho h1; omega
theorem Ext.putBehind {ρ' : Rho} {h' : AH} {w' : World} (x : Ext ρ h w ρ' h' w') {l : Nat} (hl : w.heap.size ≤ l) (o : Obj) : Ext ρ h w ρ' h' (w'.putObj l o) :=
  ⟨x.doms, x.le, x.next, by rw [World.putObj_size]; exact x.size, fun b hb hn => by rw [World.putObj_heap_other (by omega)]; exact x.fr b hb hn, x.ownm, x.tape, x.os, x.output⟩
/-- A name is kept for a block without an object. -/
def AH.bump (h : AH) : AH := { h with next := h.next + 1 }
theorem AH.bump_get (h : AH) (n : Nat) : h.bump.get n = h.get n := rfl
theorem Rel.bump (r : Rel X ρ h w) (hR : ¬ X.R h.next) {b : Nat} (hb : b < w.heap.size) (hfree : ∀ n bi, ρ n = some bi → bi.blk ≠ b) :
    Rel X (ρ.upd h.next ⟨b, 0, 0, 0⟩) h.bump w ∧ Ext ρ h w (ρ.upd h.next ⟨b, 0, 0, 0⟩) h.bump w ∧ ¬ Owned (ρ.upd h.next ⟨b, 0, 0, 0⟩) h.bump b := by
  have hf := r.fresh hR
  have hle : ρ.le (ρ.upd h.next ⟨b, 0, 0, 0⟩) := Rho.le_upd hf
  have hone : ∀ m bi, m ≠ h.next → ρ.upd h.next ⟨b, 0, 0, 0⟩ m = some bi → ρ m = some bi := fun m bi hm he => by
    simpa [Rho.upd, hm] using he
  have hlow : ∀ n o, h.get n = some o → n ≠ h.next := fun n o e => by have := r.low n o e; omega
  refine ⟨⟨fun n o e => ?_, fun n o bi e ho hb' => r.ro n o bi e ho (hone n bi (hlow n o e) hb'), fun n bi e => ?_, fun n bi e => ?_, r.glob.mono hle, fun n o e => ?_, fun n o bi e ho hb' => ?_⟩, ⟨fun n bi e => ?_, hle, by simp [AH.bump], Nat.le_refl _, fun _ _ _ => rfl, fun c hc => ?_, rfl, rfl, rfl⟩, ?_⟩
  · have := r.low n o e; simp [AH.bump]; omega
  · by_cases hn : n = h.next
    · left; simp [AH.bump]; omega
    · rcases r.dom n bi (hone n bi hn e) with hh | hh
      · left; simp [AH.bump]; omega
      · exact .inr hh
  · by_cases hn : n = h.next
    · subst hn; rw [Rho.upd_same] at e; cases e; exact hb
    · exact r.blk n bi (hone n bi hn e)
  · obtain ⟨bi, h1, h2⟩ := r.objs n o e
    exact ⟨bi, hle _ _ h1, h2.mono hle⟩
  · have hb'' := hone n bi (hlow n o e) hb'
    obtain ⟨h1, h2⟩ := r.own n o bi e ho hb''
    exact ⟨h1, fun m o' bj g1 g2 g3 => h2 m o' bj g1 (hone m bj (hlow m o' g1) g2) g3⟩
  · by_cases hn : n = h.next
    · right; subst hn; simp [AH.bump]
    · exact .inl (hone n bi hn e)
  · obtain ⟨m, o, bi, g1, g2, g3, g4⟩ := hc
    exact .inr ⟨m, o, bi, g1, g2, hone m bi (hlow m o g1) g3, g4⟩
  · rintro ⟨m, o, bi, g1, g2, g3, g4⟩
    exact hfree m bi (hone m bi (hlow m o g1) g3) g4
/-- Behind a step: a block that nobody owns lies as it lay, and is nobody's. -/
theorem Ext.bare {ρ' : Rho} {h' : AH} {w' : World} (x : Ext ρ h w ρ' h' w') {b : Nat} (hb : b < w.heap.size) (hn : ¬ Owned ρ h b) : w'.heap[b]? = w.heap[b]? ∧ ¬ Owned ρ' h' b :=
  ⟨x.fr b hb hn, fun ho => (x.ownm b ho).elim (fun hh => by omega) hn⟩
/-- The iterator's frame: what yield is isn't known. -/
theorem iter_rel {fn : Func} {cap : List Value} {y : Value} {cap' : Array Value} {t : Tr Value} (e : initT cap 1 .nil = some t) (ha : VRL ρ cap cap'.toList) :
    FRel ρ { n := cap.length + 1 + (fn.ntmps - (cap.length + 1)), t, d := [] } { tmps := (#[y] ++ cap') ++ Array.replicate (fn.ntmps - (#[y] ++ cap').size) undef, defers := [] } := by
  have hlen : cap.length = cap'.size := by simpa using ha.length
  refine ⟨by simp [hlen]; omega, fun i v hv => ?_, .nil⟩
  simp only [AFr.get] at hv
  rw [initT_get e i] at hv
  split at hv
  · rename_i hi
    obtain ⟨v', g1, g2⟩ := ha.get _ v hv
    have : ((#[y] ++ cap') ++ Array.replicate (fn.ntmps - (#[y] ++ cap').size) undef).getD i undef = v' := by
      rw [Array.getD_eq_getD_getElem?, Array.getElem?_append_left (by simp; omega), Array.getElem?_append_right (by simp; omega)]
      have : cap'[i - 1]? = some v' := by simpa using g1
      simp [this]
    rw [this]; exact g2
  · rw [Tr.get_nil] at hv; cases hv
/-- A range over a function that returns without a call of yield. -/
def arng (P : Program) (G : GS) (ext : FuncId → Option Spec) (dr : DrawF) (call : CallF) (loop : LoopF) (g : Operand) (fr : AFr) (h : AH) : Option (AFr × AH) :=
  match aeval G fr g with
  | some (.func (.func gf) first cap) => bif Nat.beq first.toList.length 0 then
    (match P.funcs[gf]? with
    | none => none
    | some fn => match fn.body with
      | none => none
      | some c => match initT cap.toList 1 .nil with
        | none => none
        | some t => match arunC P G ext dr call loop c { n := cap.toList.length + 1 + (fn.ntmps - (cap.toList.length + 1)), t, d := [] } h.bump with
          | none => none
          | some (x, fr1, h1) => match x with
            | .normal | .ret => (match fr1.d with
              | [] => (match aresults P fn fr1 h1 with
                | some _ => some ({ fr with d := [(MARK, [.pointer (some ⟨h.next, 0, some 0⟩)])] }, h1)
                | none => none)
              | _ => none)
            | _ => none) else none
  | _ => none
section
variable {G : GS} {dr : DrawF} {call : CallF} {loop : LoopF}
theorem arng_next (ok : Okay P G ext) (hd : DrawSound P G dr) (hc : CallSound P G call) (hl : LoopSound P G loop) {g : Operand} {fr fr1 : AFr} {h h1 : AH} (e : arng P G ext dr call loop g fr h = some (fr1, h1)) : h.next + 1 ≤ h1.next := by
  unfold arng at e
  split at e
  · obtain ⟨_, e⟩ := bif_some e
    split at e
    · cases e
    · split at e
      · cases e
      · split at e
        · cases e
        · split at e
          · cases e
          · rename_i hrun
            have := arunC_next ok hd hc hl hrun
            simp only [AH.bump] at this
            split at e
            · split at e
              · split at e
                · cases e; exact this
                · cases e
              · cases e
            · split at e
              · split at e
                · cases e; exact this
                · cases e
              · cases e
            · cases e
  · cases e
end
theorem arng_sound {dr : DrawF} {call : CallF} {loop : LoopF} (ok : Okay P X.G ext) (hd : DrawSound P X.G dr) (hc : CallSound P X.G call) (hl : LoopSound P X.G loop) {g : Operand} {ps : Array Tmp} {asg bd : Code} {fr fr1 : AFr} {h h1 : AH} {ρ : Rho} {w : World} {a : Act}
    (e : arng P X.G ext dr call loop g fr h = some (fr1, h1)) (hf : FRel ρ fr a) (hfd : fr.d = []) (r : Rel X ρ h w) (hB : Room X w h1) (Q : Exit → Act → World → Prop)
    (hQ : ∀ ρ' w' D bi, Rel X ρ' h1 w' → Ext ρ h w ρ' h1 w' → FRel ρ' fr1 { a with defers := { target := .collected D, args := #[] } :: a.defers } → ρ' h.next = some bi → bi.blk = D → w.heap.size ≤ D → D < w'.heap.size → w'.heap[D]? = some (.deferred (some [])) → ¬ Owned ρ' h1 D → Q .normal { a with defers := { target := .collected D, args := #[] } :: a.defers } w') :
    (Code.rangeFunc g ps asg bd).wp P Q a w := by
  have hnx := arng_next ok hd hc hl e
  have hR : ¬ X.R h.next := fun hh => by have := hB.2 _ hh; omega
  unfold arng at e
  split at e
  rotate_left
  · cases e
  rename_i gf first cap hg
  obtain ⟨hfirst, e⟩ := bif_some e
  have hf0 : first = #[] := by
    have := beq_tt.1 hfirst
    simpa using this
  subst hf0
  have hgv := aeval_rel r hf _ _ hg
  obtain ⟨fst', cap', hge, hv1, hv2⟩ := hgv.inv_func
  have hfst' : fst' = #[] := by
    have := hv1.length
    simp at this
    exact Array.eq_empty_of_size_eq_zero this.symm
  subst hfst'
  split at e
  · cases e
  rename_i fn hfn
  split at e
  · cases e
  rename_i c hbody
  split at e
  · cases e
  rename_i t hinit
  split at e
  · cases e
  rename_i x fr2 h2 hrun
  have hdd : a.defers = [] := by
    have := hf.3
    rw [hfd] at this
    generalize a.defers = dd at this
    cases this; rfl
  refine (wpIn_wide (n := 0)).1 (wpIn_rangeFunc fun fnn _ => ?_)
  obtain ⟨rec, hrec⟩ : ∃ rec : LoopState → Loop, rec = fun st => { state := st, pending := none, fn := fnn, tmps := a.tmps, params := ps, assign := asg, body := bd, defers := w.heap.size } := ⟨_, rfl⟩
  let W1 := (w.alloc (.deferred (some []))).alloc (.loop (rec .ready))
  have hK1 : W1.heap[w.heap.size]? = some (.deferred (some [])) := by
    show ((w.heap.push _).push _)[w.heap.size]? = _
    rw [Array.getElem?_push, if_neg (by simp), Array.getElem?_push, if_pos rfl]
  have hL1 : W1.heap[w.heap.size + 1]? = some (.loop (rec .ready)) := by
    show ((w.heap.push _).push _)[w.heap.size + 1]? = _
    rw [Array.getElem?_push, if_pos (by simp)]
  have hsz1 : W1.heap.size = w.heap.size + 2 := by show ((w.heap.push _).push _).size = _; simp
  have r1 : Rel X ρ h W1 := (r.allocBare _).allocBare _
  have x1 : Ext ρ h w ρ h W1 := (Ext.allocBare ρ h w _).trans (Ext.allocBare ρ h _ _)
  have hfree : ∀ b, w.heap.size ≤ b → ∀ n bi, ρ n = some bi → bi.blk ≠ b := fun b hb n bi hn => by have := r.blk n bi hn; omega
  obtain ⟨r2, x2, o2⟩ := r1.bump hR (b := w.heap.size) (by omega) (hfree _ (Nat.le_refl _))
  have oL : ¬ Owned (ρ.upd h.next ⟨w.heap.size, 0, 0, 0⟩) h.bump (w.heap.size + 1) := by
    intro ho
    rcases x2.ownm _ ho with hh | ⟨m, o, bi, g1, g2, g3, g4⟩
    · omega
    · exact hfree _ (by omega) m bi g3 g4
  refine ⟨w.heap.size + 1, [{ target := .collected w.heap.size, args := #[] }], W1, { target := .fn (.func gf) cap', args := #[.func (.yield (w.heap.size + 1)) #[] #[]] }, W1, gf,
    #[.func (.yield (w.heap.size + 1)) #[] #[]] ++ cap', W1, ?_, ?_, fun _ _ => trivial, ?_, fun hh => by simp [Fence.wide] at hh, ?_⟩
  · show (Instr.enterLoop fnn a.tmps ps asg bd none).run P w = _
    rw [run_enterLoop_outer]; simp only [W1, hrec]
  · simp only [resolve, hge]
    simp [go_sem]
  · simp only [invoke]; exact callFunc_body ok hfn hbody _
  · refine callsIn_wide.2 ?_
    have hB2 : Room X W1 h2 := by
      refine ⟨by have := hB.1; omega, ?_⟩
      have : h2 = h1 := by
        split at e
        · split at e
          · split at e
            · cases e; rfl
            · cases e
          · cases e
        · split at e
          · split at e
            · cases e; rfl
            · cases e
          · cases e
        · cases e
      rw [this]; exact hB.2
    have main : (x = .normal ∨ x = .ret) → fr2.d = [] → (∃ v, aresults P fn fr2 h2 = some v) → h2 = h1 → fr1 = { fr with d := [(MARK, [.pointer (some ⟨h.next, 0, some 0⟩)])] } →
        Calls P gf (#[.func (.yield (w.heap.size + 1)) #[] #[]] ++ cap') W1 (rangePost Fence.wide 0 P (w.heap.size + 1) Q { a with defers := [{ target := .collected w.heap.size, args := #[] }] ++ a.defers }) := by
      rintro hx hd2 ⟨v, hv⟩ rfl rfl
      refine calls_of_wp hfn hbody (arunC_sound ok hd hc hl hrun (iter_rel (fn := fn) hinit (hv2.mono x2.le)) trivial r2 hB2 _ fun ex a' w3 ho => ?_)
      obtain ⟨ρ3, o1, o3, _, r3, x3⟩ := ho
      have hd0 : a'.defers = [] := by
        have := o3.3
        rw [hd2] at this
        generalize a'.defers = dd at this
        cases this; rfl
      obtain ⟨v', q1, _⟩ := aresults_sound (P := P) r3 o3 hv
      have x13 := x1.trans (x2.trans x3)
      obtain ⟨e1, e2⟩ := x3.bare (b := w.heap.size) (by omega) o2
      obtain ⟨e3, e4⟩ := x3.bare (b := w.heap.size + 1) (by omega) oL
      have hl3 : w3.heap[w.heap.size + 1]? = some (.loop (rec .ready)) := e3.trans hL1
      have hsz3 := x3.size
      have hN : ρ3 h.next = some ⟨w.heap.size, 0, 0, 0⟩ := x3.le _ _ Rho.upd_same
      have post : rangePost Fence.wide 0 P (w.heap.size + 1) Q { a with defers := [{ target := .collected w.heap.size, args := #[] }] ++ a.defers } (.returned v') w3 := by
        refine ⟨none, _, by rw [run_endLoop hl3 (by rw [hrec]; simp)]; rw [hrec], ?_⟩
        refine hQ ρ3 _ w.heap.size ⟨w.heap.size, 0, 0, 0⟩ (r3.putBare e4 (by have := hB.1; omega) _) (x13.putBehind (by omega) _) ⟨hf.1, fun t v ht => (hf.2 t v ht).mono x13.le, ?_⟩ hN rfl (Nat.le_refl _) (by rw [World.putObj_size]; omega) ?_ e2
        · rw [hdd]
          exact DR.mark hN .nil
        · rw [World.putObj_heap_other (by omega), e1]; exact hK1
      have bp : bodyPost P fn (rangePost Fence.wide 0 P (w.heap.size + 1) Q { a with defers := [{ target := .collected w.heap.size, args := #[] }] ++ a.defers }) .normal a' w3 := ⟨hd0, v', q1, post⟩
      rcases hx with hx | hx
      · simp only [hx] at o1; cases ex <;> first | exact o1.elim | exact bp
      · simp only [hx] at o1; cases ex <;> first | exact o1.elim | exact bp
    split at e
    · split at e
      · rename_i hd2
        split at e
        · rename_i v hv; cases e; exact main (.inl rfl) hd2 ⟨v, hv⟩ rfl rfl
        · cases e
      · cases e
    · split at e
      · rename_i hd2
        split at e
        · rename_i v hv; cases e; exact main (.inr rfl) hd2 ⟨v, hv⟩ rfl rfl
        · cases e
      · cases e
    · cases e
end
end Go.VII
