/- One function's body over calls that are known; from a run over the empty heap to a call. -/
import Derived.Test.YtafaeibcpanaeaaGreatDoorV27
import Derived.Below
namespace Go.VII
noncomputable section
variable {P : Program} {X : Cx} {ρ : Rho} {h : AH} {w : World} {ext : FuncId → Option Spec}
open Go.RowKit
theorem acallBody_sound {G : GS} {dr : DrawF} {s : Sm} (ok : Okay P G ext) (hd : DrawSound P G dr) (hx : ExtCalls P G ext) (hc : CallSound P G s.call) (hl : LoopSound P G s.loop) (hdc : DCallSound P G s.dcall) : CallSound P G (acallBody P G ext dr s) := by
  intro f args h res e
  simp only [acallBody, arunQ_eq] at e
  split at e
  · cases e
  · rename_i fn hfn
    split at e
    · rename_i sp hsp
      split at e
      · cases e
      · rename_i v h1 hs
        cases e
        exact ⟨fun fn' h1' h2' X ρ w args' hG r hB ha => hx f fn' sp h1' h2' hsp args h v h1 hs X ρ w args' hG r hB ha, ok.next f sp hsp args h v h1 hs⟩
    · split at e
      · cases e
      · rename_i c hbody
        split at e
        · cases e
        · rename_i fr hinit
          split at e
          · cases e
          · rename_i x fr1 h1 hrun
            have hnx := arunC_next ok hd hc hl hrun
            have main : ∀ m, aleave P fn s.dcall fr1.d m fr1 h1 = some res → ((x = .normal ∨ x = .ret) ∧ m = .ret ∨ ∃ v, x = .panic v ∧ m = .pan v) →
                (∀ fn', P.funcs[f]? = some fn' → fn'.body.isSome = true → ∀ (X : Cx) ρ w args', X.G = G → Rel X ρ h w → Room X w res.heap → VRL ρ args args'.toList → Calls P f args' w (CPost X ρ h w res)) ∧ h.next ≤ res.heap.next := by
              intro m hlv hxm
              obtain ⟨l1, l2⟩ := aleave_sound ok hdc hlv
              refine ⟨fun fn' _ _ X ρ w args' hG r hB ha => ?_, Nat.le_trans hnx l1⟩
              subst hG
              refine calls_of_wp_defers hfn hbody (arunC_sound ok hd hc hl hrun (ainit_rel hinit ha) trivial r (hB.of (Nat.le_refl _) l1) _ fun ex a' w' ho => ?_)
              obtain ⟨ρ1, o1, o2, _, o4, o5⟩ := ho
              have fin : ∀ u, MR ρ1 m u → Leaves P fn a'.tmps (CPost X ρ h w res) a'.defers u w' := fun u hm =>
                l2 X ρ1 w' a' a'.defers u rfl o2 o2.3 o4 (hB.of o5.size (Nat.le_refl _)) hm _ fun e2 w2 hp => hp.trans o5
              rcases hxm with ⟨hx | hx, rfl⟩ | ⟨v, hx, rfl⟩
              · simp only [hx] at o1; cases ex <;> first | exact o1.elim | exact fin _ rfl
              · simp only [hx] at o1; cases ex <;> first | exact o1.elim | exact fin _ rfl
              · simp only [hx] at o1
                obtain ⟨v', p1, p2⟩ := o1
                subst p2
                exact fin _ ⟨v', p1, rfl⟩
            split at e
            · exact main _ e (.inl ⟨.inl rfl, rfl⟩)
            · exact main _ e (.inl ⟨.inr rfl, rfl⟩)
            · exact main _ e (.inr ⟨_, rfl, rfl⟩)
            · cases e

/-- The names of the unknown ones, and no other. -/
def Rho.syms (G : GS) : Rho := fun n => G.s n
def Cx.start (G : GS) (w : World) : Cx := { G, B := w.heap.size, R := fun n => (G.s n).isSome = true }
theorem Rel.start {G : GS} (hg : G.g = 0) (hs : ∀ n bi, G.s n = some bi → bi.blk < w.heap.size) : Rel (Cx.start G w) (Rho.syms G) (AH.void G) w := by
  refine ⟨fun n o e => ?_, fun n o bi e => ?_, fun n bi e => .inr ?_, fun n bi e => hs n bi e, ⟨fun g hgg => ?_, fun n bi e => e⟩, fun n o e => ?_, fun n o bi e => ?_⟩
  · rw [AH.void_get] at e; cases e
  · rw [AH.void_get] at e; cases e
  · show (G.s n).isSome = true
    have e' : G.s n = some bi := e
    rw [e']; rfl
  · have : g < G.g := hgg
    omega
  · rw [AH.void_get] at e; cases e
  · rw [AH.void_get] at e; cases e
/-- A run over the empty heap is a call that turns nothing that lay there. -/
theorem calls_of_run {G : GS} (hg : G.g = 0) (hs : ∀ n bi, G.s n = some bi → bi.blk < w.heap.size) {call : CallF} (hc : CallSound P G call) {f : FuncId} {fn : Func} (hf : P.funcs[f]? = some fn) (hb : fn.body.isSome = true)
    {args : List Value} {args' : Array Value} (ha : VRL (Rho.syms G) args args'.toList) {v : Value} {h1 : AH} (e : call f args (AH.void G) = some (.ret v h1)) (hfl : isFlat v = true) (hlim : h1.next ≤ LIMIT) :
    Calls P f args' w fun e w' => e = .returned v ∧ Below w.heap.size w w' := by
  refine ((hc _ _ _ _ e).1 fn hf hb (Cx.start G w) (Rho.syms G) w args' rfl (Rel.start hg hs) ⟨Nat.le_refl _, fun n hn => ?_⟩ ha).mono fun en w' hp => ?_
  · have hh' : (G.s n).isSome = true := hn
    obtain ⟨bi, hbi⟩ := Option.isSome_iff_exists.1 hh'
    exact Nat.le_trans hlim (G.hs n bi hbi)
  · obtain ⟨v', ρ', rfl, p1, _, p3⟩ := hp
    refine ⟨by rw [p1.flat_eq hfl], p3.os, p3.tape, p3.output, p3.size, fun b hb => p3.fr b hb ?_⟩
    rintro ⟨n, o, bi, g1, _⟩
    rw [AH.void_get] at g1; cases g1
/-- Less is known of the heap. -/
structure Less (h' h : AH) : Prop where
  next : h'.next = h.next
  objs : ∀ n o', h'.get n = some o' → ∃ o, h.get n = some o ∧ o.own = o'.own ∧ ∀ (ρ : Rho) bi ro, OR ρ bi o ro → OR ρ bi o' ro
theorem Less.refl (h : AH) : Less h h := ⟨rfl, fun _ o e => ⟨o, e, rfl, fun _ _ _ x => x⟩⟩
theorem Less.owned {h' h : AH} (l : Less h' h) {b : Nat} (o : Owned ρ h' b) : Owned ρ h b := by
  obtain ⟨n, o', bi, g1, g2, g3, g4⟩ := o
  obtain ⟨o, k1, k2, _⟩ := l.objs n o' g1
  exact ⟨n, o, bi, k1, k2.trans g2, g3, g4⟩
theorem Rel.less {h' : AH} (r : Rel X ρ h w) (l : Less h' h) : Rel X ρ h' w := by
  refine ⟨fun n o' e => ?_, fun n o' bi e ho hb => ?_, fun n bi e => ?_, r.blk, r.glob, fun n o' e => ?_, fun n o' bi e ho hb => ?_⟩
  · obtain ⟨o, k1, _⟩ := l.objs n o' e
    rw [l.next]; exact r.low n o k1
  · obtain ⟨o, k1, k2, _⟩ := l.objs n o' e
    exact r.ro n o bi k1 (k2.trans ho) hb
  · rw [l.next]; exact r.dom n bi e
  · obtain ⟨o, k1, _, k3⟩ := l.objs n o' e
    obtain ⟨bi, q1, q2⟩ := r.objs n o k1
    exact ⟨bi, q1, k3 _ _ _ q2⟩
  · obtain ⟨o, k1, k2, _⟩ := l.objs n o' e
    obtain ⟨q1, q2⟩ := r.own n o bi k1 (k2.trans ho) hb
    refine ⟨q1, fun m o'' bj g1 g2 g3 => ?_⟩
    obtain ⟨o3, k4, _⟩ := l.objs m o'' g1
    exact q2 m o3 bj k4 g2 g3
theorem Ext.less {ρ' : Rho} {h1 h1' : AH} {w' : World} (x : Ext ρ h w ρ' h1 w') (l : Less h1' h1) : Ext ρ h w ρ' h1' w' :=
  ⟨fun n bi e => by rw [l.next]; exact x.doms n bi e, x.le, by rw [l.next]; exact x.next, x.size, x.fr, fun b hb => x.ownm b (l.owned hb), x.tape, x.os, x.output⟩
/-- One row of cells alone is kept. -/
def AH.keep1 (next n : Nat) (esz : Nat) (l : List Value) : AH := { next, tr := .one n (.cells esz true (Cells.ofList l)) }
theorem Less.keep1 {next n esz : Nat} {l : List Value} (hn : h.next = next) {c : Cells} (hg : h.get n = some (.cells esz true c)) (hs : c.size = l.length) (hc : ∀ i v, l[i]? = some v → c.get i = some v) : Less (AH.keep1 next n esz l) h := by
  refine ⟨hn.symm, fun m o' e => ?_⟩
  have e' : Tr.get DEP (Tr.one n (AObj.cells esz true (Cells.ofList l))) m = some o' := e
  rw [Tr.get_one] at e'
  split at e'
  · rename_i hm
    cases e'
    obtain ⟨rfl, _⟩ := hm
    refine ⟨_, hg, rfl, fun ρ bi ro ho => ?_⟩
    obtain ⟨h0, rc, ty, fz, g1, g2, g3, g4, g5⟩ := ho
    have hsz : (Cells.ofList l).size = l.length := rfl
    refine ⟨h0, rc, ty, fz, g1, g2, by rw [hsz, ← hs]; exact g3, fun i v hi => ?_, g5⟩
    rw [Cells.get_ofList] at hi
    exact g4 i v (hc i v hi)
  · cases e'
end
end Go.VII
