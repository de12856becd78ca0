/- Functions that have no body: atomics, marks of the race detector. -/
import Derived.Test.YtafaeibcpanaeaaGreatDoorV22
import Derived.Laws.LoneSync
namespace Go.VII
noncomputable section
variable {P : Program} {X : Cx} {ρ : Rho} {h : AH} {w : World} {f : FuncId} {fn : Func} {G : GS}
def SpecOk (P : Program) (G : GS) (f : FuncId) (sp : Spec) : Prop :=
  ∀ args h v h1, sp args h = some (v, h1) → h.next ≤ h1.next ∧ ∀ (X : Cx) ρ w args', X.G = G → Rel X ρ h w → Room X w h1 → VRL ρ args args' →
    ∃ v' w' ρ', (callFunc f args'.toArray).run P w = .ok (.value v') w' ∧ VR ρ' v v' ∧ Rel X ρ' h1 w' ∧ Ext ρ h w ρ' h1 w'
def acell (h : AH) (n o : Nat) : Option Value :=
  match h.get n with
  | some (.cells _ true c) => c.get o
  | _ => none
theorem acell_real (r : Rel X ρ h w) {n o : Nat} {bi : BI} (hb : ρ n = some bi) {k : IntKind} {x : Int} (e : acell h n o = some (.int k x)) :
    w.cell? ⟨bi.blk, bi.base + o, none⟩ = some (.int k x) ∧ w.frozen? ⟨bi.blk, bi.base + o, none⟩ = false := by
  unfold acell at e
  split at e
  · rename_i esz c hg
    obtain ⟨_, rc, ty, fz, h1, h2, h3, h4, h5⟩ := r.cellsAt hg hb
    obtain ⟨v', g1, g2⟩ := h4 o _ e
    have hv := g2.flat_eq rfl
    subst hv
    have hlt : bi.base + o < rc.size := (Array.getElem?_eq_some_iff.1 g1).1
    constructor
    · simp [World.cell?, h1, g1]
    · have := h5 rfl (bi.base + o) hlt
      obtain ⟨lo, hi⟩ := fz
      simp only [World.frozen?, h1]
      simp only at this
      simpa using this
  · cases e
theorem astore_one (r : Rel X ρ h w) {n o : Nat} {bi : BI} (hb : ρ n = some bi) {k j : IntKind} {x y : Int} (e : acell h n o = some (.int k x)) {h1 : AH} (e1 : astoreAt h n o [.int j y] = some h1) :
    Rel X ρ h1 (w.setCell ⟨bi.blk, bi.base + o, none⟩ (.int j y)) ∧ Ext ρ h w ρ h1 (w.setCell ⟨bi.blk, bi.base + o, none⟩ (.int j y)) := by
  obtain ⟨q1, q2⟩ := acell_real r hb e
  obtain ⟨w', g1, g2, g3⟩ := astoreAt_sound (P := default) r e1 hb (cs' := [.int j y]) (.cons (.flat rfl) .nil)
  have : (storeCells ⟨bi.blk, bi.base + o, none⟩ [.int j y]).run default w = .ok () (w.setCell ⟨bi.blk, bi.base + o, none⟩ (.int j y)) := by
    simp only [storeCells, Addr.add, Nat.add_zero, Sem.run_bind, if_true]
    rw [run_store _ _ _ _ _ rfl, q1]
    simp [q2]
  rw [this] at g1
  cases g1
  exact ⟨g2, g3⟩
theorem astoreAt_nx {n o : Nat} {l : List Value} {h1 : AH} (e : astoreAt h n o l = some h1) : h.next ≤ h1.next := astoreAt_next e
def atLoad (k : IntKind) : Spec := fun args h => match args with
  | [.pointer (some ⟨n, o, none⟩)] => (match acell h n o with
    | some (.int k' x) => bif decide (k' = k) then some (.int k x, h) else none
    | _ => none)
  | _ => none
def atStore : Spec := fun args h => match args with
  | [.pointer (some ⟨n, o, none⟩), .int k y] => (match acell h n o with
    | some (.int _ _) => (match astoreAt h n o [.int k y] with
      | some h1 => some (.tuple #[], h1)
      | none => none)
    | _ => none)
  | _ => none
def atCas (k : IntKind) : Spec := fun args h => match args with
  | [.pointer (some ⟨n, o, none⟩), .int k1 x, .int k2 y] => bif decide (k1 = k) && decide (k2 = k) then (match acell h n o with
    | some (.int k' z) => bif decide (k' = k) then
        (bif decide (z = x) then (match astoreAt h n o [.int k y] with
          | some h1 => some (.bool true, h1)
          | none => none) else some (.bool false, h)) else none
    | _ => none) else none
  | _ => none
def atAdd (k : IntKind) : Spec := fun args h => match args with
  | [.pointer (some ⟨n, o, none⟩), .int k1 y] => bif decide (k1 = k) then (match acell h n o with
    | some (.int k' x) => bif decide (k' = k) then
        (match astoreAt h n o [.int k (iwrap k (x + y))] with
          | some h1 => some (.int k (iwrap k (x + y)), h1)
          | none => none) else none
    | _ => none) else none
  | _ => none
def atNone : Spec := fun args h => match args with
  | [] => some (.tuple #[], h)
  | _ => none
def atMark : Spec := fun args h => match args with
  | [.pointer (some ⟨_, _, none⟩)] => some (.tuple #[], h)
  | _ => none
theorem ptr_args {n o : Nat} {l : List Value} {args' : List Value} (ha : VRL ρ (.pointer (some ⟨n, o, none⟩) :: l) args') : ∃ bi l', ρ n = some bi ∧ args' = .pointer (some ⟨bi.blk, bi.base + o, none⟩) :: l' ∧ VRL ρ l l' := by
  cases ha with
  | cons a b =>
    obtain ⟨bi, hb, rfl, _⟩ := a.pointer
    exact ⟨bi, _, hb, rfl, b⟩
section
variable (hf : P.funcs[f]? = some fn) (hname : (fn.name == "runtime.NumGoroutine") = false) (hb : fn.body.isNone = true) (hn : Extern.findNext fn = none)
include hf hname hb hn
theorem atLoad_ok (k : IntKind) (he : Extern.find fn = some (Extern.Atomic.loadT (.int k))) : SpecOk P G f (atLoad k) := by
  intro args h v h1 e
  unfold atLoad at e
  split at e
  · rename_i n o
    split at e
    · rename_i k' x hc
      obtain ⟨e1, e2⟩ := bif_some e
      simp only [decide_eq_true_eq] at e1; subst e1
      simp only [Option.some.injEq, Prod.mk.injEq] at e2
      obtain ⟨rfl, rfl⟩ := e2
      refine ⟨Nat.le_refl _, fun X ρ w args' hG r hB ha => ?_⟩
      obtain ⟨bi, l', hbi, rfl, ha'⟩ := ptr_args ha
      cases ha'
      exact ⟨_, w, ρ, run_call_load hf hname hb hn _ he (acell_real r hbi hc).1, .flat rfl, r, .refl _ _ _⟩
    · cases e
  · cases e
theorem atStore_ok (he : Extern.find fn = some Extern.Atomic.storeT) : SpecOk P G f atStore := by
  intro args h v h1 e
  unfold atStore at e
  split at e
  · rename_i n o k y
    split at e
    · rename_i k' x hc
      split at e
      · rename_i h2 hs
        simp only [Option.some.injEq, Prod.mk.injEq] at e
        obtain ⟨rfl, rfl⟩ := e
        refine ⟨astoreAt_nx hs, fun X ρ w args' hG r hB ha => ?_⟩
        obtain ⟨bi, l', hbi, rfl, ha'⟩ := ptr_args ha
        cases ha' with
        | cons p q =>
          cases q
          have := p.flat_eq rfl
          subst this
          obtain ⟨q1, q2⟩ := acell_real r hbi hc
          obtain ⟨g1, g2⟩ := astore_one r hbi hc hs
          exact ⟨_, _, ρ, run_call_store hf hname hb hn he q1 q2, .tuple .nil, g1, g2⟩
      · cases e
    · cases e
  · cases e
theorem atCas_ok (k : IntKind) (he : Extern.find fn = some (Extern.Atomic.casT (.int k))) : SpecOk P G f (atCas k) := by
  intro args h v h1 e
  unfold atCas at e
  split at e
  · rename_i n o k1 x k2 y
    obtain ⟨e1, e2⟩ := bif_some e
    simp only [Bool.and_eq_true, decide_eq_true_eq] at e1
    obtain ⟨rfl, rfl⟩ := e1
    split at e2
    · rename_i k' z hc
      obtain ⟨e3, e4⟩ := bif_some e2
      simp only [decide_eq_true_eq] at e3; subst e3
      by_cases hzx : z = x
      · subst hzx
        simp only [decide_true, cond_true] at e4
        split at e4
        · rename_i h2 hs
          simp only [Option.some.injEq, Prod.mk.injEq] at e4
          obtain ⟨rfl, rfl⟩ := e4
          refine ⟨astoreAt_nx hs, fun X ρ w args' hG r hB ha => ?_⟩
          obtain ⟨bi, l', hbi, rfl, ha'⟩ := ptr_args ha
          cases ha' with
          | cons p q =>
            cases q with
            | cons p2 q =>
              cases q
              have h1 := p.flat_eq rfl
              have h2 := p2.flat_eq rfl
              subst h1; subst h2
              obtain ⟨q1, q2⟩ := acell_real r hbi hc
              obtain ⟨g1, g2⟩ := astore_one r hbi hc hs
              exact ⟨_, _, ρ, run_call_cas_hit hf hname hb hn _ he q1 q2, .flat rfl, g1, g2⟩
        · cases e4
      · simp only [hzx, decide_false, cond_false, Option.some.injEq, Prod.mk.injEq] at e4
        obtain ⟨rfl, rfl⟩ := e4
        refine ⟨Nat.le_refl _, fun X ρ w args' hG r hB ha => ?_⟩
        obtain ⟨bi, l', hbi, rfl, ha'⟩ := ptr_args ha
        cases ha' with
        | cons p q =>
          cases q with
          | cons p2 q =>
            cases q
            have h1 := p.flat_eq rfl
            have h2 := p2.flat_eq rfl
            subst h1; subst h2
            obtain ⟨q1, q2⟩ := acell_real r hbi hc
            exact ⟨_, w, ρ, run_call_cas_miss hf hname hb hn _ he q1 q2 hzx, .flat rfl, r, .refl _ _ _⟩
    · cases e2
  · cases e
theorem atAdd_ok (k : IntKind) (he : Extern.find fn = some (Extern.Atomic.update (Op.intArith .add) k true)) : SpecOk P G f (atAdd k) := by
  intro args h v h1 e
  unfold atAdd at e
  split at e
  · rename_i n o k1 y
    obtain ⟨e1, e2⟩ := bif_some e
    simp only [decide_eq_true_eq] at e1; subst e1
    split at e2
    · rename_i k' x hc
      obtain ⟨e3, e4⟩ := bif_some e2
      simp only [decide_eq_true_eq] at e3; subst e3
      split at e4
      · rename_i h2 hs
        simp only [Option.some.injEq, Prod.mk.injEq] at e4
        obtain ⟨rfl, rfl⟩ := e4
        refine ⟨astoreAt_nx hs, fun X ρ w args' hG r hB ha => ?_⟩
        obtain ⟨bi, l', hbi, rfl, ha'⟩ := ptr_args ha
        cases ha' with
        | cons p q =>
          cases q
          have h1 := p.flat_eq rfl
          subst h1
          obtain ⟨q1, q2⟩ := acell_real r hbi hc
          obtain ⟨g1, g2⟩ := astore_one r hbi hc hs
          exact ⟨_, _, ρ, run_call_add hf hname hb hn _ he q1 q2 (by simp [Op.intArith, iwrap_eq]), .flat rfl, g1, g2⟩
      · cases e4
    · cases e2
  · cases e
theorem atMark0_ok (m : Mark) (he : Extern.find fn = some (fun _ => do mark m; pure Extern.Race.none_)) : SpecOk P G f atNone := by
  intro args h v h1 e
  unfold atNone at e
  split at e
  · simp only [Option.some.injEq, Prod.mk.injEq] at e
    obtain ⟨rfl, rfl⟩ := e
    refine ⟨Nat.le_refl _, fun X ρ w args' hG r hB ha => ?_⟩
    cases ha
    exact ⟨_, w, ρ, run_call_mark0 hf hname hb hn m he w, .tuple .nil, r, .refl _ _ _⟩
  · cases e
theorem atMark_ok (m : Addr → Mark) (he : Extern.find fn = some (Extern.Race.marked m)) : SpecOk P G f atMark := by
  intro args h v h1 e
  unfold atMark at e
  split at e
  · simp only [Option.some.injEq, Prod.mk.injEq] at e
    obtain ⟨rfl, rfl⟩ := e
    refine ⟨Nat.le_refl _, fun X ρ w args' hG r hB ha => ?_⟩
    obtain ⟨bi, l', hbi, rfl, ha'⟩ := ptr_args ha
    cases ha'
    exact ⟨_, w, ρ, run_call_marked hf hname hb hn m he _ w, .tuple .nil, r, .refl _ _ _⟩
  · cases e
end
/-- A table of contracts. -/
def extOf : List (FuncId × Spec) → FuncId → Option Spec
  | [], _ => none
  | (g, sp) :: l, f => bif Nat.beq g f then some sp else extOf l f
theorem extOf_mem : ∀ {l : List (FuncId × Spec)} {f : FuncId} {sp : Spec}, extOf l f = some sp → (f, sp) ∈ l
  | (g, s) :: l, f, sp, e => by
    simp only [extOf] at e
    cases hb : Nat.beq g f with
    | true =>
      rw [hb] at e; simp only [cond_true, Option.some.injEq] at e
      have := beq_tt.1 hb
      subst this; subst e; simp
    | false => rw [hb] at e; have := extOf_mem (l := l) e; simp [this]
theorem Okay.of {l : List (FuncId × Spec)} (hsy : SymOk P G (extOf l)) (hl : ∀ p ∈ l, SpecOk P G p.1 p.2) (hnames : ∀ (f : FuncId) (fn : Func), P.funcs[f]? = some fn → (fn.name == "runtime.NumGoroutine") = false) : Okay P G (extOf l) where
  sym := hsy
  next := fun _ _ hf args h v h1 e => (hl _ (extOf_mem hf) args h v h1 e).1
  names := hnames
  ext := fun _ _ _ _ _ hf args h v h1 e X ρ w args' hG r hB ha => (hl _ (extOf_mem hf) args h v h1 e).2 X ρ w args' hG r hB ha
end
end Go.VII
