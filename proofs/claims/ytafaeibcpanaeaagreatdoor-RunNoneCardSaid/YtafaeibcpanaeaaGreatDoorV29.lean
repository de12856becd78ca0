/- Layers of contracts; a body cut in two; a row of operations cut in two. -/
import Derived.Test.YtafaeibcpanaeaaGreatDoorV28
namespace Go.VII
noncomputable section
variable {P : Program} {X : Cx} {ρ : Rho} {h : AH} {w : World} {ext : FuncId → Option Spec} {G : GS}
/-- One entry of the table of contracts. -/
structure EntOk (P : Program) (G : GS) (f : FuncId) (sp : Spec) : Prop where
  low : f < SYMB
  next : ∀ args h v h1, sp args h = some (v, h1) → h.next ≤ h1.next
  bare : ∀ fn, P.funcs[f]? = some fn → fn.body = none → SpecOk P G f sp
  body : ∀ fn, P.funcs[f]? = some fn → fn.body.isSome = true → ∀ args h v h1, sp args h = some (v, h1) → ∀ (X : Cx) ρ w args', X.G = G → Rel X ρ h w → Room X w h1 → VRL ρ args args'.toList → Calls P f args' w (CPost X ρ h w (.ret v h1))
theorem EntOk.ofBare {f : FuncId} {sp : Spec} {fn : Func} (hlow : f < SYMB) (hf : P.funcs[f]? = some fn) (hb : fn.body = none) (hs : SpecOk P G f sp) : EntOk P G f sp where
  low := hlow
  next := fun args h v h1 e => (hs args h v h1 e).1
  bare := fun _ _ _ => hs
  body := fun fn' hf' hb' => by rw [hf] at hf'; cases hf'; rw [hb] at hb'; cases hb'
theorem EntOk.ofBody {f : FuncId} {sp : Spec} {fn : Func} (hlow : f < SYMB) (hf : P.funcs[f]? = some fn) (hb : fn.body.isSome = true)
    (hs : ∀ args h v h1, sp args h = some (v, h1) → h.next ≤ h1.next ∧ ∀ (X : Cx) ρ w args', X.G = G → Rel X ρ h w → Room X w h1 → VRL ρ args args'.toList → Calls P f args' w (CPost X ρ h w (.ret v h1))) : EntOk P G f sp where
  low := hlow
  next := fun args h v h1 e => (hs args h v h1 e).1
  bare := fun fn' hf' hb' => by rw [hf] at hf'; cases hf'; rw [hb'] at hb; cases hb
  body := fun _ _ _ args h v h1 e => (hs args h v h1 e).2
def extL (T : List TRow) (l : List (FuncId × Spec)) : FuncId → Option Spec := extT T (extOf l)
theorem extL_ent {T : List TRow} {l : List (FuncId × Spec)} (hl : ∀ p ∈ l, EntOk P G p.1 p.2) {f : FuncId} {sp : Spec} (e : extL T l f = some sp) : (SYMB ≤ f ∧ ∀ args h v h1, sp args h = some (v, h1) → h1 = h) ∨ EntOk P G f sp := by
  unfold extL extT at e
  cases hb : Nat.ble SYMB f with
  | true =>
    rw [hb] at e
    simp only [cond_true, Option.some.injEq] at e
    subst e
    refine .inl ⟨Nat.le_of_ble_eq_true hb, fun args h v h1 e => ?_⟩
    simp only at e
    split at e
    · cases e; rfl
    · cases e
  | false => rw [hb] at e; exact .inr (hl _ (extOf_mem e))
theorem okay_of {T : List TRow} {l : List (FuncId × Spec)} (hT : ∀ t ∈ T, RowOk G t) (hl : ∀ p ∈ l, EntOk P G p.1 p.2) (hsize : P.funcs.size ≤ SYMB) (hnames : ∀ (f : FuncId) (fn : Func), P.funcs[f]? = some fn → (fn.name == "runtime.NumGoroutine") = false) :
    Okay P G (extL T l) ∧ ExtCalls P G (extL T l) := by
  have hbig : ∀ f fn, SYMB ≤ f → P.funcs[f]? = some fn → False := fun f fn hf e => by
    have := (Array.getElem?_eq_some_iff.1 e).1
    omega
  refine ⟨⟨SymOk.of hT, fun f sp hf args h v h1 e => ?_, hnames, fun f fn sp hf hb he args h v h1 e X ρ w args' hG r hB ha => ?_⟩, fun f fn sp hf hb he args h v h1 e X ρ w args' hG r hB ha => ?_⟩
  · rcases extL_ent hl hf with ⟨_, hh⟩ | hh
    · rw [hh args h v h1 e]; exact Nat.le_refl _
    · exact hh.next args h v h1 e
  · rcases extL_ent hl he with ⟨hh, _⟩ | hh
    · exact (hbig f fn hh hf).elim
    · exact (hh.bare fn hf hb args h v h1 e).2 X ρ w args' hG r hB ha
  · rcases extL_ent hl he with ⟨hh, _⟩ | hh
    · exact (hbig f fn hh hf).elim
    · exact hh.body fn hf hb args h v h1 e X ρ w args' hG r hB ha
def drL (P : Program) (G : GS) (T : List TRow) (l : List (FuncId × Spec)) : DrawF := adr P G (extL T l)
def semL (P : Program) (G : GS) (T : List TRow) (l : List (FuncId × Spec)) (k : Nat) : Sm := sem P G (extL T l) (fun _ => none) (drL P G T l) k
/-- What is asked of a program, once. -/
structure ProgOk (P : Program) : Prop where
  size : P.funcs.size ≤ SYMB
  names : ∀ (f : FuncId) (fn : Func), P.funcs[f]? = some fn → (fn.name == "runtime.NumGoroutine") = false
  mixed : P.follows .mixedOrders = true
theorem drL_sound (hp : ProgOk P) {T : List TRow} {l : List (FuncId × Spec)} (hT : ∀ t ∈ T, RowOk G t) (hl : ∀ p ∈ l, EntOk P G p.1 p.2) : DrawSound P G (drL P G T l) := adr_sound (okay_of hT hl hp.size hp.names).1 hp.mixed
theorem semL_sound (hp : ProgOk P) {T : List TRow} {l : List (FuncId × Spec)} (hT : ∀ t ∈ T, RowOk G t) (hl : ∀ p ∈ l, EntOk P G p.1 p.2) (k : Nat) :
    CallSound P G (semL P G T l k).call ∧ LoopSound P G (semL P G T l k).loop ∧ DCallSound P G (semL P G T l k).dcall := by
  obtain ⟨ok, hx⟩ := okay_of hT hl hp.size hp.names
  exact sem_sound ok (adr_sound ok hp.mixed) hx (fun _ _ _ _ _ e => by cases e) (fun _ _ e => by cases e) k
theorem ProgOk.of {l : List Func} (hl : P.funcs.toList = l) (hs : Nat.ble l.length SYMB = true) (hn : l.all (fun fn => !(fn.name == "runtime.NumGoroutine")) = true) (hm : P.follows .mixedOrders = true) : ProgOk P := by
  refine ⟨by rw [← Array.length_toList, hl]; exact Nat.le_of_ble_eq_true hs, fun f fn e => ?_, hm⟩
  have hm : fn ∈ l := by rw [← hl]; exact Array.mem_toList_iff.2 (Array.mem_of_getElem? e)
  have := List.all_eq_true.1 hn fn hm
  simpa using this
/-! ### Code cut in two -/
def cutPre : Nat → Code → Code
  | 0, _ => .skip
  | n + 1, .seq a b => .seq a (cutPre n b)
  | _ + 1, c => c
def cutPost : Nat → Code → Code
  | 0, c => c
  | n + 1, .seq _ b => cutPost n b
  | _ + 1, _ => .skip
theorem seqK_normal (fr : AFr) (h : AH) (k : AFr → AH → Option Res) : seqK (some (.normal, fr, h)) k = k fr h := rfl
theorem arunQ_seq {dr : DrawF} {call : CallF} {loop : LoopF} (a b : Code) (fr : AFr) (h : AH) : arunQ P G ext dr call loop (.seq a b) fr h = seqK (arunQ P G ext dr call loop a fr h) (arunQ P G ext dr call loop b) := rfl
theorem arunQ_cut {dr : DrawF} {call : CallF} {loop : LoopF} : ∀ (n : Nat) (c : Code) {fr fr1 : AFr} {h h1 : AH}, arunQ P G ext dr call loop (cutPre n c) fr h = some (.normal, fr1, h1) → arunQ P G ext dr call loop c fr h = arunQ P G ext dr call loop (cutPost n c) fr1 h1
  | 0, c, fr, fr1, h, h1, e => by
    have : arunQ P G ext dr call loop (cutPre 0 c) fr h = some (.normal, fr, h) := rfl
    rw [this] at e; cases e; rfl
  | n + 1, .seq a b, fr, fr1, h, h1, e => by
    have e1 : cutPre (n + 1) (.seq a b) = .seq a (cutPre n b) := rfl
    have e2 : cutPost (n + 1) (.seq a b) = cutPost n b := rfl
    rw [e1, arunQ_seq] at e
    rw [arunQ_seq, e2]
    cases ha : arunQ P G ext dr call loop a fr h with
    | none => rw [ha] at e; cases e
    | some r =>
      obtain ⟨x, fr2, h2⟩ := r
      rw [ha] at e
      cases x with
      | normal => rw [seqK_normal] at e ⊢; exact arunQ_cut n b e
      | exit id => cases e
      | ret => cases e
      | panic v => cases e
  | n + 1, .skip, fr, fr1, h, h1, e | n + 1, .label _, fr, fr1, h, h1, e | n + 1, .region _ _ _, fr, fr1, h, h1, e | n + 1, .cond _ _ _, fr, fr1, h, h1, e | n + 1, .block _ _, fr, fr1, h, h1, e
  | n + 1, .scope _, fr, fr1, h, h1, e | n + 1, .loop _, fr, fr1, h, h1, e | n + 1, .exit _, fr, fr1, h, h1, e | n + 1, .ret, fr, fr1, h, h1, e | n + 1, .rangeFunc _ _ _ _, fr, fr1, h, h1, e | n + 1, .goto _, fr, fr1, h, h1, e | n + 1, .refuse _, fr, fr1, h, h1, e => by
    simp only [cutPre] at e
    rw [e]; rfl
/-! ### A row of operations cut in two -/
theorem arunL_cons {call : CallF} {ops : Array Oper} (o : Oper) (l : List Oper) (fr : AFr) (h : AH) : arunL P G ext call ops (o :: l) fr h = ostep P G ext call ops o (arunL P G ext call ops l) fr h := rfl
theorem ostep_go {call : CallF} {ops : Array Oper} {o : Oper} {k k' : AFr → AH → Option Res} {fr fr1 : AFr} {h h1 : AH} {r : Option Res} (hk : ∀ f2 h2, k f2 h2 = some (.normal, fr1, h1) → k' f2 h2 = r) (e : ostep P G ext call ops o k fr h = some (.normal, fr1, h1)) : ostep P G ext call ops o k' fr h = r := by
  unfold ostep at e ⊢
  split at e
  · cases e
  · split at e
    · cases e
    · exact hk _ _ e
  · split at e
    · cases e
    · split at e
      · cases e
      · exact hk _ _ e
    · cases e
    · split at e
      · cases e
      · exact hk _ _ e
    · split at e
      · cases e
      · cases e
      · split at e
        · cases e
        · exact hk _ _ e
theorem arunL_app {call : CallF} {ops : Array Oper} : ∀ (l m : List Oper) {fr fr1 : AFr} {h h1 : AH}, arunL P G ext call ops l fr h = some (.normal, fr1, h1) → arunL P G ext call ops (l ++ m) fr h = arunL P G ext call ops m fr1 h1
  | [], m, fr, fr1, h, h1, e => by
    have : arunL P G ext call ops [] fr h = some (.normal, fr, h) := rfl
    rw [this] at e; cases e; rfl
  | o :: l, m, fr, fr1, h, h1, e => by
    rw [arunL_cons] at e
    rw [List.cons_append, arunL_cons]
    exact ostep_go (fun f2 h2 hk => arunL_app l m hk) e
theorem arunL_call {call : CallF} {ops : Array Oper} {o : Oper} {l : List Oper} {fr fr1 : AFr} {h h1 : AH} {f : FuncId} {args : List Value} {v : Value} (hw : awanted ops fr o = some true) (ha : aopQ P ext (aeval G fr) o h = some (.enter f args)) (hc : call f args h = some (.ret v h1)) (hp : fput fr o.dst v = some fr1) :
    arunL P G ext call ops (o :: l) fr h = arunL P G ext call ops l fr1 h1 := by
  rw [arunL_cons]
  simp only [ostep, hw, ha, hc, hp]
end
end Go.VII
