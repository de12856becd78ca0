/- Code, loops, calls. -/
import Derived.Test.YtafaeibcpanaeaaGreatDoorV15
import Derived.Scope
import Derived.Defers
import Derived.Recover
namespace Go.VII
noncomputable section
variable {P : Program} {X : Cx} {ρ : Rho} {h : AH} {w : World} {ext : FuncId → Option Spec}
/-- How a region that draws its order is run. -/
abbrev DrawF := CallF → Array Oper → AFr → AH → Option Res
abbrev LoopF := Code → AFr → AH → Option Res
def arunC (P : Program) (G : GS) (ext : FuncId → Option Spec) (dr : DrawF) (call : CallF) (loop : LoopF) : Code → AFr → AH → Option Res
  | .skip, fr, h => some (.normal, fr, h)
  | .label _, fr, h => some (.normal, fr, h)
  | .region _ ops draw, fr, h => bif draw then dr call ops fr h else arunL P G ext call ops ops.toList fr h
  | .seq a b, fr, h => (match arunC P G ext dr call loop a fr h with
    | none => none
    | some (x, fr1, h1) => match x with
      | .normal => arunC P G ext dr call loop b fr1 h1
      | x => some (x, fr1, h1))
  | .cond c a b, fr, h => (match aeval G fr c with
    | some (.bool t) => bif t then arunC P G ext dr call loop a fr h else arunC P G ext dr call loop b fr h
    | _ => none)
  | .block id c, fr, h => (match arunC P G ext dr call loop c fr h with
    | none => none
    | some (x, fr1, h1) => match x with
      | .exit id' => bif Nat.beq id' id then some (.normal, fr1, h1) else some (.exit id', fr1, h1)
      | x => some (x, fr1, h1))
  | .scope c, fr, h => arunC P G ext dr call loop c fr h
  | .loop c, fr, h => loop c fr h
  | .exit id, fr, h => some (.exit id, fr, h)
  | .ret, fr, h => some (.ret, fr, h)
  | _, _, _ => none
/-- The same, by the code's kind first. -/
def seqK (r : Option Res) (k : AFr → AH → Option Res) : Option Res :=
  Option.rec (motive := fun _ => Option Res) none (fun p => Prod.rec (motive := fun _ => Option Res) (fun x q => Prod.rec (motive := fun _ => Option Res) (fun fr1 h1 => AExit.rec (motive := fun _ => Option Res) (k fr1 h1) (fun id => some (.exit id, fr1, h1)) (some (.ret, fr1, h1)) (fun v => some (.panic v, fr1, h1)) x) q) p) r
def condK (c : Option Value) (a b : AFr → AH → Option Res) (fr : AFr) (h : AH) : Option Res :=
  match c with
  | some (.bool t) => Bool.rec (motive := fun _ => Option Res) (b fr h) (a fr h) t
  | _ => none
def blockK (id : Nat) (r : Option Res) : Option Res :=
  match r with
  | none => none
  | some (x, fr1, h1) => match x with
    | .exit id' => bif Nat.beq id' id then some (.normal, fr1, h1) else some (.exit id', fr1, h1)
    | x => some (x, fr1, h1)
abbrev RunF := Program → GS → (FuncId → Option Spec) → DrawF → CallF → LoopF → AFr → AH → Option Res
def arunF (c : Code) : RunF :=
  Code.rec (motive := fun _ => RunF)
    (fun _ _ _ _ _ _ fr h => some (.normal, fr, h))
    (fun _ ops draw P G ext dr call _ fr h => Bool.rec (motive := fun _ => Option Res) (arunL P G ext call ops ops.toList fr h) (dr call ops fr h) draw)
    (fun _ _ ia ib P G ext dr call loop fr h => seqK (ia P G ext dr call loop fr h) (ib P G ext dr call loop))
    (fun c _ _ ia ib P G ext dr call loop fr h => condK (aeval G fr c) (ia P G ext dr call loop) (ib P G ext dr call loop) fr h)
    (fun id _ ib P G ext dr call loop fr h => blockK id (ib P G ext dr call loop fr h))
    (fun c _ _ _ _ _ _ loop fr h => loop c fr h)
    (fun _ _ _ _ _ _ _ _ _ _ _ _ _ _ => none)
    (fun id _ _ _ _ _ _ fr h => some (.exit id, fr, h))
    (fun _ ib P G ext dr call loop fr h => ib P G ext dr call loop fr h)
    (fun _ _ _ _ _ _ _ fr h => some (.normal, fr, h))
    (fun _ _ _ _ _ _ _ _ _ => none)
    (fun _ _ _ _ _ _ fr h => some (.ret, fr, h))
    (fun _ _ _ _ _ _ _ _ _ => none)
    c
def arunQ (P : Program) (G : GS) (ext : FuncId → Option Spec) (dr : DrawF) (call : CallF) (loop : LoopF) (c : Code) (fr : AFr) (h : AH) : Option Res := arunF c P G ext dr call loop fr h
theorem arunQ_eq (P : Program) (G : GS) (ext : FuncId → Option Spec) (dr : DrawF) (call : CallF) (loop : LoopF) : ∀ (c : Code) (fr : AFr) (h : AH), arunQ P G ext dr call loop c fr h = arunC P G ext dr call loop c fr h := by
  intro c
  induction c with
  | seq a b iha ihb =>
    intro fr h
    have e : arunQ P G ext dr call loop (.seq a b) fr h = seqK (arunQ P G ext dr call loop a fr h) (arunQ P G ext dr call loop b) := rfl
    rw [e, iha]
    simp only [arunC]
    cases ha : arunC P G ext dr call loop a fr h with
    | none => rfl
    | some r =>
      obtain ⟨x, fr1, h1⟩ := r
      cases x with
      | normal => exact ihb fr1 h1
      | _ => rfl
  | cond c a b iha ihb =>
    intro fr h
    have e : arunQ P G ext dr call loop (.cond c a b) fr h = condK (aeval G fr c) (arunQ P G ext dr call loop a) (arunQ P G ext dr call loop b) fr h := rfl
    rw [e]
    simp only [arunC, condK]
    split
    · rename_i t _
      cases t with
      | true => exact iha fr h
      | false => exact ihb fr h
    · rfl
  | block id c ih =>
    intro fr h
    have e : arunQ P G ext dr call loop (.block id c) fr h = blockK id (arunQ P G ext dr call loop c fr h) := rfl
    rw [e, ih]
    simp only [arunC]
    rfl
  | scope c ih =>
    intro fr h
    have e : arunQ P G ext dr call loop (.scope c) fr h = arunQ P G ext dr call loop c fr h := rfl
    rw [e, ih]
    simp only [arunC]
  | region id ops draw =>
    intro fr h
    cases draw <;> rfl
  | _ => intros; rfl
/-- At the head of a round. -/
def WL (P : Program) (c : Code) (Q : Exit → Act → World → Prop) (a : Act) (w : World) : Prop :=
  ∀ (b : Frame) (k : List Item) (cs : List Frame), ∃ e a' w', Q e a' w' ∧ Arrives P (lone (b.at a (.inLoop c :: k)) cs w) b k cs e a' w'
theorem WL_of {c : Code} {Q : Exit → Act → World → Prop} {a : Act} {w : World} (h : c.wp P (Exit.then (WL P c Q) Q) a w) : WL P c Q a w ∧ (Code.loop c).wp P Q a w := by
  have key : ∀ (b : Frame) (k : List Item) (cs : List Frame), ∃ e a' w', Q e a' w' ∧ Arrives P (lone (b.at a (.code c :: .inLoop c :: k)) cs w) b k cs e a' w' := by
    intro b k cs
    obtain ⟨e, a₁, w₁, hq, harr⟩ := h b (.inLoop c :: k) cs
    cases e with
    | normal =>
      obtain ⟨e₂, a₂, w₂, hq₂, harr₂⟩ := hq b k cs
      exact ⟨e₂, a₂, w₂, hq₂, .of_steps harr harr₂⟩
    | exit id => exact ⟨_, a₁, w₁, hq, .pass (x := .inLoop c) rfl (fun _ _ => .inl (by simp)) harr⟩
    | goto l => exact ⟨_, a₁, w₁, hq, .pass (x := .inLoop c) rfl (fun _ _ => .inl (by simp)) harr⟩
    | ret => exact ⟨_, a₁, w₁, hq, .pass (x := .inLoop c) rfl (fun _ _ => .inl (by simp)) harr⟩
    | panic ch => exact ⟨_, a₁, w₁, hq, .pass (x := .inLoop c) rfl (fun _ _ => .inl (by simp)) harr⟩
    | outgrown => exact ⟨_, a₁, w₁, hq, .pass (x := .inLoop c) rfl (fun _ _ => .inl (by simp)) harr⟩
  constructor
  · intro b k cs
    obtain ⟨e, a', w', hq, harr⟩ := key b k cs
    exact ⟨e, a', w', hq, .of_steps (.one step_inLoop) harr⟩
  · intro b k cs
    obtain ⟨e, a', w', hq, harr⟩ := key b k cs
    exact ⟨e, a', w', hq, .of_steps (.one step_loop) harr⟩
def LoopSound (P : Program) (G : GS) (loop : LoopF) : Prop :=
  ∀ c fr h res, loop c fr h = some res → (∀ (X : Cx) ρ w a, X.G = G → FRel ρ fr a → Nd a → Rel X ρ h w → Room X w res.2.2 → ∀ (Q : Exit → Act → World → Prop), (∀ e a' w', Out X ρ h w res e a' w' → Q e a' w') → WL P c Q a w ∧ (Code.loop c).wp P Q a w) ∧
    h.next ≤ res.2.2.next
def DrawSound (P : Program) (G : GS) (dr : DrawF) : Prop :=
  ∀ call, CallSound P G call → ∀ ops fr h res, dr call ops fr h = some res → (∀ (X : Cx) ρ w a id, X.G = G → FRel ρ fr a → Nd a → Rel X ρ h w → Room X w res.2.2 → ∀ (Q : Exit → Act → World → Prop), (∀ e a' w', Out X ρ h w res e a' w' → Q e a' w') → (Code.region id ops true).wp P Q a w) ∧
    h.next ≤ res.2.2.next
section
variable {G : GS} {dr : DrawF} {call : CallF} {loop : LoopF}
theorem arunC_next (ok : Okay P G ext) (hd : DrawSound P G dr) (hc : CallSound P G call) (hl : LoopSound P G loop) : ∀ {c : Code} {fr : AFr} {h : AH} {res : Res}, arunC P G ext dr call loop c fr h = some res → h.next ≤ res.2.2.next := by
  intro c
  induction c with
  | skip => intro fr h res e; simp only [arunC, Option.some.injEq] at e; subst e; exact Nat.le_refl _
  | label l => intro fr h res e; simp only [arunC, Option.some.injEq] at e; subst e; exact Nat.le_refl _
  | region id ops draw =>
    intro fr h res e
    simp only [arunC] at e
    cases draw with
    | true => exact (hd call hc ops fr h res e).2
    | false => simp only [cond_false, arunL_eq] at e; exact arunOps_next ok hc e
  | seq a b iha ihb =>
    intro fr h res e
    simp only [arunC] at e
    split at e
    · cases e
    · rename_i x fr1 h1 ha
      have h1' := iha ha
      split at e
      · exact Nat.le_trans h1' (ihb e)
      · cases e; exact h1'
  | cond c a b iha ihb =>
    intro fr h res e
    simp only [arunC] at e
    split at e
    · rename_i t _
      cases t with
      | true => exact iha e
      | false => exact ihb e
    · cases e
  | block id c ih =>
    intro fr h res e
    simp only [arunC] at e
    split at e
    · cases e
    · rename_i x fr1 h1 ha
      have h1' := ih ha
      split at e
      · rename_i id'
        cases hb : Nat.beq id' id with
        | true => rw [hb] at e; cases e; exact h1'
        | false => rw [hb] at e; cases e; exact h1'
      · cases e; exact h1'
  | scope c ih => intro fr h res e; simp only [arunC] at e; exact ih e
  | loop c ih => intro fr h res e; simp only [arunC] at e; exact (hl c fr h res e).2
  | exit id => intro fr h res e; simp only [arunC, Option.some.injEq] at e; subst e; exact Nat.le_refl _
  | ret => intro fr h res e; simp only [arunC, Option.some.injEq] at e; subst e; exact Nat.le_refl _
  | rangeFunc a b c d => intro fr h res e; simp only [arunC, reduceCtorEq] at e
  | goto l => intro fr h res e; simp only [arunC, reduceCtorEq] at e
  | refuse l => intro fr h res e; simp only [arunC, reduceCtorEq] at e
end
theorem Out.notGoto {res : Res} {e : Exit} {a : Act} {w' : World} (o : Out X ρ h w res e a w') : ∀ l, e ≠ .goto l := by
  obtain ⟨ρ', hx, _⟩ := o
  rintro l rfl
  obtain ⟨x, fr, h1⟩ := res
  cases x with
  | panic v => obtain ⟨v', _, hh⟩ := hx; cases hh
  | normal => exact hx.elim
  | exit id => exact hx.elim
  | ret => exact hx.elim
theorem arunC_sound {dr : DrawF} {call : CallF} {loop : LoopF} (ok : Okay P X.G ext) (hd : DrawSound P X.G dr) (hc : CallSound P X.G call) (hl : LoopSound P X.G loop) : ∀ {c : Code} {fr : AFr} {h : AH} {res : Res} {ρ : Rho} {w : World} {a : Act},
    arunC P X.G ext dr call loop c fr h = some res → FRel ρ fr a → Nd a → Rel X ρ h w → Room X w res.2.2 → ∀ (Q : Exit → Act → World → Prop), (∀ e a' w', Out X ρ h w res e a' w' → Q e a' w') → c.wp P Q a w := by
  intro c
  induction c with
  | skip =>
    intro fr h res ρ w a e hf hdf r hB Q hQ
    simp only [arunC, Option.some.injEq] at e; subst e
    exact wp_skip (hQ _ _ _ ⟨ρ, trivial, hf, hdf, r, .refl _ _ _⟩)
  | label l =>
    intro fr h res ρ w a e hf hdf r hB Q hQ
    simp only [arunC, Option.some.injEq] at e; subst e
    exact wp_label (hQ _ _ _ ⟨ρ, trivial, hf, hdf, r, .refl _ _ _⟩)
  | region id ops draw =>
    intro fr h res ρ w a e hf hdf r hB Q hQ
    simp only [arunC] at e
    cases draw with
    | true => exact (hd call hc ops fr h res e).1 X ρ w a id rfl hf hdf r hB Q hQ
    | false => simp only [cond_false, arunL_eq] at e; exact wp_region (arunOps_sound ok hc e hf hdf r hB Q hQ)
  | seq a b iha ihb =>
    intro fr h res ρ w ac e hf hdf r hB Q hQ
    simp only [arunC] at e
    split at e
    · cases e
    · rename_i x fr1 h1 ha
      refine wp_seq ?_
      split at e
      · have hnx := arunC_next ok hd hc hl e
        refine iha ha hf hdf r (hB.of (Nat.le_refl _) hnx) _ fun ex a' w' ho => ?_
        obtain ⟨ρ1, o1, o2, o3, o4, o5⟩ := ho
        cases ex <;> first | exact o1.elim | skip
        exact ihb e o2 o3 o4 (hB.of o5.size (Nat.le_refl _)) Q fun e2 a2 w2 ho2 => hQ e2 a2 w2 (ho2.trans o5)
      · rename_i hnn
        cases e
        refine iha ha hf hdf r hB _ fun ex a' w' ho => ?_
        cases ex with
        | normal =>
          obtain ⟨ρ1, o1, _⟩ := ho
          cases x with
          | normal => exact absurd rfl hnn
          | panic v => obtain ⟨v', _, hh⟩ := o1; cases hh
          | exit id => exact o1.elim
          | ret => exact o1.elim
        | exit id => exact hQ _ _ _ ho
        | goto l => exact hQ _ _ _ ho
        | ret => exact hQ _ _ _ ho
        | panic ch => exact hQ _ _ _ ho
        | outgrown => exact hQ _ _ _ ho
  | cond c a b iha ihb =>
    intro fr h res ρ w ac e hf hdf r hB Q hQ
    simp only [arunC] at e
    split at e
    · rename_i t hcnd
      have hct := (aeval_rel r hf _ _ hcnd).flat_eq rfl
      cases t with
      | true => exact wp_cond_true hct (iha e hf hdf r hB Q hQ)
      | false => exact wp_cond_false hct (ihb e hf hdf r hB Q hQ)
    · cases e
  | block id c ih =>
    intro fr h res ρ w ac e hf hdf r hB Q hQ
    simp only [arunC] at e
    split at e
    · cases e
    · rename_i x fr1 h1 ha
      refine wp_block ?_
      split at e
      · rename_i id'
        have hres : res.2.2 = h1 ∧ res.2.1 = fr1 ∧ (if id' = id then res.1 = .normal else res.1 = .exit id') := by
          cases hb : Nat.beq id' id with
          | true => rw [hb] at e; cases e; exact ⟨rfl, rfl, by rw [if_pos (beq_tt.1 hb)]⟩
          | false => rw [hb] at e; cases e; exact ⟨rfl, rfl, by rw [if_neg (beq_ff.1 hb)]⟩
        obtain ⟨x2, fr2, h2⟩ := res
        obtain ⟨rfl, rfl, hx⟩ := hres
        refine ih ha hf hdf r hB _ fun ex a' w' ho => ?_
        obtain ⟨ρ1, o1, o2, o3, o4, o5⟩ := ho
        cases ex <;> first | exact o1.elim | skip
        rename_i j
        have hj : id' = j := o1
        subst hj
        simp only [Exit.inBlock]
        split
        · rename_i hid; rw [if_pos hid] at hx; simp only at hx; subst hx; exact hQ _ _ _ ⟨ρ1, trivial, o2, o3, o4, o5⟩
        · rename_i hid; rw [if_neg hid] at hx; simp only at hx; subst hx; exact hQ _ _ _ ⟨ρ1, rfl, o2, o3, o4, o5⟩
      · rename_i hne
        cases e
        refine ih ha hf hdf r hB _ fun ex a' w' ho => ?_
        cases ex with
        | exit j =>
          obtain ⟨ρ1, o1, _⟩ := ho
          cases x with
          | exit id' => exact absurd rfl (hne id')
          | panic v => obtain ⟨v', _, hh⟩ := o1; cases hh
          | normal => exact o1.elim
          | ret => exact o1.elim
        | normal => exact hQ _ _ _ ho
        | goto l => exact hQ _ _ _ ho
        | ret => exact hQ _ _ _ ho
        | panic ch => exact hQ _ _ _ ho
        | outgrown => exact hQ _ _ _ ho
  | scope c ih =>
    intro fr h res ρ w ac e hf hdf r hB Q hQ
    simp only [arunC] at e
    refine wp_scope_straight (ih e hf hdf r hB _ fun ex a' w' ho => ?_)
    cases ex with
    | goto l => exact absurd rfl (ho.notGoto l)
    | exit j => exact hQ _ _ _ ho
    | normal => exact hQ _ _ _ ho
    | ret => exact hQ _ _ _ ho
    | panic ch => exact hQ _ _ _ ho
    | outgrown => exact hQ _ _ _ ho
  | loop c ih =>
    intro fr h res ρ w ac e hf hdf r hB Q hQ
    simp only [arunC] at e
    exact ((hl c fr h res e).1 X ρ w ac rfl hf hdf r hB Q hQ).2
  | exit id =>
    intro fr h res ρ w a e hf hdf r hB Q hQ
    simp only [arunC, Option.some.injEq] at e; subst e
    exact wp_exit (hQ _ _ _ ⟨ρ, rfl, hf, hdf, r, .refl _ _ _⟩)
  | ret =>
    intro fr h res ρ w a e hf hdf r hB Q hQ
    simp only [arunC, Option.some.injEq] at e; subst e
    exact wp_ret (hQ _ _ _ ⟨ρ, trivial, hf, hdf, r, .refl _ _ _⟩)
  | rangeFunc a b c d => intro fr h res ρ w a e; simp only [arunC, reduceCtorEq] at e
  | goto l => intro fr h res ρ w a e; simp only [arunC, reduceCtorEq] at e
  | refuse l => intro fr h res ρ w a e; simp only [arunC, reduceCtorEq] at e
/-! ### Functions -/
def resVar (tmps : Array Value) : ResultVar → Sem Value
  | .tmp t => pure (tmps.getD t undef)
  | .cell a t => do loadVar t (← asAddr (tmps.getD a undef))
theorem results_eq (fn : Func) (tmps : Array Value) : results fn tmps = (do
    let vs ← fn.results.mapM (resVar tmps)
    pure (if h : vs.size = 1 then vs[0] else .tuple vs)) := by
  unfold results
  congr 1
def aresultVar (P : Program) (fr : AFr) (h : AH) : ResultVar → Option Value
  | .tmp t => fr.get t
  | .cell a t => match fr.get a with
    | none => none
    | some v => aload P h t v
def aresultVars (P : Program) (fr : AFr) (h : AH) : List ResultVar → Option (List Value)
  | [] => some []
  | x :: l => match aresultVar P fr h x with
    | none => none
    | some v => match aresultVars P fr h l with
      | none => none
      | some r => some (v :: r)
def aresults (P : Program) (fn : Func) (fr : AFr) (h : AH) : Option Value :=
  match aresultVars P fr h fn.results.toList with
  | none => none
  | some [v] => some v
  | some l => some (.tuple l.toArray)
theorem aresultVars_sound (r : Rel X ρ h w) {fr : AFr} {a : Act} (hf : FRel ρ fr a) : ∀ {l : List ResultVar} {vs : List Value}, aresultVars P fr h l = some vs →
    ∃ vs', (l.mapM (resVar a.tmps)).run P w = .ok vs' w ∧ VRL ρ vs vs'
  | [], vs, e => by simp only [aresultVars, Option.some.injEq] at e; subst e; exact ⟨[], rfl, .nil⟩
  | x :: l, vs, e => by
    unfold aresultVars at e
    split at e
    · cases e
    · rename_i v hv
      split at e
      · cases e
      · rename_i vr hvr
        cases e
        obtain ⟨vs', g1, g2⟩ := aresultVars_sound r hf hvr
        have hx : ∃ v', (resVar a.tmps x).run P w = .ok v' w ∧ VR ρ v v' := by
          cases x with
          | tmp t => exact ⟨_, rfl, hf.2 t v hv⟩
          | cell b t =>
            simp only [aresultVar] at hv
            split at hv
            · cases hv
            · rename_i u hu
              have hvu := hf.2 b u hu
              obtain ⟨v', q1, q2⟩ := aload_sound (P := P) r hv hvu
              refine ⟨v', ?_, q2⟩
              unfold aload at hv
              split at hv
              · obtain ⟨a', ha'⟩ := hvu.inv_ptrSome
                rw [ha'] at q1
                simpa [Instr.loadAt, Instr.sureAddr, asAddr, resVar, ha'] using q1
              · cases hv
        obtain ⟨v', hx1, hx2⟩ := hx
        refine ⟨v' :: vs', ?_, .cons hx2 g2⟩
        rw [List.mapM_cons]
        simp only [Sem.run_bind]
        rw [hx1]
        simp only [Result.andThen_ok]
        rw [g1]; rfl
theorem aresults_sound (r : Rel X ρ h w) {fr : AFr} {a : Act} (hf : FRel ρ fr a) {fn : Func} {v : Value} (e : aresults P fn fr h = some v) : ∃ v', (results fn a.tmps).run P w = .ok v' w ∧ VR ρ v v' := by
  unfold aresults at e
  have hmap : ∀ vs vs', aresultVars P fr h fn.results.toList = some vs → VRL ρ vs vs' →
      (fn.results.toList.mapM (resVar a.tmps)).run P w = .ok vs' w →
      (results fn a.tmps).run P w = .ok (if h : vs'.toArray.size = 1 then vs'.toArray[0] else .tuple vs'.toArray) w := by
    intro vs vs' _ _ hr
    rw [results_eq]
    simp only [Sem.run_bind]
    rw [Array.mapM_eq_mapM_toList]
    simp only [Sem.run_map]
    rw [hr]
    rfl
  split at e
  · cases e
  · rename_i u hu
    cases e
    obtain ⟨vs', g1, g2⟩ := aresultVars_sound (P := P) r hf hu
    cases g2 with
    | cons p q => cases q; exact ⟨_, hmap _ _ hu (.cons p .nil) g1, by simpa using p⟩
  · rename_i l hne hl
    cases e
    obtain ⟨vs', g1, g2⟩ := aresultVars_sound (P := P) r hf hl
    have hlen := g2.length
    have hn1 : vs'.length ≠ 1 := by
      intro h1
      rw [h1] at hlen
      obtain ⟨x, rfl⟩ := List.length_eq_one_iff.1 hlen
      exact hne x rfl
    refine ⟨.tuple vs'.toArray, ?_, .tuple (by simpa using g2)⟩
    rw [hmap _ _ hl g2 g1]
    rw [dif_neg (by simpa using hn1)]
def initT : List Value → Nat → Tr Value → Option (Tr Value)
  | [], _, t => some t
  | v :: l, i, t => bif Nat.blt i FLIM then initT l (i + 1) (Tr.set FDEP t i (some v)) else none
theorem initT_get : ∀ {l : List Value} {i : Nat} {t t' : Tr Value}, initT l i t = some t' → ∀ j, Tr.get FDEP t' j = if i ≤ j ∧ j < i + l.length then l[j - i]? else Tr.get FDEP t j
  | [], i, t, t', e, j => by simp only [initT, Option.some.injEq] at e; subst e; rw [if_neg]; simp only [List.length_nil]; omega
  | v :: l, i, t, t', e, j => by
    simp only [initT] at e
    obtain ⟨e1, e2⟩ := bif_some e
    have hi := (blt_iff _ _).1 e1
    rw [initT_get e2 j]
    by_cases hj : j = i
    · subst hj
      rw [if_neg (by omega), if_pos (by simp), Tr.get_set_same _ _ _ _ hi]; simp
    · rw [Tr.get_set_ne _ _ _ _ _ (Ne.symm hj)]
      by_cases hj2 : i + 1 ≤ j ∧ j < i + 1 + l.length
      · rw [if_pos hj2, if_pos (by simp; omega)]
        obtain ⟨q, rfl⟩ : ∃ q, j = i + 1 + q := ⟨j - (i + 1), by omega⟩
        rw [show i + 1 + q - i = q + 1 from by omega, show i + 1 + q - (i + 1) = q from by omega]; simp
      · rw [if_neg hj2, if_neg (by simp; omega)]
def ainit (fn : Func) (args : List Value) : Option AFr :=
  match initT args 0 .nil with
  | none => none
  | some t => some { n := args.length + (fn.ntmps - args.length), t, d := [] }
theorem ainit_rel {fn : Func} {args : List Value} {args' : Array Value} {fr : AFr} (e : ainit fn args = some fr) (ha : VRL ρ args args'.toList) :
    FRel ρ fr { tmps := args' ++ Array.replicate (fn.ntmps - args'.size) undef, defers := [] } := by
  unfold ainit at e
  split at e
  · cases e
  · rename_i t ht
    cases e
    have hlen : args.length = args'.size := by simpa using ha.length
    refine ⟨by simp [hlen], fun i v hv => ?_, .nil⟩
    simp only [AFr.get] at hv
    rw [initT_get ht i] at hv
    split at hv
    · rename_i hi
      obtain ⟨v', g1, g2⟩ := ha.get _ v hv
      simp only [Nat.sub_zero] at g1
      have hlt : i < args'.size := by omega
      have : (args' ++ Array.replicate (fn.ntmps - args'.size) undef).getD i undef = v' := by
        rw [Array.getD_eq_getD_getElem?, Array.getElem?_append_left hlt]
        have : args'[i]? = some v' := by simpa using g1
        rw [this]; rfl
      rw [this]; exact g2
    · rw [Tr.get_nil] at hv; cases hv
/-- How a frame stands while its deferred calls are made. -/
inductive DMode where
  | ret
  | pan (v : Value)
abbrev DSpec := List Value → DMode → AH → Option (Bool × AH)
abbrev DCallF := FuncId → DSpec
def MR (ρ : Rho) : DMode → FrameMode → Prop
  | .ret, u => u = .returning
  | .pan v, u => ∃ v', VR ρ v v' ∧ u = .panicking [{ v := v', recovered := false }]
theorem MR.mono {ρ ρ' : Rho} (hl : ρ.le ρ') {m : DMode} {u : FrameMode} (h : MR ρ m u) : MR ρ' m u := by
  cases m with
  | ret => exact h
  | pan v => obtain ⟨v', h1, h2⟩ := h; exact ⟨v', h1.mono hl, h2⟩
theorem MR.settle {m : DMode} {u : FrameMode} (h : MR ρ m u) : settle u = u := by
  cases m with
  | ret => have h' : u = .returning := h; rw [h']; rfl
  | pan v => obtain ⟨v', _, rfl⟩ := h; rfl
theorem MR.ne {m : DMode} {u : FrameMode} (h : MR ρ m u) : u ≠ .run := by
  cases m with
  | ret => have h' : u = .returning := h; rw [h']; simp
  | pan v => obtain ⟨v', _, rfl⟩ := h; simp
def DPost (X : Cx) (ρ : Rho) (h : AH) (w : World) (m : DMode) (b : Bool) (h1 : AH) (e : Ending) (u' : FrameMode) (w' : World) : Prop :=
  (∃ v, e = .returned v) ∧ ∃ ρ', Rel X ρ' h1 w' ∧ Ext ρ h w ρ' h1 w' ∧ MR ρ' (bif b then .ret else m) (settle u')
def DCallSound (P : Program) (G : GS) (dc : DCallF) : Prop :=
  ∀ f args m h b h1, dc f args m h = some (b, h1) → (∀ fn, P.funcs[f]? = some fn → fn.body.isSome = true → ∀ (X : Cx) ρ w args' u, X.G = G → Rel X ρ h w → Room X w h1 → VRL ρ args args'.toList → MR ρ m u →
    CallsD P f args' u w (DPost X ρ h w m b h1)) ∧ h.next ≤ h1.next
def aleave (P : Program) (fn : Func) (dc : DCallF) : List (FuncId × List Value) → DMode → AFr → AH → Option CRes
  | [], .ret, fr, h => (match aresults P fn fr h with
    | none => none
    | some v => some (.ret v h))
  | [], .pan v, _, h => some (.panic v h)
  | (g, args) :: ds, m, fr, h => bif Nat.beq g MARK then none else match P.funcs[g]? with
    | none => none
    | some fg => match fg.body with
      | none => none
      | some _ => match dc g args m h with
        | none => none
        | some (b, h1) => aleave P fn dc ds (bif b then .ret else m) fr h1
theorem CPost.trans {ρ1 : Rho} {h1 : AH} {w1 : World} {res : CRes} {e : Ending} {w' : World} (x : Ext ρ h w ρ1 h1 w1) (p : CPost X ρ1 h1 w1 res e w') : CPost X ρ h w res e w' := by
  cases res with
  | ret v h2 => obtain ⟨v', ρ', a, b, c, d⟩ := p; exact ⟨v', ρ', a, b, c, x.trans d⟩
  | panic v h2 => obtain ⟨v', ρ', a, b, c, d⟩ := p; exact ⟨v', ρ', a, b, c, x.trans d⟩
theorem aleave_sound {G : GS} (ok : Okay P G ext) {dc : DCallF} (hd : DCallSound P G dc) {fn : Func} : ∀ {ds : List (FuncId × List Value)} {m : DMode} {fr : AFr} {h : AH} {res : CRes}, aleave P fn dc ds m fr h = some res →
    h.next ≤ res.heap.next ∧ ∀ (X : Cx) ρ w (a : Act) dd u, X.G = G → FRel ρ fr a → DR ρ ds dd → Rel X ρ h w → Room X w res.heap → MR ρ m u → ∀ R : Ending → World → Prop, (∀ e w', CPost X ρ h w res e w' → R e w') → Leaves P fn a.tmps R dd u w := by
  intro ds
  induction ds with
  | nil =>
    intro m fr h res e
    cases m with
    | ret =>
      simp only [aleave] at e
      split at e
      · cases e
      · rename_i v hv
        cases e
        refine ⟨Nat.le_refl _, fun X ρ w a dd u hG hf hdr r hB hm R hR => ?_⟩
        cases hdr
        have hm' : u = .returning := hm
        subst hm'
        obtain ⟨v', q1, q2⟩ := aresults_sound (P := P) r hf hv
        exact ⟨v', q1, hR _ _ ⟨v', ρ, rfl, q2, r, .refl _ _ _⟩⟩
    | pan v =>
      simp only [aleave, Option.some.injEq] at e; subst e
      refine ⟨Nat.le_refl _, fun X ρ w a dd u hG hf hdr r hB hm R hR => ?_⟩
      cases hdr
      obtain ⟨v', q1, rfl⟩ := hm
      exact hR _ _ ⟨v', ρ, rfl, q1, r, .refl _ _ _⟩
  | cons p ds ih =>
    intro m fr h res e
    obtain ⟨g, args⟩ := p
    have e' : (bif Nat.beq g MARK then none else match P.funcs[g]? with
      | none => none
      | some fg => match fg.body with
        | none => none
        | some _ => match dc g args m h with
          | none => none
          | some (b, h1) => aleave P fn dc ds (bif b then .ret else m) fr h1) = some res := by
      cases m <;> exact e
    clear e
    have hgm : Nat.beq g MARK = false := by
      cases hgm : Nat.beq g MARK with
      | true => rw [hgm] at e'; cases e'
      | false => rfl
    rw [hgm] at e'
    simp only [cond_false] at e'
    split at e'
    · cases e'
    · rename_i fg hfg
      split at e'
      · cases e'
      · rename_i c hb
        split at e'
        · cases e'
        · rename_i b h1 hdc
          obtain ⟨d1, d2⟩ := hd _ _ _ _ _ _ hdc
          obtain ⟨i1, i2⟩ := ih e'
          refine ⟨Nat.le_trans d2 i1, fun X ρ w a dd u hG hf hdr r hB hm R hR => ?_⟩
          cases hdr with
          | mark _ _ => simp [Nat.beq_refl] at hgm
          | @cons _ _ as cap _ dd' hv hdr =>
          subst hG
          refine leaves_cons (f := g) (args := as ++ cap) hm.ne ?_ ((d1 fg hfg (by simp [hb]) X ρ w (as ++ cap) u rfl r (hB.of (Nat.le_refl _) i1) hv hm).mono fun en u' w' hp => ?_)
          · simp only [invoke]
            exact callFunc_body ok hfg hb _
          · obtain ⟨⟨v, rfl⟩, ρ', p1, p2, p3⟩ := hp
            exact i2 X ρ' w' a dd' (settle u') rfl (hf.mono p2.le) (hdr.mono p2.le) p1 (hB.of p2.size (Nat.le_refl _)) p3 R fun e2 w2 hc => hR e2 w2 (hc.trans p2)
structure Sm where
  call : CallF
  loop : LoopF
  dcall : DCallF
def acallBody (P : Program) (G : GS) (ext : FuncId → Option Spec) (dr : DrawF) (s : Sm) : CallF := fun f args h =>
  match P.funcs[f]? with
  | none => none
  | some fn => match ext f with
    | some sp => (match sp args h with
      | none => none
      | some (v, h1) => some (.ret v h1))
    | none => match fn.body with
      | none => none
      | some c => match ainit fn args with
        | none => none
        | some fr => match arunQ P G ext dr s.call s.loop c fr h with
          | none => none
          | some (x, fr1, h1) => match x with
            | .normal | .ret => aleave P fn s.dcall fr1.d .ret fr1 h1
            | .panic v => aleave P fn s.dcall fr1.d (.pan v) fr1 h1
            | .exit _ => none
/-- A body that begins by recovering. -/
def recHead (c : Code) : Option (Array Oper × Oper × Code) :=
  match c with
  | .seq (.region _ ops false) rest => (match ops[0]? with
    | none => none
    | some o => match o.guard with
      | some _ => none
      | none => match o.op with
        | .call { callee := .builtin .recover, .. } => some (ops, o, rest)
        | _ => none)
  | _ => none
def DMode.val : DMode → Value
  | .ret => .nilIface
  | .pan v => v
def DMode.pans : DMode → Bool
  | .ret => false
  | .pan _ => true
def from1 : Nat → List Nat
  | 0 => []
  | n + 1 => (List.range n).map (· + 1)
/-- A deferred call. -/
def adcallBody (P : Program) (G : GS) (ext : FuncId → Option Spec) (extD : FuncId → Option DSpec) (dr : DrawF) (s : Sm) : DCallF := fun f args m h =>
  match P.funcs[f]? with
  | none => none
  | some fn => match extD f with
    | some sp => sp args m h
    | none => match fn.body with
      | none => none
      | some c => match ainit fn args with
        | none => none
        | some fr => match recHead c with
          | some (ops, o, rest) => (match fput fr o.dst m.val with
            | none => none
            | some fr0 => match arunOps P G ext s.call ops (from1 ops.size) fr0 h with
              | some (.normal, fr1, h1) => (match arunQ P G ext dr s.call s.loop rest fr1 h1 with
                | none => none
                | some (x, fr2, h2) => match fr2.d with
                  | _ :: _ => none
                  | [] => match aresults P fn fr2 h2 with
                    | none => none
                    | some _ => match x with
                      | .normal | .ret => some (m.pans, h2)
                      | _ => none)
              | _ => none)
          | none => match arunQ P G ext dr s.call s.loop c fr h with
            | none => none
            | some (x, fr1, h1) => match fr1.d with
              | _ :: _ => none
              | [] => match aresults P fn fr1 h1 with
                | none => none
                | some _ => match x with
                  | .normal | .ret => some (false, h1)
                  | _ => none
def aloopBody (P : Program) (G : GS) (ext : FuncId → Option Spec) (dr : DrawF) (s : Sm) : LoopF := fun c fr h =>
  match arunQ P G ext dr s.call s.loop c fr h with
  | none => none
  | some (x, fr1, h1) => match x with
    | .normal => s.loop c fr1 h1
    | x => some (x, fr1, h1)
def sem (P : Program) (G : GS) (ext : FuncId → Option Spec) (extD : FuncId → Option DSpec) (dr : DrawF) : Nat → Sm
  | 0 => { call := fun _ _ _ => none, loop := fun _ _ _ => none, dcall := fun _ _ _ _ => none }
  | k + 1 => { call := acallBody P G ext dr (sem P G ext extD dr k), loop := aloopBody P G ext dr (sem P G ext extD dr k), dcall := adcallBody P G ext extD dr (sem P G ext extD dr k) }
/-- The contracts of functions that have a body. -/
def ExtCalls (P : Program) (G : GS) (ext : FuncId → Option Spec) : Prop :=
  ∀ (f : FuncId) (fn : Func) (sp : Spec), P.funcs[f]? = some fn → fn.body.isSome = true → ext f = some sp → ∀ args h v h1, sp args h = some (v, h1) → ∀ (X : Cx) ρ w args', X.G = G → Rel X ρ h w → Room X w h1 → VRL ρ args args'.toList →
    Calls P f args' w (CPost X ρ h w (.ret v h1))
/-- The contracts of functions that are called as deferred ones. -/
def ExtDCalls (P : Program) (G : GS) (extD : FuncId → Option DSpec) : Prop :=
  ∀ (f : FuncId) (fn : Func) (sp : DSpec), P.funcs[f]? = some fn → fn.body.isSome = true → extD f = some sp → ∀ args m h b h1, sp args m h = some (b, h1) → ∀ (X : Cx) ρ w args' u, X.G = G → Rel X ρ h w → Room X w h1 → VRL ρ args args'.toList → MR ρ m u →
    CallsD P f args' u w (DPost X ρ h w m b h1)
def ExtDNext (extD : FuncId → Option DSpec) : Prop := ∀ f sp, extD f = some sp → ∀ args m h b h1, sp args m h = some (b, h1) → h.next ≤ h1.next
theorem arunOpsS_sound {G : GS} (ok : Okay P X.G ext) {call : CallF} (hc : CallSound P X.G call) {ops : Array Oper} {cs : List Frame} : ∀ {l : List Nat} {fr : AFr} {h : AH} {res : Res} {ρ : Rho} {w : World} {a : Act}, arunOps P X.G ext call ops l fr h = some res →
    FRel ρ fr a → Rel X ρ h w → Room X w res.2.2 → ∀ (Q : Exit → Act → List Frame → World → Prop), (∀ e a' w', Out X ρ h w res e a' w' → Q e a' cs w') → wpOpsS P ops Q l a cs w
  | [], fr, h, res, ρ, w, a, e, hf, r, hB, Q, hQ => by
    simp only [arunOps, Option.some.injEq] at e; subst e
    exact hQ _ _ _ ⟨ρ, trivial, hf, trivial, r, .refl _ _ _⟩
  | i :: rest, fr, h, res, ρ, w, a, e, hf, r, hB, Q, hQ => by
    have conv : ∀ {o : Oper}, o.wp P a w (fun a' w' => wpOpsS P ops Q rest a' cs w') (fun e a' w' => Q e a' cs w') → (match (execOp a.eval o).run P w with
        | .ok .recover w' =>
          match recoverD cs with
          | some (v, cs') => wpOpsS P ops Q rest (a.put o.dst v) cs' w'
          | none => wpOpsS P ops Q rest (a.put o.dst .nilIface) cs w'
        | r => o.upon P a (fun a' w' => wpOpsS P ops Q rest a' cs w') (fun e a' w' => Q e a' cs w') r) := by
      intro o hh
      unfold Oper.wp at hh
      generalize (execOp a.eval o).run P w = q at hh
      split
      · exact hh.elim
      · exact hh
    unfold arunOps at e
    unfold wpOpsS
    split at e
    · cases e
    · rename_i o ho
      split at e
      · cases e
      · rename_i hw
        have hw' := awanted_sound hw hf
        simp only [ho, hw', Bool.false_eq_true, if_false]
        split at e
        · cases e
        · rename_i fr1 hp
          obtain ⟨f1, f2⟩ := fput_rel (v' := undef) hp hf (.tuple .nil)
          exact arunOpsS_sound (G := G) ok hc e f1 r hB Q hQ
      · rename_i hw
        have hw' := awanted_sound hw hf
        simp only [ho, hw', if_true]
        refine conv ?_
        split at e
        · cases e
        · rename_i v h1 hop
          split at e
          · cases e
          · rename_i fr1 hp
            have hnx := arunOps_next ok hc e
            obtain ⟨v', w1, ρ1, g1, g2, g3, g4⟩ := aop_sound ok r (nx := .value v h1) (hB.of (Nat.le_refl _) hnx) (aeval_rel r hf) hop
            refine g1 _ _ ?_
            obtain ⟨f1, f2⟩ := fput_rel hp (hf.mono g4.le) g2
            exact arunOpsS_sound (G := G) ok hc e f1 g3 (hB.of g4.size (Nat.le_refl _)) Q fun e a' w' ho => hQ e a' w' (ho.trans g4)
        · rename_i v hop
          cases e
          obtain ⟨v', g1, g2⟩ := aop_sound ok r (nx := .panic v) hB.1 (aeval_rel r hf) hop
          exact g2 _ _ (hQ _ _ _ ⟨ρ, ⟨v', g1, rfl⟩, hf, trivial, r, .refl _ _ _⟩)
        · rename_i g args hop
          split at e
          · cases e
          · rename_i fr1 hp
            obtain ⟨as, cap, q1, q2, q3⟩ := aop_sound ok r (nx := .defer g args) (Nat.le_trans hB.1 (Nat.le_refl _)) (aeval_rel r hf) hop
            refine q3 _ _ ?_
            exact arunOpsS_sound (G := G) ok hc e (fput_defer hp hf q1) r hB Q hQ
        · rename_i f args hop
          obtain ⟨args', fn, q1, q2, q3, q4⟩ := aop_sound ok r (nx := .enter f args) hB.1 (aeval_rel r hf) hop
          refine q4 _ _ ?_
          split at e
          · cases e
          · rename_i v h1 hcl
            cases e
            refine ((hc _ _ _ _ hcl).1 fn q1 q2 X ρ w args' rfl r hB q3).mono fun en w'' hp => ?_
            obtain ⟨v', ρ', rfl, p1, p2, p3⟩ := hp
            exact hQ _ _ _ ⟨ρ', ⟨v', p1, rfl⟩, hf.mono p3.le, trivial, p2, p3⟩
          · rename_i v h1 hcl
            split at e
            · cases e
            · rename_i fr1 hp
              have hnx := arunOps_next ok hc e
              refine ((hc _ _ _ _ hcl).1 fn q1 q2 X ρ w args' rfl r (hB.of (Nat.le_refl _) hnx) q3).mono fun en w'' hpp => ?_
              obtain ⟨v', ρ', rfl, p1, p2, p3⟩ := hpp
              obtain ⟨f1, f2⟩ := fput_rel hp (hf.mono p3.le) p1
              exact arunOpsS_sound (G := G) ok hc e f1 p2 (hB.of p3.size (Nat.le_refl _)) Q fun e a' w' ho => hQ e a' w' (ho.trans p3)
theorem recHead_some {c : Code} {ops : Array Oper} {o : Oper} {rest : Code} (e : recHead c = some (ops, o, rest)) : ∃ id, c = .seq (.region id ops false) rest ∧ ops[0]? = some o ∧ o.guard = none ∧ ∃ as ts, o.op = .call { callee := .builtin .recover, args := as, argTypes := ts } := by
  unfold recHead at e
  split at e
  · rename_i id ops' rest'
    split at e
    · cases e
    · rename_i o' ho
      split at e
      · cases e
      · rename_i hg
        split at e
        · rename_i as ts hop
          simp only [Option.some.injEq, Prod.mk.injEq] at e
          obtain ⟨rfl, rfl, rfl⟩ := e
          exact ⟨id, rfl, ho, hg, as, ts, hop⟩
        · cases e
  · cases e
/-- The frame below, behind a recovery. -/
def DMode.after (m : DMode) (u : FrameMode) : FrameMode :=
  match m, u with
  | .pan _, .panicking (p :: ps) => .panicking ({ v := p.v, recovered := true } :: ps)
  | _, u => u
theorem recover_sound {c₀ : Frame} {cs : List Frame} {m : DMode} {u : FrameMode} (hu : c₀.mode = u) (hm : MR ρ m u) {ops : Array Oper} {o : Oper} {rest : List Nat} (h0 : ops[0]? = some o) (hg : o.guard = none) {as : Array Operand} {ts : Array TypeId} (hop : o.op = .call { callee := .builtin .recover, args := as, argTypes := ts })
    {a : Act} {Q : Exit → Act → List Frame → World → Prop} (hK : ∀ v', VR ρ m.val v' → wpOpsS P ops Q rest (a.put o.dst v') ({ c₀ with mode := m.after u } :: cs) w) : wpOpsS P ops Q (0 :: rest) a (c₀ :: cs) w := by
  have hrun : (execOp a.eval o).run P w = .ok .recover w := by
    simp only [execOp, hop, resolve, invoke, builtin, Sem.run_bind, Sem.run_pure, Result.andThen_ok]
  have hw : Region.wanted o (yielded ops a.tmps) = true := by simp [Region.wanted, hg]
  unfold wpOpsS
  simp only [h0, hw, if_true, hrun]
  cases m with
  | ret =>
    have hu' : u = .returning := hm
    subst hu'
    have hr : recoverD (c₀ :: cs) = none := by simp [recoverD, hu]
    rw [hr]
    have := hK .nilIface (.flat rfl)
    have hc : ({ c₀ with mode := DMode.after .ret .returning } : Frame) = c₀ := by
      show ({ c₀ with mode := .returning } : Frame) = c₀
      rw [← hu]
    rw [hc] at this
    exact this
  | pan v =>
    obtain ⟨v', q1, rfl⟩ := hm
    have hr : recoverD (c₀ :: cs) = some (v', { c₀ with mode := .panicking [{ v := v', recovered := true }] } :: cs) := by simp [recoverD, hu]
    rw [hr]
    exact hK v' q1
theorem sem_sound {G : GS} {dr : DrawF} {extD : FuncId → Option DSpec} (ok : Okay P G ext) (hd : DrawSound P G dr) (hx : ExtCalls P G ext) (hxd : ExtDCalls P G extD) (hxn : ExtDNext extD) : ∀ k, CallSound P G (sem P G ext extD dr k).call ∧ LoopSound P G (sem P G ext extD dr k).loop ∧ DCallSound P G (sem P G ext extD dr k).dcall := by
  intro k
  induction k with
  | zero => exact ⟨fun f args h res e => by simp [sem] at e, fun c fr h res e => by simp [sem] at e, fun f args m h b h1 e => by simp [sem] at e⟩
  | succ k ih =>
    obtain ⟨hc, hl, hdc⟩ := ih
    refine ⟨?_, ?_, ?_⟩
    · intro f args h res e
      simp only [sem, acallBody, arunQ_eq] at e
      split at e
      · cases e
      · rename_i fn hfn
        split at e
        · rename_i sp hsp
          split at e
          · cases e
          · rename_i v h1 hs
            cases e
            exact ⟨fun fn' h1' h2' X ρ w args' hG r hB ha => hx f fn' sp h1' h2' hsp args h v h1 hs X ρ w args' hG r hB ha, ok.next f sp hsp args h v h1 hs⟩
        · split at e
          · cases e
          · rename_i c hbody
            split at e
            · cases e
            · rename_i fr hinit
              split at e
              · cases e
              · rename_i x fr1 h1 hrun
                have hnx := arunC_next ok hd hc hl hrun
                have main : ∀ m, aleave P fn (sem P G ext extD dr k).dcall fr1.d m fr1 h1 = some res → ((x = .normal ∨ x = .ret) ∧ m = .ret ∨ ∃ v, x = .panic v ∧ m = .pan v) →
                    (∀ fn', P.funcs[f]? = some fn' → fn'.body.isSome = true → ∀ (X : Cx) ρ w args', X.G = G → Rel X ρ h w → Room X w res.heap → VRL ρ args args'.toList → Calls P f args' w (CPost X ρ h w res)) ∧ h.next ≤ res.heap.next := by
                  intro m hlv hxm
                  obtain ⟨l1, l2⟩ := aleave_sound ok hdc hlv
                  refine ⟨fun fn' _ _ X ρ w args' hG r hB ha => ?_, Nat.le_trans hnx l1⟩
                  subst hG
                  refine calls_of_wp_defers hfn hbody (arunC_sound ok hd hc hl hrun (ainit_rel hinit ha) trivial r (hB.of (Nat.le_refl _) l1) _ fun ex a' w' ho => ?_)
                  obtain ⟨ρ1, o1, o2, _, o4, o5⟩ := ho
                  have fin : ∀ u, MR ρ1 m u → Leaves P fn a'.tmps (CPost X ρ h w res) a'.defers u w' := fun u hm =>
                    l2 X ρ1 w' a' a'.defers u rfl o2 o2.3 o4 (hB.of o5.size (Nat.le_refl _)) hm _ fun e2 w2 hp => hp.trans o5
                  rcases hxm with ⟨hx | hx, rfl⟩ | ⟨v, hx, rfl⟩
                  · simp only [hx] at o1; cases ex <;> first | exact o1.elim | exact fin _ rfl
                  · simp only [hx] at o1; cases ex <;> first | exact o1.elim | exact fin _ rfl
                  · simp only [hx] at o1
                    obtain ⟨v', p1, p2⟩ := o1
                    subst p2
                    exact fin _ ⟨v', p1, rfl⟩
                split at e
                · exact main _ e (.inl ⟨.inl rfl, rfl⟩)
                · exact main _ e (.inl ⟨.inr rfl, rfl⟩)
                · exact main _ e (.inr ⟨_, rfl, rfl⟩)
                · cases e
    · intro c fr h res e
      simp only [sem, aloopBody, arunQ_eq] at e
      split at e
      · cases e
      · rename_i x fr1 h1 hrun
        have hnx := arunC_next ok hd hc hl hrun
        split at e
        · obtain ⟨hl1, hl2⟩ := hl c fr1 h1 res e
          refine ⟨fun X ρ w a hG hf hdf r hB Q hQ => ?_, Nat.le_trans hnx hl2⟩
          subst hG
          refine WL_of (arunC_sound ok hd hc hl hrun hf hdf r (hB.of (Nat.le_refl _) hl2) _ fun ex a' w' ho => ?_)
          obtain ⟨ρ1, o1, o2, o3, o4, o5⟩ := ho
          cases ex <;> first | exact o1.elim | skip
          exact (hl1 X ρ1 w' a' rfl o2 o3 o4 (hB.of o5.size (Nat.le_refl _)) Q fun e2 a2 w2 ho2 => hQ e2 a2 w2 (ho2.trans o5)).1
        · rename_i hnn
          cases e
          refine ⟨fun X ρ w a hG hf hdf r hB Q hQ => ?_, hnx⟩
          subst hG
          refine WL_of (arunC_sound ok hd hc hl hrun hf hdf r hB _ fun ex a' w' ho => ?_)
          cases ex with
          | normal =>
            obtain ⟨ρ1, o1, _⟩ := ho
            cases x with
            | normal => exact absurd rfl hnn
            | panic v => obtain ⟨v', _, hh⟩ := o1; cases hh
            | exit id => exact o1.elim
            | ret => exact o1.elim
          | exit id => exact hQ _ _ _ ho
          | goto l => exact hQ _ _ _ ho
          | ret => exact hQ _ _ _ ho
          | panic ch => exact hQ _ _ _ ho
          | outgrown => exact hQ _ _ _ ho
    · intro f args m h b h1 e
      simp only [sem, adcallBody, arunQ_eq] at e
      split at e
      · cases e
      · rename_i fn hfn
        split at e
        · rename_i sp hsp
          exact ⟨fun fn' q1 q2 X ρ w args' u hG r hB ha hm => hxd f fn' sp q1 q2 hsp args m h b h1 e X ρ w args' u hG r hB ha hm, hxn f sp hsp _ _ _ _ _ e⟩
        · split at e
          · cases e
          · rename_i c hbody
            split at e
            · cases e
            · rename_i fr hinit
              split at e
              · rename_i ops o rest hrec
                obtain ⟨id, rfl, h0, hg0, as, ts, hop0⟩ := recHead_some hrec
                split at e
                · cases e
                · rename_i fr0 hput
                  split at e
                  · rename_i fr1 h2 hops
                    split at e
                    · cases e
                    · rename_i x fr2 h3 hrun
                      split at e
                      · cases e
                      · rename_i hfd
                        split at e
                        · cases e
                        · rename_i v hv
                          have hnx1 := arunOps_next ok hc hops
                          have hnx2 := arunC_next ok hd hc hl hrun
                          have fin : (x = .normal ∨ x = .ret) → b = m.pans → h1 = h3 → (∀ fn', P.funcs[f]? = some fn' → fn'.body.isSome = true → ∀ (X : Cx) ρ w args' u, X.G = G → Rel X ρ h w → Room X w h1 → VRL ρ args args'.toList → MR ρ m u → CallsD P f args' u w (DPost X ρ h w m b h1)) ∧ h.next ≤ h1.next := by
                            rintro hxx rfl rfl
                            refine ⟨fun fn' _ _ X ρ w args' u hG r hB ha hm => ?_, Nat.le_trans hnx1 hnx2⟩
                            subst hG
                            refine callsD_of_wpS hfn hbody fun c₀ cs hu => ?_
                            refine wpS_seq (wpS_region ?_)
                            have hrange : List.range ops.size = 0 :: from1 ops.size := by
                              have : 0 < ops.size := (Array.getElem?_eq_some_iff.1 h0).1
                              obtain ⟨n, hn⟩ : ∃ n, ops.size = n + 1 := ⟨ops.size - 1, by omega⟩
                              rw [hn, List.range_succ_eq_map]; rfl
                            rw [hrange]
                            refine recover_sound hu hm h0 hg0 hop0 fun v' hv' => ?_
                            obtain ⟨f1, _⟩ := fput_rel hput (ainit_rel hinit ha) hv'
                            refine arunOpsS_sound (G := X.G) ok hc hops f1 r (hB.of (Nat.le_refl _) hnx2) _ fun ex a' w' ho => ?_
                            obtain ⟨ρ1, o1, o2, _, o4, o5⟩ := ho
                            cases ex <;> first | exact o1.elim | skip
                            refine wpS_of_wp (arunC_sound ok hd hc hl hrun o2 trivial o4 (hB.of o5.size (Nat.le_refl _)) _ fun ex2 a2 w2 ho2 => ?_)
                            obtain ⟨ρ2, p1, p2, _, p4, p5⟩ := ho2
                            have hd0 : a2.defers = [] := by
                              have := p2.3
                              simp only [hfd] at this
                              generalize a2.defers = dd at this
                              cases this; rfl
                            obtain ⟨v2, q1, q2⟩ := aresults_sound (P := P) p4 p2 hv
                            have hx : Ext ρ h w ρ2 h1 w2 := o5.trans p5
                            have hpost : bodyPostS P fn c₀ cs (DPost X ρ h w m m.pans h1) .normal a2 ({ c₀ with mode := m.after u } :: cs) w2 := by
                              refine ⟨hd0, _, rfl, v2, q1, ⟨v2, rfl⟩, ρ2, p4, hx, ?_⟩
                              cases m with
                              | ret => have hm' : u = .returning := hm; subst hm'; rfl
                              | pan vv => obtain ⟨v3, _, rfl⟩ := hm; rfl
                            rcases hxx with hxx | hxx
                            · simp only [hxx] at p1; cases ex2 <;> first | exact p1.elim | exact hpost
                            · simp only [hxx] at p1; cases ex2 <;> first | exact p1.elim | exact hpost
                          split at e
                          · cases e; exact fin (.inl rfl) rfl rfl
                          · cases e; exact fin (.inr rfl) rfl rfl
                          · cases e
                  · cases e
              · split at e
                · cases e
                · rename_i x fr1 h2 hrun
                  have hnx := arunC_next ok hd hc hl hrun
                  split at e
                  · cases e
                  rename_i hfd
                  split at e
                  · cases e
                  · rename_i v hv
                    have fin : (x = .normal ∨ x = .ret) → b = false → h1 = h2 → (∀ fn', P.funcs[f]? = some fn' → fn'.body.isSome = true → ∀ (X : Cx) ρ w args' u, X.G = G → Rel X ρ h w → Room X w h1 → VRL ρ args args'.toList → MR ρ m u → CallsD P f args' u w (DPost X ρ h w m b h1)) ∧ h.next ≤ h1.next := by
                      rintro hxx rfl rfl
                      refine ⟨fun fn' _ _ X ρ w args' u hG r hB ha hm => ?_, hnx⟩
                      subst hG
                      refine (callsD_of_wp (R := fun e w' => ∃ v', e = .returned v' ∧ ∃ ρ', Rel X ρ' h1 w' ∧ Ext ρ h w ρ' h1 w') hfn hbody (arunC_sound ok hd hc hl hrun (ainit_rel hinit ha) trivial r hB _ fun ex a' w' ho => ?_)).mono fun en u' w' hp => ?_
                      · obtain ⟨ρ1, o1, o2, _, o4, o5⟩ := ho
                        have hd0 : a'.defers = [] := by
                          have := o2.3
                          simp only [hfd] at this
                          generalize a'.defers = dd at this
                          cases this; rfl
                        obtain ⟨v', q1, q2⟩ := aresults_sound (P := P) o4 o2 hv
                        have hpost : bodyPost P fn (fun e w' => ∃ v', e = .returned v' ∧ ∃ ρ', Rel X ρ' h1 w' ∧ Ext ρ h w ρ' h1 w') .normal a' w' := ⟨hd0, v', q1, v', rfl, ρ1, o4, o5⟩
                        rcases hxx with hxx | hxx
                        · simp only [hxx] at o1; cases ex <;> first | exact o1.elim | exact hpost
                        · simp only [hxx] at o1; cases ex <;> first | exact o1.elim | exact hpost
                      · obtain ⟨rfl, v', rfl, ρ', p1, p2⟩ := hp
                        refine ⟨⟨v', rfl⟩, ρ', p1, p2, ?_⟩
                        rw [hm.settle]; exact hm.mono p2.le
                    split at e
                    · cases e; exact fin (.inl rfl) rfl rfl
                    · cases e; exact fin (.inr rfl) rfl rfl
                    · cases e
end
end Go.VII
