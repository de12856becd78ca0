/- Frames; the operations of a region in the text's order. -/
import Derived.Test.YtafaeibcpanaeaaGreatDoorV14
namespace Go.VII
noncomputable section
variable {P : Program} {X : Cx} {ρ : Rho} {h : AH} {w : World} {ext : FuncId → Option Spec}
def FDEP : Nat := 12
def FLIM : Nat := 4096
structure AFr where
  n : Nat
  t : Tr Value
  d : List (FuncId × List Value)
/-- What is deferred. A mark that a range over a function has left is of a name without an object. -/
def MARK : Nat := 1073741824
inductive DR (ρ : Rho) : List (FuncId × List Value) → List Deferred → Prop
  | nil : DR ρ [] []
  | cons {g : FuncId} {l : List Value} {as cap : Array Value} {ds : List (FuncId × List Value)} {dd : List Deferred} : VRL ρ l (as ++ cap).toList → DR ρ ds dd → DR ρ ((g, l) :: ds) ({ target := .fn (.func g) cap, args := as } :: dd)
  | mark {N : Nat} {bi : BI} {ds : List (FuncId × List Value)} {dd : List Deferred} : ρ N = some bi → DR ρ ds dd → DR ρ ((MARK, [.pointer (some ⟨N, 0, some 0⟩)]) :: ds) ({ target := .collected bi.blk, args := #[] } :: dd)
theorem DR.mono {ρ ρ' : Rho} (hl : ρ.le ρ') {ds : List (FuncId × List Value)} {dd : List Deferred} (h : DR ρ ds dd) : DR ρ' ds dd := by
  induction h with
  | nil => exact .nil
  | cons h _ ih => exact .cons (h.mono hl) ih
  | mark h _ ih => exact .mark (hl _ _ h) ih
theorem VR.no_spot {ρ : Rho} {n o k : Nat} {v : Value} (h : VR ρ (.pointer (some ⟨n, o, some k⟩)) v) : False := by
  cases h with
  | flat h => simp [isFlat] at h
theorem DR.inv_mark {ρ : Rho} {N : Nat} {ds : List (FuncId × List Value)} {dd : List Deferred} (h : DR ρ ((MARK, [.pointer (some ⟨N, 0, some 0⟩)]) :: ds) dd) : ∃ bi dd', ρ N = some bi ∧ dd = { target := .collected bi.blk, args := #[] } :: dd' ∧ DR ρ ds dd' := by
  cases h with
  | @cons _ _ as cap _ _ h _ =>
    generalize (as ++ cap).toList = q at h
    cases h with
    | cons h _ => exact h.no_spot.elim
  | mark h k => exact ⟨_, _, h, rfl, k⟩
@[reducible] def Nd (_ : Act) : Prop := True
def AFr.get (fr : AFr) (i : Nat) : Option Value := Tr.get FDEP fr.t i
def aeval (G : GS) (fr : AFr) : Ev
  | .tmp t => fr.get t
  | .const v => bif isFlat v then some v else none
  | .global g => bif Nat.blt g G.g then some (.pointer (some ⟨g, 0, none⟩)) else none
  | .func f => some (.func (.func f) #[] #[])
structure FRel (ρ : Rho) (fr : AFr) (a : Act) : Prop where
  n : fr.n = a.tmps.size
  sl : ∀ t v, fr.get t = some v → VR ρ v (a.tmps.getD t undef)
  dr : DR ρ fr.d a.defers
theorem FRel.mono {ρ ρ' : Rho} (hl : ρ.le ρ') {fr : AFr} {a : Act} (f : FRel ρ fr a) : FRel ρ' fr a := ⟨f.1, fun t v e => (f.2 t v e).mono hl, f.3.mono hl⟩
theorem aeval_rel (r : Rel X ρ h w) {fr : AFr} {a : Act} (f : FRel ρ fr a) : EvR ρ (aeval X.G fr) a.eval := by
  intro x v e
  cases x with
  | tmp t => exact f.2 t v e
  | const u =>
    simp only [aeval] at e
    obtain ⟨e1, e2⟩ := bif_some e
    simp only [Option.some.injEq] at e2; subst e2
    exact .flat e1
  | global g =>
    simp only [aeval] at e
    obtain ⟨e1, e2⟩ := bif_some e
    simp only [Option.some.injEq] at e2; subst e2
    obtain ⟨rs, hg⟩ := r.glob.1 g ((blt_iff _ _).1 e1)
    exact .ptr (bi := ⟨g, 0, rs, 0⟩) hg
  | func g =>
    simp only [aeval, Option.some.injEq] at e; subst e
    exact .func .nil .nil
def fput (fr : AFr) (d : Option Tmp) (v : Value) : Option AFr :=
  match d with
  | none => some fr
  | some d => match fr with
    | ⟨n, t, dd⟩ => Bool.rec (motive := fun _ => Option AFr) none (Bool.rec (motive := fun _ => Option AFr) none (some ⟨n, Tr.set FDEP t d (some v), dd⟩) (Nat.ble (Nat.succ d) FLIM)) (Nat.ble (Nat.succ d) n)
theorem fput_def (fr : AFr) (d : Option Tmp) (v : Value) : fput fr d v = match d with
  | none => some fr
  | some d => bif Nat.blt d fr.n && Nat.blt d FLIM then some { fr with t := Tr.set FDEP fr.t d (some v) } else none := by
  cases d with
  | none => rfl
  | some d =>
    have e : fput fr (some d) v = Bool.rec (motive := fun _ => Option AFr) none (Bool.rec (motive := fun _ => Option AFr) none (some { fr with t := Tr.set FDEP fr.t d (some v) }) (Nat.blt d FLIM)) (Nat.blt d fr.n) := rfl
    rw [e]
    simp only
    cases Nat.blt d fr.n <;> cases Nat.blt d FLIM <;> rfl
theorem fput_rel {fr fr' : AFr} {a : Act} {d : Option Tmp} {v v' : Value} (e : fput fr d v = some fr') (f : FRel ρ fr a) (hv : VR ρ v v') : FRel ρ fr' (a.put d v') ∧ (a.put d v').defers = a.defers := by
  rw [fput_def] at e
  cases d with
  | none => simp only [Option.some.injEq] at e; subst e; exact ⟨f, rfl⟩
  | some d =>
    simp only at e
    obtain ⟨e1, e2⟩ := bif_some e
    simp only [Option.some.injEq] at e2; subst e2
    simp only [Bool.and_eq_true, blt_iff] at e1
    refine ⟨⟨by simp [Act.put, f.1], fun t u hu => ?_, f.3⟩, rfl⟩
    by_cases ht : d = t
    · subst ht
      have hg : Tr.get FDEP (Tr.set FDEP fr.t d (some v)) d = some v := Tr.get_set_same _ _ _ _ e1.2
      simp only [AFr.get] at hu
      rw [hg] at hu; cases hu
      have hsz : d < a.tmps.size := by have hfn : fr.n = a.tmps.size := f.1; rw [← hfn]; exact e1.1
      simp only [Act.put]
      rw [Array.getD_eq_getD_getElem?, Array.getElem?_setIfInBounds, if_pos rfl, if_pos hsz]
      exact hv
    · have hg : Tr.get FDEP (Tr.set FDEP fr.t d (some v)) t = Tr.get FDEP fr.t t := Tr.get_set_ne _ _ _ _ _ ht
      simp only [AFr.get] at hu
      rw [hg] at hu
      have := f.2 t u hu
      simp only [Act.put]
      rw [Array.getD_eq_getD_getElem?, Array.getElem?_setIfInBounds, if_neg ht]
      rwa [Array.getD_eq_getD_getElem?] at this
theorem fput_defer {fr fr' : AFr} {a : Act} {d : Option Tmp} {g : FuncId} {l : List Value} {as cap : Array Value} (e : fput fr d undef = some fr') (f : FRel ρ fr a) (hv : VRL ρ l (as ++ cap).toList) :
    FRel ρ { fr' with d := (g, l) :: fr'.d } ({ a with defers := { target := .fn (.func g) cap, args := as } :: a.defers }.put d undef) := by
  obtain ⟨f1, f2⟩ := fput_rel (v' := undef) e f (.tuple .nil)
  have h3 : DR ρ fr'.d a.defers := by rw [← f2]; exact f1.3
  cases d with
  | none => exact ⟨f1.1, f1.2, .cons hv h3⟩
  | some d => exact ⟨f1.1, f1.2, .cons hv h3⟩
inductive AExit where
  | normal
  | exit (id : Nat)
  | ret
  | panic (v : Value)
abbrev Res := AExit × AFr × AH
inductive CRes where
  | ret (v : Value) (h : AH)
  | panic (v : Value) (h : AH)
abbrev CallF := FuncId → List Value → AH → Option CRes
def CRes.heap : CRes → AH
  | .ret _ h => h
  | .panic _ h => h
/-- Does what a guard asks for hold? none: that isn't known. -/
def awanted (ops : Array Oper) (fr : AFr) (o : Oper) : Option Bool :=
  match o.guard with
  | none => some true
  | some (j, want) => match (ops[j]?).bind (·.dst) with
    | none => some false
    | some d => match fr.get d with
      | some (.bool b) => some (b == want)
      | some (.tuple _) => some false
      | _ => none
theorem awanted_sound {ops : Array Oper} {fr : AFr} {a : Act} {o : Oper} {b : Bool} (e : awanted ops fr o = some b) (f : FRel ρ fr a) : Region.wanted o (yielded ops a.tmps) = b := by
  unfold awanted at e
  unfold Region.wanted
  split at e
  · rename_i hg; simp only [Option.some.injEq] at e; subst e; simp [hg]
  · rename_i j want hg
    simp only [hg, yielded]
    cases hd : (ops[j]?).bind (·.dst) with
    | none => simp only [hd, Option.some.injEq] at e; subst e; simp
    | some d =>
      simp only [hd] at e
      have hf := f.2 d
      simp only [Option.bind_some]
      split at e
      · rename_i c hc
        simp only [Option.some.injEq] at e; subst e
        have := (hf _ hc).flat_eq rfl
        rw [Array.getD_eq_getD_getElem?] at this
        cases ht : a.tmps[d]? with
        | none => rw [ht] at this; simp [undef] at this
        | some u => rw [ht] at this; simp only [Option.getD_some] at this; subst this; simp
      · rename_i c hc
        simp only [Option.some.injEq] at e; subst e
        obtain ⟨c', h1, _⟩ := (hf _ hc).inv_tuple
        rw [Array.getD_eq_getD_getElem?] at h1
        cases ht : a.tmps[d]? with
        | none => simp
        | some u => rw [ht] at h1; simp only [Option.getD_some] at h1; subst h1; simp
      · cases e
def arunOps (P : Program) (G : GS) (ext : FuncId → Option Spec) (call : CallF) (ops : Array Oper) : List Nat → AFr → AH → Option Res
  | [], fr, h => some (.normal, fr, h)
  | i :: rest, fr, h => match ops[i]? with
    | none => none
    | some o => match awanted ops fr o with
      | none => none
      | some false => (match fput fr o.dst undef with
        | none => none
        | some fr1 => arunOps P G ext call ops rest fr1 h)
      | some true => match aop P ext (aeval G fr) o h with
        | none => none
        | some (.value v h1) => (match fput fr o.dst v with
          | none => none
          | some fr1 => arunOps P G ext call ops rest fr1 h1)
        | some (.panic v) => some (.panic v, fr, h)
        | some (.defer g args) => (match fput fr o.dst undef with
          | none => none
          | some ⟨n1, t1, d1⟩ => arunOps P G ext call ops rest ⟨n1, t1, (g, args) :: d1⟩ h)
        | some (.enter f args) => (match call f args h with
          | none => none
          | some (.panic v h1) => some (.panic v, fr, h1)
          | some (.ret v h1) => match fput fr o.dst v with
            | none => none
            | some fr1 => arunOps P G ext call ops rest fr1 h1)
/-- One operation of a region, and what comes behind it. -/
def ostep (P : Program) (G : GS) (ext : FuncId → Option Spec) (call : CallF) (ops : Array Oper) (o : Oper) (k : AFr → AH → Option Res) (fr : AFr) (h : AH) : Option Res :=
  match awanted ops fr o with
  | none => none
  | some false => (match fput fr o.dst undef with
    | none => none
    | some fr1 => k fr1 h)
  | some true => match aopQ P ext (aeval G fr) o h with
    | none => none
    | some (.value v h1) => (match fput fr o.dst v with
      | none => none
      | some fr1 => k fr1 h1)
    | some (.panic v) => some (.panic v, fr, h)
    | some (.defer g args) => (match fput fr o.dst undef with
      | none => none
      | some ⟨n1, t1, d1⟩ => k ⟨n1, t1, (g, args) :: d1⟩ h)
    | some (.enter f args) => (match call f args h with
      | none => none
      | some (.panic v h1) => some (.panic v, fr, h1)
      | some (.ret v h1) => match fput fr o.dst v with
        | none => none
        | some fr1 => k fr1 h1)
def arunL (P : Program) (G : GS) (ext : FuncId → Option Spec) (call : CallF) (ops : Array Oper) (l : List Oper) : AFr → AH → Option Res :=
  List.rec (motive := fun _ => AFr → AH → Option Res) (fun fr h => some (.normal, fr, h)) (fun o _ ih fr h => ostep P G ext call ops o ih fr h) l
theorem arunL_from (P : Program) (G : GS) (ext : FuncId → Option Spec) (call : CallF) (ops : Array Oper) : ∀ (l : List Oper) (i : Nat) (fr : AFr) (h : AH), (∀ j o, l[j]? = some o → ops[i + j]? = some o) → arunL P G ext call ops l fr h = arunOps P G ext call ops (List.range' i l.length) fr h
  | [], i, fr, h, _ => by simp [arunL, arunOps]
  | o :: l, i, fr, h, hl => by
    have h0 : ops[i]? = some o := by simpa using hl 0 o (by simp)
    have ih : ∀ fr h, arunL P G ext call ops l fr h = arunOps P G ext call ops (List.range' (i + 1) l.length) fr h := fun fr h => arunL_from P G ext call ops l (i + 1) fr h fun j o' hj => by
      have := hl (j + 1) o' (by simpa using hj)
      rw [show i + 1 + j = i + (j + 1) from by omega]; exact this
    have e1 : arunL P G ext call ops (o :: l) fr h = ostep P G ext call ops o (arunL P G ext call ops l) fr h := rfl
    rw [e1, List.length_cons, List.range'_succ]
    unfold arunOps ostep
    simp only [h0, aopQ_eq, ih]
theorem arunL_eq (P : Program) (G : GS) (ext : FuncId → Option Spec) (call : CallF) (ops : Array Oper) (fr : AFr) (h : AH) : arunL P G ext call ops ops.toList fr h = arunOps P G ext call ops (List.range ops.size) fr h := by
  rw [arunL_from P G ext call ops ops.toList 0 fr h (fun j o hj => by simpa using hj), List.range_eq_range', Array.length_toList]
def ExR (ρ : Rho) : AExit → Exit → Prop
  | .normal, .normal => True
  | .exit i, .exit j => i = j
  | .ret, .ret => True
  | .panic v, e => ∃ v', VR ρ v v' ∧ e = .panic [{ v := v', recovered := false }]
  | _, _ => False
def Out (X : Cx) (ρ : Rho) (h : AH) (w : World) (res : Res) (e : Exit) (a : Act) (w' : World) : Prop :=
  ∃ ρ', ExR ρ' res.1 e ∧ FRel ρ' res.2.1 a ∧ Nd a ∧ Rel X ρ' res.2.2 w' ∧ Ext ρ h w ρ' res.2.2 w'
theorem Out.trans {ρ1 : Rho} {h1 : AH} {w1 : World} {res : Res} {e : Exit} {a : Act} {w' : World} (x : Ext ρ h w ρ1 h1 w1) (o : Out X ρ1 h1 w1 res e a w') : Out X ρ h w res e a w' := by
  obtain ⟨ρ', a1, a2, a3, a4, a5⟩ := o
  exact ⟨ρ', a1, a2, a3, a4, x.trans a5⟩
def CPost (X : Cx) (ρ : Rho) (h : AH) (w : World) (res : CRes) (e : Ending) (w' : World) : Prop :=
  match res with
  | .ret v h1 => ∃ v' ρ', e = .returned v' ∧ VR ρ' v v' ∧ Rel X ρ' h1 w' ∧ Ext ρ h w ρ' h1 w'
  | .panic v h1 => ∃ v' ρ', e = .panicked [{ v := v', recovered := false }] ∧ VR ρ' v v' ∧ Rel X ρ' h1 w' ∧ Ext ρ h w ρ' h1 w'
def CallSound (P : Program) (G : GS) (call : CallF) : Prop :=
  ∀ f args h res, call f args h = some res → (∀ fn, P.funcs[f]? = some fn → fn.body.isSome = true → ∀ (X : Cx) ρ w args', X.G = G → Rel X ρ h w → Room X w res.heap → VRL ρ args args'.toList → Calls P f args' w (CPost X ρ h w res)) ∧ h.next ≤ res.heap.next
theorem Room.of {X : Cx} {w w' : World} {h1 h2 : AH} (r : Room X w h2) (hs : w.heap.size ≤ w'.heap.size) (hn : h1.next ≤ h2.next) : Room X w' h1 :=
  ⟨Nat.le_trans r.1 hs, fun n hr => Nat.le_trans hn (r.2 n hr)⟩
theorem arunOps_next {G : GS} (ok : Okay P G ext) {call : CallF} (hc : CallSound P G call) {ops : Array Oper} : ∀ {l : List Nat} {fr : AFr} {h : AH} {res : Res}, arunOps P G ext call ops l fr h = some res → h.next ≤ res.2.2.next
  | [], fr, h, res, e => by simp only [arunOps, Option.some.injEq] at e; subst e; exact Nat.le_refl _
  | i :: rest, fr, h, res, e => by
    unfold arunOps at e
    split at e
    · cases e
    · split at e
      · cases e
      · split at e
        · cases e
        · exact arunOps_next ok hc e
      · split at e
        · cases e
        · rename_i h1 ho
          split at e
          · cases e
          · exact Nat.le_trans (aop_next ok ho) (arunOps_next ok hc e)
        · cases e; exact Nat.le_refl _
        · split at e
          · cases e
          · exact arunOps_next ok hc e
        · rename_i f args ho
          split at e
          · cases e
          · rename_i hcl; cases e; exact (hc _ _ _ _ hcl).2
          · rename_i hcl
            split at e
            · cases e
            · exact Nat.le_trans (hc _ _ _ _ hcl).2 (arunOps_next ok hc e)
theorem arunOps_sound (ok : Okay P X.G ext) {call : CallF} (hc : CallSound P X.G call) {ops : Array Oper} : ∀ {l : List Nat} {fr : AFr} {h : AH} {res : Res} {ρ : Rho} {w : World} {a : Act}, arunOps P X.G ext call ops l fr h = some res →
    FRel ρ fr a → Nd a → Rel X ρ h w → Room X w res.2.2 → ∀ (Q : Exit → Act → World → Prop), (∀ e a' w', Out X ρ h w res e a' w' → Q e a' w') → wpOps P ops Q l a w
  | [], fr, h, res, ρ, w, a, e, hf, hd, r, hB, Q, hQ => by
    simp only [arunOps, Option.some.injEq] at e; subst e
    exact hQ _ _ _ ⟨ρ, trivial, hf, hd, r, .refl _ _ _⟩
  | i :: rest, fr, h, res, ρ, w, a, e, hf, hd, r, hB, Q, hQ => by
    unfold arunOps at e
    unfold wpOps
    split at e
    · cases e
    · rename_i o ho
      split at e
      · cases e
      · rename_i hw
        have hw' := awanted_sound hw hf
        simp only [ho, hw', Bool.false_eq_true, if_false]
        split at e
        · cases e
        · rename_i fr1 hp
          obtain ⟨f1, f2⟩ := fput_rel (v' := undef) hp hf (.tuple .nil)
          exact arunOps_sound ok hc e f1 trivial r hB Q hQ
      · rename_i hw
        have hw' := awanted_sound hw hf
        simp only [ho, hw', if_true]
        refine Or.inl ?_
        split at e
        · cases e
        · rename_i v h1 hop
          split at e
          · cases e
          · rename_i fr1 hp
            have hnx := arunOps_next ok hc e
            obtain ⟨v', w1, ρ1, g1, g2, g3, g4⟩ := aop_sound ok r (nx := .value v h1) (hB.of (Nat.le_refl _) hnx) (aeval_rel r hf) hop
            refine g1 _ _ ?_
            obtain ⟨f1, f2⟩ := fput_rel hp (hf.mono g4.le) g2
            exact arunOps_sound ok hc e f1 trivial g3 (hB.of g4.size (Nat.le_refl _)) Q fun e a' w' ho => hQ e a' w' (ho.trans g4)
        · rename_i v hop
          cases e
          obtain ⟨v', g1, g2⟩ := aop_sound ok r (nx := .panic v) hB.1 (aeval_rel r hf) hop
          exact g2 _ _ (hQ _ _ _ ⟨ρ, ⟨v', g1, rfl⟩, hf, hd, r, .refl _ _ _⟩)
        · rename_i g args hop
          split at e
          · cases e
          · rename_i fr1 hp
            obtain ⟨as, cap, q1, q2, q3⟩ := aop_sound ok r (nx := .defer g args) (Nat.le_trans hB.1 (Nat.le_refl _)) (aeval_rel r hf) hop
            refine q3 _ _ ?_
            exact arunOps_sound ok hc e (fput_defer hp hf q1) trivial r hB Q hQ
        · rename_i f args hop
          obtain ⟨args', fn, q1, q2, q3, q4⟩ := aop_sound ok r (nx := .enter f args) hB.1 (aeval_rel r hf) hop
          refine q4 _ _ ?_
          split at e
          · cases e
          · rename_i v h1 hcl
            cases e
            refine ((hc _ _ _ _ hcl).1 fn q1 q2 X ρ w args' rfl r hB q3).mono fun en w'' hp => ?_
            obtain ⟨v', ρ', rfl, p1, p2, p3⟩ := hp
            exact hQ _ _ _ ⟨ρ', ⟨v', p1, rfl⟩, hf.mono p3.le, hd, p2, p3⟩
          · rename_i v h1 hcl
            split at e
            · cases e
            · rename_i fr1 hp
              have hnx := arunOps_next ok hc e
              refine ((hc _ _ _ _ hcl).1 fn q1 q2 X ρ w args' rfl r (hB.of (Nat.le_refl _) hnx) q3).mono fun en w'' hpp => ?_
              obtain ⟨v', ρ', rfl, p1, p2, p3⟩ := hpp
              obtain ⟨f1, f2⟩ := fput_rel hp (hf.mono p3.le) p1
              exact arunOps_sound ok hc e f1 trivial p2 (hB.of p3.size (Nat.le_refl _)) Q fun e a' w' ho => hQ e a' w' (ho.trans p3)
end
end Go.VII
